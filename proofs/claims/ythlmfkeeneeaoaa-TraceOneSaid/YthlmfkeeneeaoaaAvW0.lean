/- Generic: a calculus of what calls do to memory that is given by its values. It states nothing of the program. -/
import Derived.Test.YthlmfkeeneeaoaaProg
import Derived.Test.YthlmfkeeneeaoaaAvG3
import Derived.KernelRfl
set_option linter.all false
set_option linter.unnecessarySimpa false
set_option linter.unusedVariables false
set_option linter.unusedSimpArgs false
namespace Go.Proofs.Ythlmfkeeneeaoaa
open Go.Av
def td1 : TD := { size := 1, bytes := 8, agg := false, zero := [Value.nilFunc], zagg := false, fok := false, fl := [], kind := K.func }
def td2 : TD := { size := 1, bytes := 8, agg := false, zero := [Value.int IntKind.i64 0], zagg := false, fok := false, fl := [], kind := K.int IntKind.i64 }
def td3 : TD := { size := 1, bytes := 8, agg := false, zero := [Value.int IntKind.i64 0], zagg := false, fok := false, fl := [], kind := K.int IntKind.i64 }
def td4 : TD := { size := 1, bytes := 1, agg := false, zero := [Value.bool false], zagg := false, fok := false, fl := [], kind := K.bool }
def td5 : TD := { size := 1, bytes := 1, agg := false, zero := [Value.int IntKind.u8 0], zagg := false, fok := false, fl := [], kind := K.int IntKind.u8 }
def td6 : TD := { size := 1, bytes := 1, agg := false, zero := [Value.int IntKind.u8 0], zagg := false, fok := false, fl := [], kind := K.int IntKind.u8 }
def td7 : TD := { size := 4, bytes := 24, agg := true, zero := [Value.int IntKind.i64 0, Value.int IntKind.i64 0, Value.bool false, Value.int IntKind.u8 0], zagg := true, fok := true, fl := [(0, 1, false), (1, 1, false), (2, 1, false), (3, 1, false)], kind := K.struct }
def td8 : TD := { size := 4, bytes := 24, agg := true, zero := [Value.int IntKind.i64 0, Value.int IntKind.i64 0, Value.bool false, Value.int IntKind.u8 0], zagg := true, fok := true, fl := [(0, 1, false), (1, 1, false), (2, 1, false), (3, 1, false)], kind := K.struct }
def td12 : TD := { size := 1, bytes := 8, agg := false, zero := [Value.int IntKind.u64 0], zagg := false, fok := false, fl := [], kind := K.int IntKind.u64 }
def td15 : TD := { size := 1, bytes := 8, agg := false, zero := [Value.pointer none], zagg := false, fok := false, fl := [], kind := K.pointer 85 }
def td16 : TD := { size := 1, bytes := 8, agg := false, zero := [Value.pointer none], zagg := false, fok := false, fl := [], kind := K.pointer 88 }
def td17 : TD := { size := 1, bytes := 8, agg := false, zero := [Value.pointer none], zagg := false, fok := false, fl := [], kind := K.pointer 98 }
def td18 : TD := { size := 1, bytes := 8, agg := true, zero := [Value.pointer none], zagg := true, fok := true, fl := [(0, 1, false)], kind := K.struct }
def td19 : TD := { size := 1, bytes := 8, agg := true, zero := [Value.pointer none], zagg := true, fok := true, fl := [(0, 1, false)], kind := K.struct }
def td21 : TD := { size := 1, bytes := 4, agg := false, zero := [Value.int IntKind.i32 0], zagg := false, fok := false, fl := [], kind := K.int IntKind.i32 }
def td22 : TD := { size := 1, bytes := 24, agg := false, zero := [Value.slice none 0 0], zagg := false, fok := false, fl := [], kind := K.slice 58 }
def td23 : TD := { size := 2, bytes := 32, agg := true, zero := [Value.slice none 0 0, Value.int IntKind.i64 0], zagg := true, fok := true, fl := [(0, 1, false), (1, 1, false)], kind := K.struct }
def td24 : TD := { size := 2, bytes := 32, agg := true, zero := [Value.slice none 0 0, Value.int IntKind.i64 0], zagg := true, fok := true, fl := [(0, 1, false), (1, 1, false)], kind := K.struct }
def td25 : TD := { size := 1, bytes := 24, agg := false, zero := [Value.slice none 0 0], zagg := false, fok := false, fl := [], kind := K.slice 51 }
def td26 : TD := { size := 1, bytes := 8, agg := false, zero := [Value.nilFunc], zagg := false, fok := false, fl := [], kind := K.func }
def td27 : TD := { size := 1, bytes := 8, agg := false, zero := [Value.nilFunc], zagg := false, fok := false, fl := [], kind := K.func }
def td28 : TD := { size := 1, bytes := 8, agg := false, zero := [Value.nilFunc], zagg := false, fok := false, fl := [], kind := K.func }
def td29 : TD := { size := 1, bytes := 8, agg := false, zero := [Value.int IntKind.i64 0], zagg := false, fok := false, fl := [], kind := K.int IntKind.i64 }
def td31 : TD := { size := 1, bytes := 8, agg := false, zero := [Value.nilFunc], zagg := false, fok := false, fl := [], kind := K.func }
def td32 : TD := { size := 1, bytes := 8, agg := false, zero := [Value.nilFunc], zagg := false, fok := false, fl := [], kind := K.func }
def td33 : TD := { size := 1, bytes := 8, agg := false, zero := [Value.nilFunc], zagg := false, fok := false, fl := [], kind := K.func }
def td34 : TD := { size := 1, bytes := 8, agg := false, zero := [Value.nilFunc], zagg := false, fok := false, fl := [], kind := K.func }
def td35 : TD := { size := 1, bytes := 8, agg := false, zero := [Value.nilFunc], zagg := false, fok := false, fl := [], kind := K.func }
def td36 : TD := { size := 1, bytes := 8, agg := false, zero := [Value.nilFunc], zagg := false, fok := false, fl := [], kind := K.func }
def td38 : TD := { size := 1, bytes := 8, agg := false, zero := [Value.nilFunc], zagg := false, fok := false, fl := [], kind := K.func }
def td39 : TD := { size := 1, bytes := 24, agg := false, zero := [Value.slice none 0 0], zagg := false, fok := false, fl := [], kind := K.slice 42 }
def td40 : TD := { size := 1, bytes := 8, agg := false, zero := [Value.nilFunc], zagg := false, fok := false, fl := [], kind := K.func }
def td41 : TD := { size := 3, bytes := 24, agg := true, zero := [Value.int IntKind.i64 0, Value.int IntKind.i64 0, Value.int IntKind.i64 0], zagg := true, fok := true, fl := [(0, 1, false), (1, 1, false), (2, 1, false)], kind := K.struct }
def td42 : TD := { size := 3, bytes := 24, agg := true, zero := [Value.int IntKind.i64 0, Value.int IntKind.i64 0, Value.int IntKind.i64 0], zagg := true, fok := true, fl := [(0, 1, false), (1, 1, false), (2, 1, false)], kind := K.struct }
def td43 : TD := { size := 1, bytes := 8, agg := false, zero := [Value.nilFunc], zagg := false, fok := false, fl := [], kind := K.func }
def td44 : TD := { size := 1, bytes := 8, agg := false, zero := [Value.nilFunc], zagg := false, fok := false, fl := [], kind := K.func }
def td45 : TD := { size := 1, bytes := 24, agg := false, zero := [Value.slice none 0 0], zagg := false, fok := false, fl := [], kind := K.slice 47 }
def td46 : TD := { size := 2, bytes := 32, agg := true, zero := [Value.int IntKind.i64 0, Value.slice none 0 0], zagg := true, fok := true, fl := [(0, 1, false), (1, 1, false)], kind := K.struct }
def td47 : TD := { size := 2, bytes := 32, agg := true, zero := [Value.int IntKind.i64 0, Value.slice none 0 0], zagg := true, fok := true, fl := [(0, 1, false), (1, 1, false)], kind := K.struct }
def td49 : TD := { size := 1, bytes := 8, agg := false, zero := [Value.nilFunc], zagg := false, fok := false, fl := [], kind := K.func }
def td50 : TD := { size := 2, bytes := 16, agg := true, zero := [Value.int IntKind.i64 0, Value.int IntKind.i64 0], zagg := true, fok := true, fl := [(0, 1, false), (1, 1, false)], kind := K.struct }
def td51 : TD := { size := 2, bytes := 16, agg := true, zero := [Value.int IntKind.i64 0, Value.int IntKind.i64 0], zagg := true, fok := true, fl := [(0, 1, false), (1, 1, false)], kind := K.struct }
def td52 : TD := { size := 1, bytes := 8, agg := false, zero := [Value.nilFunc], zagg := false, fok := false, fl := [], kind := K.func }
def td53 : TD := { size := 2, bytes := 16, agg := true, zero := [Value.int IntKind.i64 0, Value.int IntKind.i64 0], zagg := true, fok := false, fl := [], kind := K.array 2 3 }
def td54 : TD := { size := 2, bytes := 16, agg := true, zero := [Value.int IntKind.i64 0, Value.int IntKind.i64 0], zagg := true, fok := false, fl := [], kind := K.array 2 2 }
def td55 : TD := { size := 1, bytes := 8, agg := false, zero := [Value.nilFunc], zagg := false, fok := false, fl := [], kind := K.func }
def td56 : TD := { size := 1, bytes := 8, agg := false, zero := [Value.nilFunc], zagg := false, fok := false, fl := [], kind := K.func }
def td57 : TD := { size := 2, bytes := 32, agg := true, zero := [Value.int IntKind.i64 0, Value.slice none 0 0], zagg := true, fok := true, fl := [(0, 1, false), (1, 1, false)], kind := K.struct }
def td58 : TD := { size := 2, bytes := 32, agg := true, zero := [Value.int IntKind.i64 0, Value.slice none 0 0], zagg := true, fok := true, fl := [(0, 1, false), (1, 1, false)], kind := K.struct }
def td59 : TD := { size := 1, bytes := 8, agg := false, zero := [Value.nilFunc], zagg := false, fok := false, fl := [], kind := K.func }
def td60 : TD := { size := 1, bytes := 8, agg := false, zero := [Value.nilFunc], zagg := false, fok := false, fl := [], kind := K.func }
def td61 : TD := { size := 1, bytes := 24, agg := false, zero := [Value.slice none 0 0], zagg := false, fok := false, fl := [], kind := K.slice 2 }
def td62 : TD := { size := 1, bytes := 8, agg := false, zero := [Value.nilFunc], zagg := false, fok := false, fl := [], kind := K.func }
def td63 : TD := { size := 1, bytes := 8, agg := false, zero := [Value.map none], zagg := false, fok := false, fl := [], kind := K.map 3 4 }
def td64 : TD := { size := 1, bytes := 8, agg := false, zero := [Value.nilFunc], zagg := false, fok := false, fl := [], kind := K.func }
def td65 : TD := { size := 1, bytes := 8, agg := false, zero := [Value.nilFunc], zagg := false, fok := false, fl := [], kind := K.func }
def td66 : TD := { size := 1, bytes := 8, agg := false, zero := [Value.nilFunc], zagg := false, fok := false, fl := [], kind := K.func }
def td67 : TD := { size := 1, bytes := 8, agg := false, zero := [Value.nilFunc], zagg := false, fok := false, fl := [], kind := K.func }
def td68 : TD := { size := 1, bytes := 8, agg := false, zero := [Value.nilFunc], zagg := false, fok := false, fl := [], kind := K.func }
def td69 : TD := { size := 1, bytes := 8, agg := false, zero := [Value.nilFunc], zagg := false, fok := false, fl := [], kind := K.func }
def td70 : TD := { size := 1, bytes := 8, agg := false, zero := [Value.nilFunc], zagg := false, fok := false, fl := [], kind := K.func }
def td71 : TD := { size := 1, bytes := 8, agg := false, zero := [Value.nilFunc], zagg := false, fok := false, fl := [], kind := K.func }
def td72 : TD := { size := 1, bytes := 8, agg := false, zero := [Value.nilFunc], zagg := false, fok := false, fl := [], kind := K.func }
def td73 : TD := { size := 1, bytes := 8, agg := false, zero := [Value.nilFunc], zagg := false, fok := false, fl := [], kind := K.func }
def td74 : TD := { size := 1, bytes := 8, agg := false, zero := [Value.nilFunc], zagg := false, fok := false, fl := [], kind := K.func }
def td75 : TD := { size := 1, bytes := 8, agg := false, zero := [Value.nilFunc], zagg := false, fok := false, fl := [], kind := K.func }
def td76 : TD := { size := 1, bytes := 8, agg := false, zero := [Value.nilFunc], zagg := false, fok := false, fl := [], kind := K.func }
def td77 : TD := { size := 1, bytes := 8, agg := false, zero := [Value.nilFunc], zagg := false, fok := false, fl := [], kind := K.func }
def td78 : TD := { size := 1, bytes := 8, agg := false, zero := [Value.nilFunc], zagg := false, fok := false, fl := [], kind := K.func }
def td79 : TD := { size := 1, bytes := 8, agg := false, zero := [Value.nilFunc], zagg := false, fok := false, fl := [], kind := K.func }
def td80 : TD := { size := 1, bytes := 8, agg := false, zero := [Value.nilFunc], zagg := false, fok := false, fl := [], kind := K.func }
def td81 : TD := { size := 1, bytes := 8, agg := false, zero := [Value.nilFunc], zagg := false, fok := false, fl := [], kind := K.func }
def td82 : TD := { size := 1, bytes := 8, agg := false, zero := [Value.nilFunc], zagg := false, fok := false, fl := [], kind := K.func }
def td83 : TD := { size := 1, bytes := 8, agg := false, zero := [Value.nilFunc], zagg := false, fok := false, fl := [], kind := K.func }
def td86 : TD := { size := 0, bytes := 0, agg := true, zero := [], zagg := true, fok := false, fl := [], kind := K.array 0 16 }
def td87 : TD := { size := 0, bytes := 0, agg := true, zero := [], zagg := true, fok := true, fl := [(0, 0, true)], kind := K.struct }
def td88 : TD := { size := 0, bytes := 0, agg := true, zero := [], zagg := true, fok := true, fl := [(0, 0, true)], kind := K.struct }
def td89 : TD := { size := 1, bytes := 8, agg := false, zero := [Value.nilFunc], zagg := false, fok := false, fl := [], kind := K.func }
def td90 : TD := { size := 1, bytes := 4, agg := false, zero := [Value.int IntKind.u32 0], zagg := false, fok := false, fl := [], kind := K.int IntKind.u32 }
def td91 : TD := { size := 1, bytes := 1, agg := false, zero := [Value.int IntKind.u8 0], zagg := false, fok := false, fl := [], kind := K.int IntKind.u8 }
def td92 : TD := { size := 1, bytes := 1, agg := false, zero := [Value.int IntKind.u8 0], zagg := false, fok := false, fl := [], kind := K.int IntKind.u8 }
def td93 : TD := { size := 1, bytes := 8, agg := false, zero := [Value.nilFunc], zagg := false, fok := false, fl := [], kind := K.func }
def td94 : TD := { size := 1, bytes := 8, agg := false, zero := [Value.pointer none], zagg := false, fok := false, fl := [], kind := K.pointer 5 }
def td95 : TD := { size := 1, bytes := 4, agg := false, zero := [Value.int IntKind.i32 0], zagg := false, fok := false, fl := [], kind := K.int IntKind.i32 }
def td96 : TD := { size := 1, bytes := 4, agg := false, zero := [Value.int IntKind.i32 0], zagg := false, fok := false, fl := [], kind := K.int IntKind.i32 }
def td97 : TD := { size := 11, bytes := 48, agg := true, zero := [Value.int IntKind.u64 0, Value.int IntKind.u64 0, Value.int IntKind.u32 0, Value.int IntKind.u8 0, Value.int IntKind.u8 0, Value.int IntKind.u8 0, Value.int IntKind.u8 0, Value.nilFunc, Value.pointer none, Value.int IntKind.i32 0, Value.int IntKind.i32 0], zagg := true, fok := true, fl := [(0, 1, false), (1, 1, false), (2, 1, false), (3, 1, false), (4, 1, false), (5, 1, false), (6, 1, false), (7, 1, false), (8, 1, false), (9, 1, false), (10, 1, false)], kind := K.struct }
def td98 : TD := { size := 11, bytes := 48, agg := true, zero := [Value.int IntKind.u64 0, Value.int IntKind.u64 0, Value.int IntKind.u32 0, Value.int IntKind.u8 0, Value.int IntKind.u8 0, Value.int IntKind.u8 0, Value.int IntKind.u8 0, Value.nilFunc, Value.pointer none, Value.int IntKind.i32 0, Value.int IntKind.i32 0], zagg := true, fok := true, fl := [(0, 1, false), (1, 1, false), (2, 1, false), (3, 1, false), (4, 1, false), (5, 1, false), (6, 1, false), (7, 1, false), (8, 1, false), (9, 1, false), (10, 1, false)], kind := K.struct }
def td99 : TD := { size := 1, bytes := 8, agg := false, zero := [Value.pointer none], zagg := false, fok := false, fl := [], kind := K.other }
def tl : List (Nat × TD) := [(1, td1), (2, td2), (3, td3), (4, td4), (5, td5), (6, td6), (7, td7), (8, td8), (12, td12), (15, td15), (16, td16), (17, td17), (18, td18), (19, td19), (21, td21), (22, td22), (23, td23), (24, td24), (25, td25), (26, td26), (27, td27), (28, td28), (29, td29), (31, td31), (32, td32), (33, td33), (34, td34), (35, td35), (36, td36), (38, td38), (39, td39), (40, td40), (41, td41), (42, td42), (43, td43), (44, td44), (45, td45), (46, td46), (47, td47), (49, td49), (50, td50), (51, td51), (52, td52), (53, td53), (54, td54), (55, td55), (56, td56), (57, td57), (58, td58), (59, td59), (60, td60), (61, td61), (62, td62), (63, td63), (64, td64), (65, td65), (66, td66), (67, td67), (68, td68), (69, td69), (70, td70), (71, td71), (72, td72), (73, td73), (74, td74), (75, td75), (76, td76), (77, td77), (78, td78), (79, td79), (80, td80), (81, td81), (82, td82), (83, td83), (86, td86), (87, td87), (88, td88), (89, td89), (90, td90), (91, td91), (92, td92), (93, td93), (94, td94), (95, td95), (96, td96), (97, td97), (98, td98), (99, td99)]
def T : Tb := tlook tl
theorem tdo1 : tdOf Try.prog 1 = some td1 := by kernel_rfl
theorem tdo2 : tdOf Try.prog 2 = some td2 := by kernel_rfl
theorem tdo3 : tdOf Try.prog 3 = some td3 := by kernel_rfl
theorem tdo4 : tdOf Try.prog 4 = some td4 := by kernel_rfl
theorem tdo5 : tdOf Try.prog 5 = some td5 := by kernel_rfl
theorem tdo6 : tdOf Try.prog 6 = some td6 := by kernel_rfl
theorem tdo7 : tdOf Try.prog 7 = some td7 := by kernel_rfl
theorem tdo8 : tdOf Try.prog 8 = some td8 := by kernel_rfl
theorem tdo12 : tdOf Try.prog 12 = some td12 := by kernel_rfl
theorem tdo15 : tdOf Try.prog 15 = some td15 := by kernel_rfl
theorem tdo16 : tdOf Try.prog 16 = some td16 := by kernel_rfl
theorem tdo17 : tdOf Try.prog 17 = some td17 := by kernel_rfl
theorem tdo18 : tdOf Try.prog 18 = some td18 := by kernel_rfl
theorem tdo19 : tdOf Try.prog 19 = some td19 := by kernel_rfl
theorem tdo21 : tdOf Try.prog 21 = some td21 := by kernel_rfl
theorem tdo22 : tdOf Try.prog 22 = some td22 := by kernel_rfl
theorem tdo23 : tdOf Try.prog 23 = some td23 := by kernel_rfl
theorem tdo24 : tdOf Try.prog 24 = some td24 := by kernel_rfl
theorem tdo25 : tdOf Try.prog 25 = some td25 := by kernel_rfl
theorem tdo26 : tdOf Try.prog 26 = some td26 := by kernel_rfl
theorem tdo27 : tdOf Try.prog 27 = some td27 := by kernel_rfl
theorem tdo28 : tdOf Try.prog 28 = some td28 := by kernel_rfl
theorem tdo29 : tdOf Try.prog 29 = some td29 := by kernel_rfl
theorem tdo31 : tdOf Try.prog 31 = some td31 := by kernel_rfl
theorem tdo32 : tdOf Try.prog 32 = some td32 := by kernel_rfl
theorem tdo33 : tdOf Try.prog 33 = some td33 := by kernel_rfl
theorem tdo34 : tdOf Try.prog 34 = some td34 := by kernel_rfl
theorem tdo35 : tdOf Try.prog 35 = some td35 := by kernel_rfl
theorem tdo36 : tdOf Try.prog 36 = some td36 := by kernel_rfl
theorem tdo38 : tdOf Try.prog 38 = some td38 := by kernel_rfl
theorem tdo39 : tdOf Try.prog 39 = some td39 := by kernel_rfl
theorem tdo40 : tdOf Try.prog 40 = some td40 := by kernel_rfl
theorem tdo41 : tdOf Try.prog 41 = some td41 := by kernel_rfl
theorem tdo42 : tdOf Try.prog 42 = some td42 := by kernel_rfl
theorem tdo43 : tdOf Try.prog 43 = some td43 := by kernel_rfl
theorem tdo44 : tdOf Try.prog 44 = some td44 := by kernel_rfl
theorem tdo45 : tdOf Try.prog 45 = some td45 := by kernel_rfl
theorem tdo46 : tdOf Try.prog 46 = some td46 := by kernel_rfl
theorem tdo47 : tdOf Try.prog 47 = some td47 := by kernel_rfl
theorem tdo49 : tdOf Try.prog 49 = some td49 := by kernel_rfl
theorem tdo50 : tdOf Try.prog 50 = some td50 := by kernel_rfl
theorem tdo51 : tdOf Try.prog 51 = some td51 := by kernel_rfl
theorem tdo52 : tdOf Try.prog 52 = some td52 := by kernel_rfl
theorem tdo53 : tdOf Try.prog 53 = some td53 := by kernel_rfl
theorem tdo54 : tdOf Try.prog 54 = some td54 := by kernel_rfl
theorem tdo55 : tdOf Try.prog 55 = some td55 := by kernel_rfl
theorem tdo56 : tdOf Try.prog 56 = some td56 := by kernel_rfl
theorem tdo57 : tdOf Try.prog 57 = some td57 := by kernel_rfl
theorem tdo58 : tdOf Try.prog 58 = some td58 := by kernel_rfl
theorem tdo59 : tdOf Try.prog 59 = some td59 := by kernel_rfl
theorem tdo60 : tdOf Try.prog 60 = some td60 := by kernel_rfl
theorem tdo61 : tdOf Try.prog 61 = some td61 := by kernel_rfl
theorem tdo62 : tdOf Try.prog 62 = some td62 := by kernel_rfl
theorem tdo63 : tdOf Try.prog 63 = some td63 := by kernel_rfl
theorem tdo64 : tdOf Try.prog 64 = some td64 := by kernel_rfl
theorem tdo65 : tdOf Try.prog 65 = some td65 := by kernel_rfl
theorem tdo66 : tdOf Try.prog 66 = some td66 := by kernel_rfl
theorem tdo67 : tdOf Try.prog 67 = some td67 := by kernel_rfl
theorem tdo68 : tdOf Try.prog 68 = some td68 := by kernel_rfl
theorem tdo69 : tdOf Try.prog 69 = some td69 := by kernel_rfl
theorem tdo70 : tdOf Try.prog 70 = some td70 := by kernel_rfl
theorem tdo71 : tdOf Try.prog 71 = some td71 := by kernel_rfl
theorem tdo72 : tdOf Try.prog 72 = some td72 := by kernel_rfl
theorem tdo73 : tdOf Try.prog 73 = some td73 := by kernel_rfl
theorem tdo74 : tdOf Try.prog 74 = some td74 := by kernel_rfl
theorem tdo75 : tdOf Try.prog 75 = some td75 := by kernel_rfl
theorem tdo76 : tdOf Try.prog 76 = some td76 := by kernel_rfl
theorem tdo77 : tdOf Try.prog 77 = some td77 := by kernel_rfl
theorem tdo78 : tdOf Try.prog 78 = some td78 := by kernel_rfl
theorem tdo79 : tdOf Try.prog 79 = some td79 := by kernel_rfl
theorem tdo80 : tdOf Try.prog 80 = some td80 := by kernel_rfl
theorem tdo81 : tdOf Try.prog 81 = some td81 := by kernel_rfl
theorem tdo82 : tdOf Try.prog 82 = some td82 := by kernel_rfl
theorem tdo83 : tdOf Try.prog 83 = some td83 := by kernel_rfl
theorem tdo86 : tdOf Try.prog 86 = some td86 := by kernel_rfl
theorem tdo87 : tdOf Try.prog 87 = some td87 := by kernel_rfl
theorem tdo88 : tdOf Try.prog 88 = some td88 := by kernel_rfl
theorem tdo89 : tdOf Try.prog 89 = some td89 := by kernel_rfl
theorem tdo90 : tdOf Try.prog 90 = some td90 := by kernel_rfl
theorem tdo91 : tdOf Try.prog 91 = some td91 := by kernel_rfl
theorem tdo92 : tdOf Try.prog 92 = some td92 := by kernel_rfl
theorem tdo93 : tdOf Try.prog 93 = some td93 := by kernel_rfl
theorem tdo94 : tdOf Try.prog 94 = some td94 := by kernel_rfl
theorem tdo95 : tdOf Try.prog 95 = some td95 := by kernel_rfl
theorem tdo96 : tdOf Try.prog 96 = some td96 := by kernel_rfl
theorem tdo97 : tdOf Try.prog 97 = some td97 := by kernel_rfl
theorem tdo98 : tdOf Try.prog 98 = some td98 := by kernel_rfl
theorem tdo99 : tdOf Try.prog 99 = some td99 := by kernel_rfl
theorem hT : Tab Try.prog T := fun t td h => by
  have h := tlook_mem h
  simp only [tl, List.mem_cons, List.not_mem_nil, or_false, Prod.mk.injEq] at h
  rcases h with ⟨rfl, rfl⟩ | ⟨rfl, rfl⟩ | ⟨rfl, rfl⟩ | ⟨rfl, rfl⟩ | ⟨rfl, rfl⟩ | ⟨rfl, rfl⟩ | ⟨rfl, rfl⟩ | ⟨rfl, rfl⟩ | ⟨rfl, rfl⟩ | ⟨rfl, rfl⟩ | ⟨rfl, rfl⟩ | ⟨rfl, rfl⟩ | ⟨rfl, rfl⟩ | ⟨rfl, rfl⟩ | ⟨rfl, rfl⟩ | ⟨rfl, rfl⟩ | ⟨rfl, rfl⟩ | ⟨rfl, rfl⟩ | ⟨rfl, rfl⟩ | ⟨rfl, rfl⟩ | ⟨rfl, rfl⟩ | ⟨rfl, rfl⟩ | ⟨rfl, rfl⟩ | ⟨rfl, rfl⟩ | ⟨rfl, rfl⟩ | ⟨rfl, rfl⟩ | ⟨rfl, rfl⟩ | ⟨rfl, rfl⟩ | ⟨rfl, rfl⟩ | ⟨rfl, rfl⟩ | ⟨rfl, rfl⟩ | ⟨rfl, rfl⟩ | ⟨rfl, rfl⟩ | ⟨rfl, rfl⟩ | ⟨rfl, rfl⟩ | ⟨rfl, rfl⟩ | ⟨rfl, rfl⟩ | ⟨rfl, rfl⟩ | ⟨rfl, rfl⟩ | ⟨rfl, rfl⟩ | ⟨rfl, rfl⟩ | ⟨rfl, rfl⟩ | ⟨rfl, rfl⟩ | ⟨rfl, rfl⟩ | ⟨rfl, rfl⟩ | ⟨rfl, rfl⟩ | ⟨rfl, rfl⟩ | ⟨rfl, rfl⟩ | ⟨rfl, rfl⟩ | ⟨rfl, rfl⟩ | ⟨rfl, rfl⟩ | ⟨rfl, rfl⟩ | ⟨rfl, rfl⟩ | ⟨rfl, rfl⟩ | ⟨rfl, rfl⟩ | ⟨rfl, rfl⟩ | ⟨rfl, rfl⟩ | ⟨rfl, rfl⟩ | ⟨rfl, rfl⟩ | ⟨rfl, rfl⟩ | ⟨rfl, rfl⟩ | ⟨rfl, rfl⟩ | ⟨rfl, rfl⟩ | ⟨rfl, rfl⟩ | ⟨rfl, rfl⟩ | ⟨rfl, rfl⟩ | ⟨rfl, rfl⟩ | ⟨rfl, rfl⟩ | ⟨rfl, rfl⟩ | ⟨rfl, rfl⟩ | ⟨rfl, rfl⟩ | ⟨rfl, rfl⟩ | ⟨rfl, rfl⟩ | ⟨rfl, rfl⟩ | ⟨rfl, rfl⟩ | ⟨rfl, rfl⟩ | ⟨rfl, rfl⟩ | ⟨rfl, rfl⟩ | ⟨rfl, rfl⟩ | ⟨rfl, rfl⟩ | ⟨rfl, rfl⟩ | ⟨rfl, rfl⟩ | ⟨rfl, rfl⟩ | ⟨rfl, rfl⟩ | ⟨rfl, rfl⟩ | ⟨rfl, rfl⟩ | ⟨rfl, rfl⟩ | ⟨rfl, rfl⟩
  · exact tdo1
  · exact tdo2
  · exact tdo3
  · exact tdo4
  · exact tdo5
  · exact tdo6
  · exact tdo7
  · exact tdo8
  · exact tdo12
  · exact tdo15
  · exact tdo16
  · exact tdo17
  · exact tdo18
  · exact tdo19
  · exact tdo21
  · exact tdo22
  · exact tdo23
  · exact tdo24
  · exact tdo25
  · exact tdo26
  · exact tdo27
  · exact tdo28
  · exact tdo29
  · exact tdo31
  · exact tdo32
  · exact tdo33
  · exact tdo34
  · exact tdo35
  · exact tdo36
  · exact tdo38
  · exact tdo39
  · exact tdo40
  · exact tdo41
  · exact tdo42
  · exact tdo43
  · exact tdo44
  · exact tdo45
  · exact tdo46
  · exact tdo47
  · exact tdo49
  · exact tdo50
  · exact tdo51
  · exact tdo52
  · exact tdo53
  · exact tdo54
  · exact tdo55
  · exact tdo56
  · exact tdo57
  · exact tdo58
  · exact tdo59
  · exact tdo60
  · exact tdo61
  · exact tdo62
  · exact tdo63
  · exact tdo64
  · exact tdo65
  · exact tdo66
  · exact tdo67
  · exact tdo68
  · exact tdo69
  · exact tdo70
  · exact tdo71
  · exact tdo72
  · exact tdo73
  · exact tdo74
  · exact tdo75
  · exact tdo76
  · exact tdo77
  · exact tdo78
  · exact tdo79
  · exact tdo80
  · exact tdo81
  · exact tdo82
  · exact tdo83
  · exact tdo86
  · exact tdo87
  · exact tdo88
  · exact tdo89
  · exact tdo90
  · exact tdo91
  · exact tdo92
  · exact tdo93
  · exact tdo94
  · exact tdo95
  · exact tdo96
  · exact tdo97
  · exact tdo98
  · exact tdo99
theorem tb : (T 1 = some td1 ∧ td1.kind = K.func ∧ td1.size = 1 ∧ td1.bytes = 8 ∧ td1.agg = false ∧ td1.zero = [Value.nilFunc] ∧ td1.zagg = false ∧ td1.fok = false ∧ td1.fl = [] ∧ td1.okEl = true) ∧
  (T 2 = some td2 ∧ td2.kind = K.int IntKind.i64 ∧ td2.size = 1 ∧ td2.bytes = 8 ∧ td2.agg = false ∧ td2.zero = [Value.int IntKind.i64 0] ∧ td2.zagg = false ∧ td2.fok = false ∧ td2.fl = [] ∧ td2.okEl = true) ∧
  (T 3 = some td3 ∧ td3.kind = K.int IntKind.i64 ∧ td3.size = 1 ∧ td3.bytes = 8 ∧ td3.agg = false ∧ td3.zero = [Value.int IntKind.i64 0] ∧ td3.zagg = false ∧ td3.fok = false ∧ td3.fl = [] ∧ td3.okEl = true) ∧
  (T 4 = some td4 ∧ td4.kind = K.bool ∧ td4.size = 1 ∧ td4.bytes = 1 ∧ td4.agg = false ∧ td4.zero = [Value.bool false] ∧ td4.zagg = false ∧ td4.fok = false ∧ td4.fl = [] ∧ td4.okEl = true) ∧
  (T 5 = some td5 ∧ td5.kind = K.int IntKind.u8 ∧ td5.size = 1 ∧ td5.bytes = 1 ∧ td5.agg = false ∧ td5.zero = [Value.int IntKind.u8 0] ∧ td5.zagg = false ∧ td5.fok = false ∧ td5.fl = [] ∧ td5.okEl = true) ∧
  (T 6 = some td6 ∧ td6.kind = K.int IntKind.u8 ∧ td6.size = 1 ∧ td6.bytes = 1 ∧ td6.agg = false ∧ td6.zero = [Value.int IntKind.u8 0] ∧ td6.zagg = false ∧ td6.fok = false ∧ td6.fl = [] ∧ td6.okEl = true) ∧
  (T 7 = some td7 ∧ td7.kind = K.struct ∧ td7.size = 4 ∧ td7.bytes = 24 ∧ td7.agg = true ∧ td7.zero = [Value.int IntKind.i64 0, Value.int IntKind.i64 0, Value.bool false, Value.int IntKind.u8 0] ∧ td7.zagg = true ∧ td7.fok = true ∧ td7.fl = [(0, 1, false), (1, 1, false), (2, 1, false), (3, 1, false)] ∧ td7.okEl = true) ∧
  (T 8 = some td8 ∧ td8.kind = K.struct ∧ td8.size = 4 ∧ td8.bytes = 24 ∧ td8.agg = true ∧ td8.zero = [Value.int IntKind.i64 0, Value.int IntKind.i64 0, Value.bool false, Value.int IntKind.u8 0] ∧ td8.zagg = true ∧ td8.fok = true ∧ td8.fl = [(0, 1, false), (1, 1, false), (2, 1, false), (3, 1, false)] ∧ td8.okEl = true) ∧
  (T 12 = some td12 ∧ td12.kind = K.int IntKind.u64 ∧ td12.size = 1 ∧ td12.bytes = 8 ∧ td12.agg = false ∧ td12.zero = [Value.int IntKind.u64 0] ∧ td12.zagg = false ∧ td12.fok = false ∧ td12.fl = [] ∧ td12.okEl = true) ∧
  (T 15 = some td15 ∧ td15.kind = K.pointer 85 ∧ td15.size = 1 ∧ td15.bytes = 8 ∧ td15.agg = false ∧ td15.zero = [Value.pointer none] ∧ td15.zagg = false ∧ td15.fok = false ∧ td15.fl = [] ∧ td15.okEl = true) ∧
  (T 16 = some td16 ∧ td16.kind = K.pointer 88 ∧ td16.size = 1 ∧ td16.bytes = 8 ∧ td16.agg = false ∧ td16.zero = [Value.pointer none] ∧ td16.zagg = false ∧ td16.fok = false ∧ td16.fl = [] ∧ td16.okEl = true) ∧
  (T 17 = some td17 ∧ td17.kind = K.pointer 98 ∧ td17.size = 1 ∧ td17.bytes = 8 ∧ td17.agg = false ∧ td17.zero = [Value.pointer none] ∧ td17.zagg = false ∧ td17.fok = false ∧ td17.fl = [] ∧ td17.okEl = true) ∧
  (T 18 = some td18 ∧ td18.kind = K.struct ∧ td18.size = 1 ∧ td18.bytes = 8 ∧ td18.agg = true ∧ td18.zero = [Value.pointer none] ∧ td18.zagg = true ∧ td18.fok = true ∧ td18.fl = [(0, 1, false)] ∧ td18.okEl = true) ∧
  (T 19 = some td19 ∧ td19.kind = K.struct ∧ td19.size = 1 ∧ td19.bytes = 8 ∧ td19.agg = true ∧ td19.zero = [Value.pointer none] ∧ td19.zagg = true ∧ td19.fok = true ∧ td19.fl = [(0, 1, false)] ∧ td19.okEl = true) ∧
  (T 21 = some td21 ∧ td21.kind = K.int IntKind.i32 ∧ td21.size = 1 ∧ td21.bytes = 4 ∧ td21.agg = false ∧ td21.zero = [Value.int IntKind.i32 0] ∧ td21.zagg = false ∧ td21.fok = false ∧ td21.fl = [] ∧ td21.okEl = true) ∧
  (T 22 = some td22 ∧ td22.kind = K.slice 58 ∧ td22.size = 1 ∧ td22.bytes = 24 ∧ td22.agg = false ∧ td22.zero = [Value.slice none 0 0] ∧ td22.zagg = false ∧ td22.fok = false ∧ td22.fl = [] ∧ td22.okEl = true) ∧
  (T 23 = some td23 ∧ td23.kind = K.struct ∧ td23.size = 2 ∧ td23.bytes = 32 ∧ td23.agg = true ∧ td23.zero = [Value.slice none 0 0, Value.int IntKind.i64 0] ∧ td23.zagg = true ∧ td23.fok = true ∧ td23.fl = [(0, 1, false), (1, 1, false)] ∧ td23.okEl = true) ∧
  (T 24 = some td24 ∧ td24.kind = K.struct ∧ td24.size = 2 ∧ td24.bytes = 32 ∧ td24.agg = true ∧ td24.zero = [Value.slice none 0 0, Value.int IntKind.i64 0] ∧ td24.zagg = true ∧ td24.fok = true ∧ td24.fl = [(0, 1, false), (1, 1, false)] ∧ td24.okEl = true) ∧
  (T 25 = some td25 ∧ td25.kind = K.slice 51 ∧ td25.size = 1 ∧ td25.bytes = 24 ∧ td25.agg = false ∧ td25.zero = [Value.slice none 0 0] ∧ td25.zagg = false ∧ td25.fok = false ∧ td25.fl = [] ∧ td25.okEl = true) ∧
  (T 26 = some td26 ∧ td26.kind = K.func ∧ td26.size = 1 ∧ td26.bytes = 8 ∧ td26.agg = false ∧ td26.zero = [Value.nilFunc] ∧ td26.zagg = false ∧ td26.fok = false ∧ td26.fl = [] ∧ td26.okEl = true) ∧
  (T 27 = some td27 ∧ td27.kind = K.func ∧ td27.size = 1 ∧ td27.bytes = 8 ∧ td27.agg = false ∧ td27.zero = [Value.nilFunc] ∧ td27.zagg = false ∧ td27.fok = false ∧ td27.fl = [] ∧ td27.okEl = true) ∧
  (T 28 = some td28 ∧ td28.kind = K.func ∧ td28.size = 1 ∧ td28.bytes = 8 ∧ td28.agg = false ∧ td28.zero = [Value.nilFunc] ∧ td28.zagg = false ∧ td28.fok = false ∧ td28.fl = [] ∧ td28.okEl = true) ∧
  (T 29 = some td29 ∧ td29.kind = K.int IntKind.i64 ∧ td29.size = 1 ∧ td29.bytes = 8 ∧ td29.agg = false ∧ td29.zero = [Value.int IntKind.i64 0] ∧ td29.zagg = false ∧ td29.fok = false ∧ td29.fl = [] ∧ td29.okEl = true) ∧
  (T 31 = some td31 ∧ td31.kind = K.func ∧ td31.size = 1 ∧ td31.bytes = 8 ∧ td31.agg = false ∧ td31.zero = [Value.nilFunc] ∧ td31.zagg = false ∧ td31.fok = false ∧ td31.fl = [] ∧ td31.okEl = true) ∧
  (T 32 = some td32 ∧ td32.kind = K.func ∧ td32.size = 1 ∧ td32.bytes = 8 ∧ td32.agg = false ∧ td32.zero = [Value.nilFunc] ∧ td32.zagg = false ∧ td32.fok = false ∧ td32.fl = [] ∧ td32.okEl = true) ∧
  (T 33 = some td33 ∧ td33.kind = K.func ∧ td33.size = 1 ∧ td33.bytes = 8 ∧ td33.agg = false ∧ td33.zero = [Value.nilFunc] ∧ td33.zagg = false ∧ td33.fok = false ∧ td33.fl = [] ∧ td33.okEl = true) ∧
  (T 34 = some td34 ∧ td34.kind = K.func ∧ td34.size = 1 ∧ td34.bytes = 8 ∧ td34.agg = false ∧ td34.zero = [Value.nilFunc] ∧ td34.zagg = false ∧ td34.fok = false ∧ td34.fl = [] ∧ td34.okEl = true) ∧
  (T 35 = some td35 ∧ td35.kind = K.func ∧ td35.size = 1 ∧ td35.bytes = 8 ∧ td35.agg = false ∧ td35.zero = [Value.nilFunc] ∧ td35.zagg = false ∧ td35.fok = false ∧ td35.fl = [] ∧ td35.okEl = true) ∧
  (T 36 = some td36 ∧ td36.kind = K.func ∧ td36.size = 1 ∧ td36.bytes = 8 ∧ td36.agg = false ∧ td36.zero = [Value.nilFunc] ∧ td36.zagg = false ∧ td36.fok = false ∧ td36.fl = [] ∧ td36.okEl = true) ∧
  (T 38 = some td38 ∧ td38.kind = K.func ∧ td38.size = 1 ∧ td38.bytes = 8 ∧ td38.agg = false ∧ td38.zero = [Value.nilFunc] ∧ td38.zagg = false ∧ td38.fok = false ∧ td38.fl = [] ∧ td38.okEl = true) ∧
  (T 39 = some td39 ∧ td39.kind = K.slice 42 ∧ td39.size = 1 ∧ td39.bytes = 24 ∧ td39.agg = false ∧ td39.zero = [Value.slice none 0 0] ∧ td39.zagg = false ∧ td39.fok = false ∧ td39.fl = [] ∧ td39.okEl = true) ∧
  (T 40 = some td40 ∧ td40.kind = K.func ∧ td40.size = 1 ∧ td40.bytes = 8 ∧ td40.agg = false ∧ td40.zero = [Value.nilFunc] ∧ td40.zagg = false ∧ td40.fok = false ∧ td40.fl = [] ∧ td40.okEl = true) ∧
  (T 41 = some td41 ∧ td41.kind = K.struct ∧ td41.size = 3 ∧ td41.bytes = 24 ∧ td41.agg = true ∧ td41.zero = [Value.int IntKind.i64 0, Value.int IntKind.i64 0, Value.int IntKind.i64 0] ∧ td41.zagg = true ∧ td41.fok = true ∧ td41.fl = [(0, 1, false), (1, 1, false), (2, 1, false)] ∧ td41.okEl = true) ∧
  (T 42 = some td42 ∧ td42.kind = K.struct ∧ td42.size = 3 ∧ td42.bytes = 24 ∧ td42.agg = true ∧ td42.zero = [Value.int IntKind.i64 0, Value.int IntKind.i64 0, Value.int IntKind.i64 0] ∧ td42.zagg = true ∧ td42.fok = true ∧ td42.fl = [(0, 1, false), (1, 1, false), (2, 1, false)] ∧ td42.okEl = true) ∧
  (T 43 = some td43 ∧ td43.kind = K.func ∧ td43.size = 1 ∧ td43.bytes = 8 ∧ td43.agg = false ∧ td43.zero = [Value.nilFunc] ∧ td43.zagg = false ∧ td43.fok = false ∧ td43.fl = [] ∧ td43.okEl = true) ∧
  (T 44 = some td44 ∧ td44.kind = K.func ∧ td44.size = 1 ∧ td44.bytes = 8 ∧ td44.agg = false ∧ td44.zero = [Value.nilFunc] ∧ td44.zagg = false ∧ td44.fok = false ∧ td44.fl = [] ∧ td44.okEl = true) ∧
  (T 45 = some td45 ∧ td45.kind = K.slice 47 ∧ td45.size = 1 ∧ td45.bytes = 24 ∧ td45.agg = false ∧ td45.zero = [Value.slice none 0 0] ∧ td45.zagg = false ∧ td45.fok = false ∧ td45.fl = [] ∧ td45.okEl = true) ∧
  (T 46 = some td46 ∧ td46.kind = K.struct ∧ td46.size = 2 ∧ td46.bytes = 32 ∧ td46.agg = true ∧ td46.zero = [Value.int IntKind.i64 0, Value.slice none 0 0] ∧ td46.zagg = true ∧ td46.fok = true ∧ td46.fl = [(0, 1, false), (1, 1, false)] ∧ td46.okEl = true) ∧
  (T 47 = some td47 ∧ td47.kind = K.struct ∧ td47.size = 2 ∧ td47.bytes = 32 ∧ td47.agg = true ∧ td47.zero = [Value.int IntKind.i64 0, Value.slice none 0 0] ∧ td47.zagg = true ∧ td47.fok = true ∧ td47.fl = [(0, 1, false), (1, 1, false)] ∧ td47.okEl = true) ∧
  (T 49 = some td49 ∧ td49.kind = K.func ∧ td49.size = 1 ∧ td49.bytes = 8 ∧ td49.agg = false ∧ td49.zero = [Value.nilFunc] ∧ td49.zagg = false ∧ td49.fok = false ∧ td49.fl = [] ∧ td49.okEl = true) ∧
  (T 50 = some td50 ∧ td50.kind = K.struct ∧ td50.size = 2 ∧ td50.bytes = 16 ∧ td50.agg = true ∧ td50.zero = [Value.int IntKind.i64 0, Value.int IntKind.i64 0] ∧ td50.zagg = true ∧ td50.fok = true ∧ td50.fl = [(0, 1, false), (1, 1, false)] ∧ td50.okEl = true) ∧
  (T 51 = some td51 ∧ td51.kind = K.struct ∧ td51.size = 2 ∧ td51.bytes = 16 ∧ td51.agg = true ∧ td51.zero = [Value.int IntKind.i64 0, Value.int IntKind.i64 0] ∧ td51.zagg = true ∧ td51.fok = true ∧ td51.fl = [(0, 1, false), (1, 1, false)] ∧ td51.okEl = true) ∧
  (T 52 = some td52 ∧ td52.kind = K.func ∧ td52.size = 1 ∧ td52.bytes = 8 ∧ td52.agg = false ∧ td52.zero = [Value.nilFunc] ∧ td52.zagg = false ∧ td52.fok = false ∧ td52.fl = [] ∧ td52.okEl = true) ∧
  (T 53 = some td53 ∧ td53.kind = K.array 2 3 ∧ td53.size = 2 ∧ td53.bytes = 16 ∧ td53.agg = true ∧ td53.zero = [Value.int IntKind.i64 0, Value.int IntKind.i64 0] ∧ td53.zagg = true ∧ td53.fok = false ∧ td53.fl = [] ∧ td53.okEl = true) ∧
  (T 54 = some td54 ∧ td54.kind = K.array 2 2 ∧ td54.size = 2 ∧ td54.bytes = 16 ∧ td54.agg = true ∧ td54.zero = [Value.int IntKind.i64 0, Value.int IntKind.i64 0] ∧ td54.zagg = true ∧ td54.fok = false ∧ td54.fl = [] ∧ td54.okEl = true) ∧
  (T 55 = some td55 ∧ td55.kind = K.func ∧ td55.size = 1 ∧ td55.bytes = 8 ∧ td55.agg = false ∧ td55.zero = [Value.nilFunc] ∧ td55.zagg = false ∧ td55.fok = false ∧ td55.fl = [] ∧ td55.okEl = true) ∧
  (T 56 = some td56 ∧ td56.kind = K.func ∧ td56.size = 1 ∧ td56.bytes = 8 ∧ td56.agg = false ∧ td56.zero = [Value.nilFunc] ∧ td56.zagg = false ∧ td56.fok = false ∧ td56.fl = [] ∧ td56.okEl = true) ∧
  (T 57 = some td57 ∧ td57.kind = K.struct ∧ td57.size = 2 ∧ td57.bytes = 32 ∧ td57.agg = true ∧ td57.zero = [Value.int IntKind.i64 0, Value.slice none 0 0] ∧ td57.zagg = true ∧ td57.fok = true ∧ td57.fl = [(0, 1, false), (1, 1, false)] ∧ td57.okEl = true) ∧
  (T 58 = some td58 ∧ td58.kind = K.struct ∧ td58.size = 2 ∧ td58.bytes = 32 ∧ td58.agg = true ∧ td58.zero = [Value.int IntKind.i64 0, Value.slice none 0 0] ∧ td58.zagg = true ∧ td58.fok = true ∧ td58.fl = [(0, 1, false), (1, 1, false)] ∧ td58.okEl = true) ∧
  (T 59 = some td59 ∧ td59.kind = K.func ∧ td59.size = 1 ∧ td59.bytes = 8 ∧ td59.agg = false ∧ td59.zero = [Value.nilFunc] ∧ td59.zagg = false ∧ td59.fok = false ∧ td59.fl = [] ∧ td59.okEl = true) ∧
  (T 60 = some td60 ∧ td60.kind = K.func ∧ td60.size = 1 ∧ td60.bytes = 8 ∧ td60.agg = false ∧ td60.zero = [Value.nilFunc] ∧ td60.zagg = false ∧ td60.fok = false ∧ td60.fl = [] ∧ td60.okEl = true) ∧
  (T 61 = some td61 ∧ td61.kind = K.slice 2 ∧ td61.size = 1 ∧ td61.bytes = 24 ∧ td61.agg = false ∧ td61.zero = [Value.slice none 0 0] ∧ td61.zagg = false ∧ td61.fok = false ∧ td61.fl = [] ∧ td61.okEl = true) ∧
  (T 62 = some td62 ∧ td62.kind = K.func ∧ td62.size = 1 ∧ td62.bytes = 8 ∧ td62.agg = false ∧ td62.zero = [Value.nilFunc] ∧ td62.zagg = false ∧ td62.fok = false ∧ td62.fl = [] ∧ td62.okEl = true) ∧
  (T 63 = some td63 ∧ td63.kind = K.map 3 4 ∧ td63.size = 1 ∧ td63.bytes = 8 ∧ td63.agg = false ∧ td63.zero = [Value.map none] ∧ td63.zagg = false ∧ td63.fok = false ∧ td63.fl = [] ∧ td63.okEl = true) ∧
  (T 64 = some td64 ∧ td64.kind = K.func ∧ td64.size = 1 ∧ td64.bytes = 8 ∧ td64.agg = false ∧ td64.zero = [Value.nilFunc] ∧ td64.zagg = false ∧ td64.fok = false ∧ td64.fl = [] ∧ td64.okEl = true) ∧
  (T 65 = some td65 ∧ td65.kind = K.func ∧ td65.size = 1 ∧ td65.bytes = 8 ∧ td65.agg = false ∧ td65.zero = [Value.nilFunc] ∧ td65.zagg = false ∧ td65.fok = false ∧ td65.fl = [] ∧ td65.okEl = true) ∧
  (T 66 = some td66 ∧ td66.kind = K.func ∧ td66.size = 1 ∧ td66.bytes = 8 ∧ td66.agg = false ∧ td66.zero = [Value.nilFunc] ∧ td66.zagg = false ∧ td66.fok = false ∧ td66.fl = [] ∧ td66.okEl = true) ∧
  (T 67 = some td67 ∧ td67.kind = K.func ∧ td67.size = 1 ∧ td67.bytes = 8 ∧ td67.agg = false ∧ td67.zero = [Value.nilFunc] ∧ td67.zagg = false ∧ td67.fok = false ∧ td67.fl = [] ∧ td67.okEl = true) ∧
  (T 68 = some td68 ∧ td68.kind = K.func ∧ td68.size = 1 ∧ td68.bytes = 8 ∧ td68.agg = false ∧ td68.zero = [Value.nilFunc] ∧ td68.zagg = false ∧ td68.fok = false ∧ td68.fl = [] ∧ td68.okEl = true) ∧
  (T 69 = some td69 ∧ td69.kind = K.func ∧ td69.size = 1 ∧ td69.bytes = 8 ∧ td69.agg = false ∧ td69.zero = [Value.nilFunc] ∧ td69.zagg = false ∧ td69.fok = false ∧ td69.fl = [] ∧ td69.okEl = true) ∧
  (T 70 = some td70 ∧ td70.kind = K.func ∧ td70.size = 1 ∧ td70.bytes = 8 ∧ td70.agg = false ∧ td70.zero = [Value.nilFunc] ∧ td70.zagg = false ∧ td70.fok = false ∧ td70.fl = [] ∧ td70.okEl = true) ∧
  (T 71 = some td71 ∧ td71.kind = K.func ∧ td71.size = 1 ∧ td71.bytes = 8 ∧ td71.agg = false ∧ td71.zero = [Value.nilFunc] ∧ td71.zagg = false ∧ td71.fok = false ∧ td71.fl = [] ∧ td71.okEl = true) ∧
  (T 72 = some td72 ∧ td72.kind = K.func ∧ td72.size = 1 ∧ td72.bytes = 8 ∧ td72.agg = false ∧ td72.zero = [Value.nilFunc] ∧ td72.zagg = false ∧ td72.fok = false ∧ td72.fl = [] ∧ td72.okEl = true) ∧
  (T 73 = some td73 ∧ td73.kind = K.func ∧ td73.size = 1 ∧ td73.bytes = 8 ∧ td73.agg = false ∧ td73.zero = [Value.nilFunc] ∧ td73.zagg = false ∧ td73.fok = false ∧ td73.fl = [] ∧ td73.okEl = true) ∧
  (T 74 = some td74 ∧ td74.kind = K.func ∧ td74.size = 1 ∧ td74.bytes = 8 ∧ td74.agg = false ∧ td74.zero = [Value.nilFunc] ∧ td74.zagg = false ∧ td74.fok = false ∧ td74.fl = [] ∧ td74.okEl = true) ∧
  (T 75 = some td75 ∧ td75.kind = K.func ∧ td75.size = 1 ∧ td75.bytes = 8 ∧ td75.agg = false ∧ td75.zero = [Value.nilFunc] ∧ td75.zagg = false ∧ td75.fok = false ∧ td75.fl = [] ∧ td75.okEl = true) ∧
  (T 76 = some td76 ∧ td76.kind = K.func ∧ td76.size = 1 ∧ td76.bytes = 8 ∧ td76.agg = false ∧ td76.zero = [Value.nilFunc] ∧ td76.zagg = false ∧ td76.fok = false ∧ td76.fl = [] ∧ td76.okEl = true) ∧
  (T 77 = some td77 ∧ td77.kind = K.func ∧ td77.size = 1 ∧ td77.bytes = 8 ∧ td77.agg = false ∧ td77.zero = [Value.nilFunc] ∧ td77.zagg = false ∧ td77.fok = false ∧ td77.fl = [] ∧ td77.okEl = true) ∧
  (T 78 = some td78 ∧ td78.kind = K.func ∧ td78.size = 1 ∧ td78.bytes = 8 ∧ td78.agg = false ∧ td78.zero = [Value.nilFunc] ∧ td78.zagg = false ∧ td78.fok = false ∧ td78.fl = [] ∧ td78.okEl = true) ∧
  (T 79 = some td79 ∧ td79.kind = K.func ∧ td79.size = 1 ∧ td79.bytes = 8 ∧ td79.agg = false ∧ td79.zero = [Value.nilFunc] ∧ td79.zagg = false ∧ td79.fok = false ∧ td79.fl = [] ∧ td79.okEl = true) ∧
  (T 80 = some td80 ∧ td80.kind = K.func ∧ td80.size = 1 ∧ td80.bytes = 8 ∧ td80.agg = false ∧ td80.zero = [Value.nilFunc] ∧ td80.zagg = false ∧ td80.fok = false ∧ td80.fl = [] ∧ td80.okEl = true) ∧
  (T 81 = some td81 ∧ td81.kind = K.func ∧ td81.size = 1 ∧ td81.bytes = 8 ∧ td81.agg = false ∧ td81.zero = [Value.nilFunc] ∧ td81.zagg = false ∧ td81.fok = false ∧ td81.fl = [] ∧ td81.okEl = true) ∧
  (T 82 = some td82 ∧ td82.kind = K.func ∧ td82.size = 1 ∧ td82.bytes = 8 ∧ td82.agg = false ∧ td82.zero = [Value.nilFunc] ∧ td82.zagg = false ∧ td82.fok = false ∧ td82.fl = [] ∧ td82.okEl = true) ∧
  (T 83 = some td83 ∧ td83.kind = K.func ∧ td83.size = 1 ∧ td83.bytes = 8 ∧ td83.agg = false ∧ td83.zero = [Value.nilFunc] ∧ td83.zagg = false ∧ td83.fok = false ∧ td83.fl = [] ∧ td83.okEl = true) ∧
  (T 86 = some td86 ∧ td86.kind = K.array 0 16 ∧ td86.size = 0 ∧ td86.bytes = 0 ∧ td86.agg = true ∧ td86.zero = [] ∧ td86.zagg = true ∧ td86.fok = false ∧ td86.fl = [] ∧ td86.okEl = false) ∧
  (T 87 = some td87 ∧ td87.kind = K.struct ∧ td87.size = 0 ∧ td87.bytes = 0 ∧ td87.agg = true ∧ td87.zero = [] ∧ td87.zagg = true ∧ td87.fok = true ∧ td87.fl = [(0, 0, true)] ∧ td87.okEl = false) ∧
  (T 88 = some td88 ∧ td88.kind = K.struct ∧ td88.size = 0 ∧ td88.bytes = 0 ∧ td88.agg = true ∧ td88.zero = [] ∧ td88.zagg = true ∧ td88.fok = true ∧ td88.fl = [(0, 0, true)] ∧ td88.okEl = false) ∧
  (T 89 = some td89 ∧ td89.kind = K.func ∧ td89.size = 1 ∧ td89.bytes = 8 ∧ td89.agg = false ∧ td89.zero = [Value.nilFunc] ∧ td89.zagg = false ∧ td89.fok = false ∧ td89.fl = [] ∧ td89.okEl = true) ∧
  (T 90 = some td90 ∧ td90.kind = K.int IntKind.u32 ∧ td90.size = 1 ∧ td90.bytes = 4 ∧ td90.agg = false ∧ td90.zero = [Value.int IntKind.u32 0] ∧ td90.zagg = false ∧ td90.fok = false ∧ td90.fl = [] ∧ td90.okEl = true) ∧
  (T 91 = some td91 ∧ td91.kind = K.int IntKind.u8 ∧ td91.size = 1 ∧ td91.bytes = 1 ∧ td91.agg = false ∧ td91.zero = [Value.int IntKind.u8 0] ∧ td91.zagg = false ∧ td91.fok = false ∧ td91.fl = [] ∧ td91.okEl = true) ∧
  (T 92 = some td92 ∧ td92.kind = K.int IntKind.u8 ∧ td92.size = 1 ∧ td92.bytes = 1 ∧ td92.agg = false ∧ td92.zero = [Value.int IntKind.u8 0] ∧ td92.zagg = false ∧ td92.fok = false ∧ td92.fl = [] ∧ td92.okEl = true) ∧
  (T 93 = some td93 ∧ td93.kind = K.func ∧ td93.size = 1 ∧ td93.bytes = 8 ∧ td93.agg = false ∧ td93.zero = [Value.nilFunc] ∧ td93.zagg = false ∧ td93.fok = false ∧ td93.fl = [] ∧ td93.okEl = true) ∧
  (T 94 = some td94 ∧ td94.kind = K.pointer 5 ∧ td94.size = 1 ∧ td94.bytes = 8 ∧ td94.agg = false ∧ td94.zero = [Value.pointer none] ∧ td94.zagg = false ∧ td94.fok = false ∧ td94.fl = [] ∧ td94.okEl = true) ∧
  (T 95 = some td95 ∧ td95.kind = K.int IntKind.i32 ∧ td95.size = 1 ∧ td95.bytes = 4 ∧ td95.agg = false ∧ td95.zero = [Value.int IntKind.i32 0] ∧ td95.zagg = false ∧ td95.fok = false ∧ td95.fl = [] ∧ td95.okEl = true) ∧
  (T 96 = some td96 ∧ td96.kind = K.int IntKind.i32 ∧ td96.size = 1 ∧ td96.bytes = 4 ∧ td96.agg = false ∧ td96.zero = [Value.int IntKind.i32 0] ∧ td96.zagg = false ∧ td96.fok = false ∧ td96.fl = [] ∧ td96.okEl = true) ∧
  (T 97 = some td97 ∧ td97.kind = K.struct ∧ td97.size = 11 ∧ td97.bytes = 48 ∧ td97.agg = true ∧ td97.zero = [Value.int IntKind.u64 0, Value.int IntKind.u64 0, Value.int IntKind.u32 0, Value.int IntKind.u8 0, Value.int IntKind.u8 0, Value.int IntKind.u8 0, Value.int IntKind.u8 0, Value.nilFunc, Value.pointer none, Value.int IntKind.i32 0, Value.int IntKind.i32 0] ∧ td97.zagg = true ∧ td97.fok = true ∧ td97.fl = [(0, 1, false), (1, 1, false), (2, 1, false), (3, 1, false), (4, 1, false), (5, 1, false), (6, 1, false), (7, 1, false), (8, 1, false), (9, 1, false), (10, 1, false)] ∧ td97.okEl = true) ∧
  (T 98 = some td98 ∧ td98.kind = K.struct ∧ td98.size = 11 ∧ td98.bytes = 48 ∧ td98.agg = true ∧ td98.zero = [Value.int IntKind.u64 0, Value.int IntKind.u64 0, Value.int IntKind.u32 0, Value.int IntKind.u8 0, Value.int IntKind.u8 0, Value.int IntKind.u8 0, Value.int IntKind.u8 0, Value.nilFunc, Value.pointer none, Value.int IntKind.i32 0, Value.int IntKind.i32 0] ∧ td98.zagg = true ∧ td98.fok = true ∧ td98.fl = [(0, 1, false), (1, 1, false), (2, 1, false), (3, 1, false), (4, 1, false), (5, 1, false), (6, 1, false), (7, 1, false), (8, 1, false), (9, 1, false), (10, 1, false)] ∧ td98.okEl = true) ∧
  (T 99 = some td99 ∧ td99.kind = K.other ∧ td99.size = 1 ∧ td99.bytes = 8 ∧ td99.agg = false ∧ td99.zero = [Value.pointer none] ∧ td99.zagg = false ∧ td99.fok = false ∧ td99.fl = [] ∧ td99.okEl = true) :=
  ⟨⟨rfl, rfl, rfl, rfl, rfl, rfl, rfl, rfl, rfl, rfl⟩, ⟨rfl, rfl, rfl, rfl, rfl, rfl, rfl, rfl, rfl, rfl⟩, ⟨rfl, rfl, rfl, rfl, rfl, rfl, rfl, rfl, rfl, rfl⟩, ⟨rfl, rfl, rfl, rfl, rfl, rfl, rfl, rfl, rfl, rfl⟩, ⟨rfl, rfl, rfl, rfl, rfl, rfl, rfl, rfl, rfl, rfl⟩, ⟨rfl, rfl, rfl, rfl, rfl, rfl, rfl, rfl, rfl, rfl⟩, ⟨rfl, rfl, rfl, rfl, rfl, rfl, rfl, rfl, rfl, rfl⟩, ⟨rfl, rfl, rfl, rfl, rfl, rfl, rfl, rfl, rfl, rfl⟩, ⟨rfl, rfl, rfl, rfl, rfl, rfl, rfl, rfl, rfl, rfl⟩, ⟨rfl, rfl, rfl, rfl, rfl, rfl, rfl, rfl, rfl, rfl⟩, ⟨rfl, rfl, rfl, rfl, rfl, rfl, rfl, rfl, rfl, rfl⟩, ⟨rfl, rfl, rfl, rfl, rfl, rfl, rfl, rfl, rfl, rfl⟩, ⟨rfl, rfl, rfl, rfl, rfl, rfl, rfl, rfl, rfl, rfl⟩, ⟨rfl, rfl, rfl, rfl, rfl, rfl, rfl, rfl, rfl, rfl⟩, ⟨rfl, rfl, rfl, rfl, rfl, rfl, rfl, rfl, rfl, rfl⟩, ⟨rfl, rfl, rfl, rfl, rfl, rfl, rfl, rfl, rfl, rfl⟩, ⟨rfl, rfl, rfl, rfl, rfl, rfl, rfl, rfl, rfl, rfl⟩, ⟨rfl, rfl, rfl, rfl, rfl, rfl, rfl, rfl, rfl, rfl⟩, ⟨rfl, rfl, rfl, rfl, rfl, rfl, rfl, rfl, rfl, rfl⟩, ⟨rfl, rfl, rfl, rfl, rfl, rfl, rfl, rfl, rfl, rfl⟩, ⟨rfl, rfl, rfl, rfl, rfl, rfl, rfl, rfl, rfl, rfl⟩, ⟨rfl, rfl, rfl, rfl, rfl, rfl, rfl, rfl, rfl, rfl⟩, ⟨rfl, rfl, rfl, rfl, rfl, rfl, rfl, rfl, rfl, rfl⟩, ⟨rfl, rfl, rfl, rfl, rfl, rfl, rfl, rfl, rfl, rfl⟩, ⟨rfl, rfl, rfl, rfl, rfl, rfl, rfl, rfl, rfl, rfl⟩, ⟨rfl, rfl, rfl, rfl, rfl, rfl, rfl, rfl, rfl, rfl⟩, ⟨rfl, rfl, rfl, rfl, rfl, rfl, rfl, rfl, rfl, rfl⟩, ⟨rfl, rfl, rfl, rfl, rfl, rfl, rfl, rfl, rfl, rfl⟩, ⟨rfl, rfl, rfl, rfl, rfl, rfl, rfl, rfl, rfl, rfl⟩, ⟨rfl, rfl, rfl, rfl, rfl, rfl, rfl, rfl, rfl, rfl⟩, ⟨rfl, rfl, rfl, rfl, rfl, rfl, rfl, rfl, rfl, rfl⟩, ⟨rfl, rfl, rfl, rfl, rfl, rfl, rfl, rfl, rfl, rfl⟩, ⟨rfl, rfl, rfl, rfl, rfl, rfl, rfl, rfl, rfl, rfl⟩, ⟨rfl, rfl, rfl, rfl, rfl, rfl, rfl, rfl, rfl, rfl⟩, ⟨rfl, rfl, rfl, rfl, rfl, rfl, rfl, rfl, rfl, rfl⟩, ⟨rfl, rfl, rfl, rfl, rfl, rfl, rfl, rfl, rfl, rfl⟩, ⟨rfl, rfl, rfl, rfl, rfl, rfl, rfl, rfl, rfl, rfl⟩, ⟨rfl, rfl, rfl, rfl, rfl, rfl, rfl, rfl, rfl, rfl⟩, ⟨rfl, rfl, rfl, rfl, rfl, rfl, rfl, rfl, rfl, rfl⟩, ⟨rfl, rfl, rfl, rfl, rfl, rfl, rfl, rfl, rfl, rfl⟩, ⟨rfl, rfl, rfl, rfl, rfl, rfl, rfl, rfl, rfl, rfl⟩, ⟨rfl, rfl, rfl, rfl, rfl, rfl, rfl, rfl, rfl, rfl⟩, ⟨rfl, rfl, rfl, rfl, rfl, rfl, rfl, rfl, rfl, rfl⟩, ⟨rfl, rfl, rfl, rfl, rfl, rfl, rfl, rfl, rfl, rfl⟩, ⟨rfl, rfl, rfl, rfl, rfl, rfl, rfl, rfl, rfl, rfl⟩, ⟨rfl, rfl, rfl, rfl, rfl, rfl, rfl, rfl, rfl, rfl⟩, ⟨rfl, rfl, rfl, rfl, rfl, rfl, rfl, rfl, rfl, rfl⟩, ⟨rfl, rfl, rfl, rfl, rfl, rfl, rfl, rfl, rfl, rfl⟩, ⟨rfl, rfl, rfl, rfl, rfl, rfl, rfl, rfl, rfl, rfl⟩, ⟨rfl, rfl, rfl, rfl, rfl, rfl, rfl, rfl, rfl, rfl⟩, ⟨rfl, rfl, rfl, rfl, rfl, rfl, rfl, rfl, rfl, rfl⟩, ⟨rfl, rfl, rfl, rfl, rfl, rfl, rfl, rfl, rfl, rfl⟩, ⟨rfl, rfl, rfl, rfl, rfl, rfl, rfl, rfl, rfl, rfl⟩, ⟨rfl, rfl, rfl, rfl, rfl, rfl, rfl, rfl, rfl, rfl⟩, ⟨rfl, rfl, rfl, rfl, rfl, rfl, rfl, rfl, rfl, rfl⟩, ⟨rfl, rfl, rfl, rfl, rfl, rfl, rfl, rfl, rfl, rfl⟩, ⟨rfl, rfl, rfl, rfl, rfl, rfl, rfl, rfl, rfl, rfl⟩, ⟨rfl, rfl, rfl, rfl, rfl, rfl, rfl, rfl, rfl, rfl⟩, ⟨rfl, rfl, rfl, rfl, rfl, rfl, rfl, rfl, rfl, rfl⟩, ⟨rfl, rfl, rfl, rfl, rfl, rfl, rfl, rfl, rfl, rfl⟩, ⟨rfl, rfl, rfl, rfl, rfl, rfl, rfl, rfl, rfl, rfl⟩, ⟨rfl, rfl, rfl, rfl, rfl, rfl, rfl, rfl, rfl, rfl⟩, ⟨rfl, rfl, rfl, rfl, rfl, rfl, rfl, rfl, rfl, rfl⟩, ⟨rfl, rfl, rfl, rfl, rfl, rfl, rfl, rfl, rfl, rfl⟩, ⟨rfl, rfl, rfl, rfl, rfl, rfl, rfl, rfl, rfl, rfl⟩, ⟨rfl, rfl, rfl, rfl, rfl, rfl, rfl, rfl, rfl, rfl⟩, ⟨rfl, rfl, rfl, rfl, rfl, rfl, rfl, rfl, rfl, rfl⟩, ⟨rfl, rfl, rfl, rfl, rfl, rfl, rfl, rfl, rfl, rfl⟩, ⟨rfl, rfl, rfl, rfl, rfl, rfl, rfl, rfl, rfl, rfl⟩, ⟨rfl, rfl, rfl, rfl, rfl, rfl, rfl, rfl, rfl, rfl⟩, ⟨rfl, rfl, rfl, rfl, rfl, rfl, rfl, rfl, rfl, rfl⟩, ⟨rfl, rfl, rfl, rfl, rfl, rfl, rfl, rfl, rfl, rfl⟩, ⟨rfl, rfl, rfl, rfl, rfl, rfl, rfl, rfl, rfl, rfl⟩, ⟨rfl, rfl, rfl, rfl, rfl, rfl, rfl, rfl, rfl, rfl⟩, ⟨rfl, rfl, rfl, rfl, rfl, rfl, rfl, rfl, rfl, rfl⟩, ⟨rfl, rfl, rfl, rfl, rfl, rfl, rfl, rfl, rfl, rfl⟩, ⟨rfl, rfl, rfl, rfl, rfl, rfl, rfl, rfl, rfl, rfl⟩, ⟨rfl, rfl, rfl, rfl, rfl, rfl, rfl, rfl, rfl, rfl⟩, ⟨rfl, rfl, rfl, rfl, rfl, rfl, rfl, rfl, rfl, rfl⟩, ⟨rfl, rfl, rfl, rfl, rfl, rfl, rfl, rfl, rfl, rfl⟩, ⟨rfl, rfl, rfl, rfl, rfl, rfl, rfl, rfl, rfl, rfl⟩, ⟨rfl, rfl, rfl, rfl, rfl, rfl, rfl, rfl, rfl, rfl⟩, ⟨rfl, rfl, rfl, rfl, rfl, rfl, rfl, rfl, rfl, rfl⟩, ⟨rfl, rfl, rfl, rfl, rfl, rfl, rfl, rfl, rfl, rfl⟩, ⟨rfl, rfl, rfl, rfl, rfl, rfl, rfl, rfl, rfl, rfl⟩, ⟨rfl, rfl, rfl, rfl, rfl, rfl, rfl, rfl, rfl, rfl⟩, ⟨rfl, rfl, rfl, rfl, rfl, rfl, rfl, rfl, rfl, rfl⟩, ⟨rfl, rfl, rfl, rfl, rfl, rfl, rfl, rfl, rfl, rfl⟩⟩
theorem fnt : (Try.f3.ntmps = 119 ∧ Try.f3.results = #[.tmp 6]) ∧
  (Try.f4.ntmps = 142 ∧ Try.f4.results = #[.tmp 4]) ∧
  (Try.f5.ntmps = 143 ∧ Try.f5.results = #[.tmp 2]) ∧
  (Try.f6.ntmps = 168 ∧ Try.f6.results = #[.tmp 6]) ∧
  (Try.f7.ntmps = 157 ∧ Try.f7.results = #[.tmp 6]) ∧
  (Try.f8.ntmps = 143 ∧ Try.f8.results = #[.tmp 6]) ∧
  (Try.f9.ntmps = 61 ∧ Try.f9.results = #[.tmp 0]) ∧
  (Try.f10.ntmps = 21 ∧ Try.f10.results = #[.tmp 2]) ∧
  (Try.f11.ntmps = 30 ∧ Try.f11.results = #[.cell 2 24]) ∧
  (Try.f12.ntmps = 41 ∧ Try.f12.results = #[.cell 6 24, .tmp 7]) ∧
  (Try.f13.ntmps = 25 ∧ Try.f13.results = #[.cell 4 24, .tmp 5]) ∧
  (Try.f14.ntmps = 95 ∧ Try.f14.results = #[.cell 6 24, .tmp 7]) ∧
  (Try.f15.ntmps = 56 ∧ Try.f15.results = #[.tmp 4]) ∧
  (Try.f16.ntmps = 70 ∧ Try.f16.results = #[.tmp 2]) ∧
  (Try.f17.ntmps = 67 ∧ Try.f17.results = #[.tmp 2]) ∧
  (Try.f18.ntmps = 9 ∧ Try.f18.results = #[.tmp 2]) ∧
  (Try.f19.ntmps = 17 ∧ Try.f19.results = #[.tmp 8, .tmp 9]) ∧
  (Try.f20.ntmps = 78 ∧ Try.f20.results = #[.tmp 4]) ∧
  (Try.f21.ntmps = 32 ∧ Try.f21.results = #[.tmp 4]) ∧
  (Try.f22.ntmps = 17 ∧ Try.f22.results = #[.tmp 8, .tmp 9]) ∧
  (Try.f23.ntmps = 27 ∧ Try.f23.results = #[.cell 4 25, .cell 5 4]) ∧
  (Try.f24.ntmps = 29 ∧ Try.f24.results = #[.tmp 4]) ∧
  (Try.f25.ntmps = 26 ∧ Try.f25.results = #[.tmp 4]) ∧
  (Try.f26.ntmps = 93 ∧ Try.f26.results = #[.tmp 10]) ∧
  (Try.f27.ntmps = 60 ∧ Try.f27.results = #[.cell 6 24, .tmp 7]) ∧
  (Try.f28.ntmps = 80 ∧ Try.f28.results = #[.tmp 4]) ∧
  (Try.f29.ntmps = 17 ∧ Try.f29.results = #[.tmp 4]) ∧
  (Try.f30.ntmps = 54 ∧ Try.f30.results = #[.cell 6 24]) ∧
  (Try.f31.ntmps = 9 ∧ Try.f31.results = #[.tmp 2]) ∧
  (Try.f32.ntmps = 57 ∧ Try.f32.results = #[.tmp 2]) ∧
  (Try.f33.ntmps = 62 ∧ Try.f33.results = #[.cell 4 24]) ∧
  (Try.f34.ntmps = 62 ∧ Try.f34.results = #[.tmp 2]) ∧
  (Try.f35.ntmps = 21 ∧ Try.f35.results = #[.tmp 4]) ∧
  (Try.f36.ntmps = 8 ∧ Try.f36.results = #[.tmp 4]) ∧
  (Try.f37.ntmps = 51 ∧ Try.f37.results = #[.tmp 8, .tmp 9]) ∧
  (Try.f38.ntmps = 8 ∧ Try.f38.results = #[.tmp 3]) ∧
  (Try.f39.ntmps = 4 ∧ Try.f39.results = #[.tmp 2]) ∧
  (Try.f40.ntmps = 8 ∧ Try.f40.results = #[.tmp 3]) ∧
  (Try.f41.ntmps = 8 ∧ Try.f41.results = #[.tmp 2]) ∧
  (Try.f42.ntmps = 20 ∧ Try.f42.results = #[.tmp 4]) ∧
  (Try.f43.ntmps = 24 ∧ Try.f43.results = #[.tmp 4]) ∧
  (Try.f44.ntmps = 32 ∧ Try.f44.results = #[.tmp 6]) ∧
  (Try.f45.ntmps = 17 ∧ Try.f45.results = #[.tmp 4]) ∧
  (Try.f46.ntmps = 26 ∧ Try.f46.results = #[.tmp 4]) ∧
  (Try.f47.ntmps = 9 ∧ Try.f47.results = #[.tmp 4]) ∧
  (Try.f48.ntmps = 35 ∧ Try.f48.results = #[]) ∧
  (Try.f49.ntmps = 19 ∧ Try.f49.results = #[.tmp 4]) :=
  ⟨⟨rfl, rfl⟩, ⟨rfl, rfl⟩, ⟨rfl, rfl⟩, ⟨rfl, rfl⟩, ⟨rfl, rfl⟩, ⟨rfl, rfl⟩, ⟨rfl, rfl⟩, ⟨rfl, rfl⟩, ⟨rfl, rfl⟩, ⟨rfl, rfl⟩, ⟨rfl, rfl⟩, ⟨rfl, rfl⟩, ⟨rfl, rfl⟩, ⟨rfl, rfl⟩, ⟨rfl, rfl⟩, ⟨rfl, rfl⟩, ⟨rfl, rfl⟩, ⟨rfl, rfl⟩, ⟨rfl, rfl⟩, ⟨rfl, rfl⟩, ⟨rfl, rfl⟩, ⟨rfl, rfl⟩, ⟨rfl, rfl⟩, ⟨rfl, rfl⟩, ⟨rfl, rfl⟩, ⟨rfl, rfl⟩, ⟨rfl, rfl⟩, ⟨rfl, rfl⟩, ⟨rfl, rfl⟩, ⟨rfl, rfl⟩, ⟨rfl, rfl⟩, ⟨rfl, rfl⟩, ⟨rfl, rfl⟩, ⟨rfl, rfl⟩, ⟨rfl, rfl⟩, ⟨rfl, rfl⟩, ⟨rfl, rfl⟩, ⟨rfl, rfl⟩, ⟨rfl, rfl⟩, ⟨rfl, rfl⟩, ⟨rfl, rfl⟩, ⟨rfl, rfl⟩, ⟨rfl, rfl⟩, ⟨rfl, rfl⟩, ⟨rfl, rfl⟩, ⟨rfl, rfl⟩, ⟨rfl, rfl⟩⟩
attribute [go_sem] fnt tb
end Go.Proofs.Ythlmfkeeneeaoaa

namespace Go.Proofs.Ythlmfkeeneeaoaa
open Go Go.Av

structure Put where
  vcpu : Int
  cpu : Int
  deriving DecidableEq
structure Frame where
  time : Int
  puts : List Put
  deriving DecidableEq
structure Trace where
  frames : List Frame
  fin : Int
  deriving DecidableEq
structure Span where
  cpu : Int
  since : Int
  till : Int
  deriving DecidableEq
def aPut (p : Put) : AVal := .agg [.v (.int .i64 p.vcpu), .v (.int .i64 p.cpu)]
def aFrame (f : Frame) : AVal := .agg [.v (.int .i64 f.time), .sl (f.puts.map aPut)]
def aTrace (t : Trace) : AVal := .agg [.sl (t.frames.map aFrame), .v (.int .i64 t.fin)]

def aSpan (x : Span) : AVal := .agg [.v (.int .i64 x.cpu), .v (.int .i64 x.since), .v (.int .i64 x.till)]
def eqL : List (Nat × List (Option IntKind)) := [(51, [some .i64, some .i64]), (42, [some .i64, some .i64, some .i64])]
def E : Eq' := fun t => (eqL.find? (fun p => p.1 == t)).map (·.2)
theorem eq51 : EqT Try.prog 51 [some .i64, some .i64] := ⟨by kernel_rfl, by kernel_rfl, by kernel_rfl, by kernel_rfl⟩
theorem eq42 : EqT Try.prog 42 [some .i64, some .i64, some .i64] := ⟨by kernel_rfl, by kernel_rfl, by kernel_rfl, by kernel_rfl⟩
theorem hE : Eqs Try.prog E := eqs_of (l := eqL) fun p hp => by
  simp only [eqL, List.mem_cons, List.not_mem_nil, or_false] at hp
  rcases hp with rfl | rfl
  · exact eq51
  · exact eq42
theorem eT : E 51 = some [some .i64, some .i64] ∧ E 42 = some [some .i64, some .i64, some .i64] := ⟨rfl, rfl⟩
attribute [go_sem] eT
theorem hmix : Try.prog.follows .mixedOrders = true := by kernel_rfl

theorem subL_aPut (f : AVal → AVal) (l : List Put) : subL f (l.map aPut) = l.map aPut := by
  rw [subL_map, List.map_map]; exact List.map_congr_left fun _ _ => rfl
theorem subL_aFrame (f : AVal → AVal) (l : List Frame) : subL f (l.map aFrame) = l.map aFrame := by
  rw [subL_map, List.map_map]; exact List.map_congr_left fun x _ => by simp [aFrame, AVal.sub, subL, subL_aPut]
attribute [go_sem] subL_aPut subL_aFrame aPut aFrame aTrace

def timeOK (n : Int) : Bool := decide (0 ≤ n) && decide (n ≤ 1125899906842624)
theorem time_spec (n : Int) : PureE Try.prog 31 [.v (.int .i64 n)] [] (.v (.bool (timeOK n))) := by
  intro F b _
  refine callE_of hT (fn := Try.f31) rfl rfl rfl (by simp [fnt]) (by simp) fun htop hW => ?_
  repeat refine wpA_seq ?_
  refine wpA_reg hT hE fun K hK => ?_
  simp only [go_sem, Nat.reduceLT, Nat.reduceEqDiff, Nat.reduceAdd, Nat.reduceSub, Nat.reduceMul, Nat.reduceLeDiff, reduceIte, reduceCtorEq, Int.lt_irrefl, Nat.reduceMod, Nat.reduceBEq, eq_self, false_and, and_false]
  refine hK _ _ ?_; clear hK K
  repeat refine wpA_seq ?_
  refine wpA_reg hT hE fun K hK => ?_
  simp only [go_sem, Nat.reduceLT, Nat.reduceEqDiff, Nat.reduceAdd, Nat.reduceSub, Nat.reduceMul, Nat.reduceLeDiff, reduceIte, reduceCtorEq, Int.lt_irrefl, Nat.reduceMod, Nat.reduceBEq, eq_self, false_and, and_false]
  refine gd_t (fun h => ?_) (fun h => ?_)
  · try simp only [go_sem, Nat.reduceLT, Nat.reduceEqDiff, Nat.reduceAdd, Nat.reduceSub, Nat.reduceMul, Nat.reduceLeDiff, reduceIte, reduceCtorEq, Int.lt_irrefl, Nat.reduceMod, Nat.reduceBEq, eq_self, false_and, and_false, h]
    refine hK _ _ ?_; clear hK K
    refine wpA_ret (fin_pure (.inl rfl) rfl (by simp only [go_sem, Nat.reduceLT, Nat.reduceEqDiff, Nat.reduceAdd, Nat.reduceSub, Nat.reduceMul, Nat.reduceLeDiff, reduceIte, reduceCtorEq, Int.lt_irrefl, Nat.reduceMod, Nat.reduceBEq, eq_self, false_and, and_false]; rfl) ?_ (hW _))
    simp only [go_sem, Nat.reduceLT, Nat.reduceEqDiff, Nat.reduceAdd, Nat.reduceSub, Nat.reduceMul, Nat.reduceLeDiff, reduceIte, reduceCtorEq, Int.lt_irrefl, Nat.reduceMod, Nat.reduceBEq, eq_self, false_and, and_false]
    rw [timeOK]; simp only [ge_iff_le] at h; simp [h]
  · try simp only [go_sem, Nat.reduceLT, Nat.reduceEqDiff, Nat.reduceAdd, Nat.reduceSub, Nat.reduceMul, Nat.reduceLeDiff, reduceIte, reduceCtorEq, Int.lt_irrefl, Nat.reduceMod, Nat.reduceBEq, eq_self, false_and, and_false, h]
    refine hK _ _ ?_; clear hK K
    refine wpA_ret (fin_pure (.inl rfl) rfl (by simp only [go_sem, Nat.reduceLT, Nat.reduceEqDiff, Nat.reduceAdd, Nat.reduceSub, Nat.reduceMul, Nat.reduceLeDiff, reduceIte, reduceCtorEq, Int.lt_irrefl, Nat.reduceMod, Nat.reduceBEq, eq_self, false_and, and_false]; rfl) ?_ (hW _))
    simp only [go_sem, Nat.reduceLT, Nat.reduceEqDiff, Nat.reduceAdd, Nat.reduceSub, Nat.reduceMul, Nat.reduceLeDiff, reduceIte, reduceCtorEq, Int.lt_irrefl, Nat.reduceMod, Nat.reduceBEq, eq_self, false_and, and_false]
    rw [timeOK]; simp only [ge_iff_le] at h; simp [h]

def putOK (pre : List Put) (p : Put) : Bool :=
  !(decide (p.vcpu < 1) || (decide (p.vcpu > 16) || (pre.any (fun q => q.vcpu == p.vcpu) || (decide (p.cpu < 0) || (decide (p.cpu ≥ 8) || (match pre.getLast? with | some q => decide (q.cpu ≥ p.cpu) | none => false))))))
def picF : List Put → List Put → Bool
  | _, [] => true
  | pre, p :: r => putOK pre p && picF (pre ++ [p]) r

theorem picF_app (pre : List Put) (p : Put) (r : List Put) : picF pre (p :: r) = (putOK pre p && picF (pre ++ [p]) r) := rfl

theorem picture_spec (l : List Put) : PureE Try.prog 32 [.sl (l.map aPut)] [] (.v (.bool (picF [] l))) := by
  intro F b _
  refine callE_of hT (fn := Try.f32) rfl rfl rfl (by simp [fnt]) (by simp) fun htop hW => ?_
  refine wpA_bound 0 (l.map aPut) rfl fun hlen => ?_
  rw [List.length_map] at hlen
  repeat refine wpA_seq ?_
  refine wpA_reg hT hE fun K hK => ?_
  simp only [go_sem, Nat.reduceLT, Nat.reduceEqDiff, Nat.reduceAdd, Nat.reduceSub, Nat.reduceMul, Nat.reduceLeDiff, reduceIte, reduceCtorEq, Int.lt_irrefl, Nat.reduceMod, Nat.reduceBEq, eq_self, false_and, and_false]
  refine hK _ _ ?_; clear hK K
  repeat refine wpA_seq ?_
  refine wpA_reg hT hE fun K hK => ?_
  simp only [go_sem, Nat.reduceLT, Nat.reduceEqDiff, Nat.reduceAdd, Nat.reduceSub, Nat.reduceMul, Nat.reduceLeDiff, reduceIte, reduceCtorEq, Int.lt_irrefl, Nat.reduceMod, Nat.reduceBEq, eq_self, false_and, and_false]
  refine hK _ _ ?_; clear hK K
  repeat refine wpA_seq ?_
  refine wpA_reg hT hE fun K hK => ?_
  simp only [go_sem, Nat.reduceLT, Nat.reduceEqDiff, Nat.reduceAdd, Nat.reduceSub, Nat.reduceMul, Nat.reduceLeDiff, reduceIte, reduceCtorEq, Int.lt_irrefl, Nat.reduceMod, Nat.reduceBEq, eq_self, false_and, and_false]
  refine hK _ _ ?_; clear hK K
  refine wpA_kp [0, 3, 7, 8, 9] [0] (by simp) (by simp) rfl fun K hK => ?_
  try simp only [go_sem, Nat.reduceLT, Nat.reduceEqDiff, Nat.reduceAdd, Nat.reduceSub, Nat.reduceMul, Nat.reduceLeDiff, reduceIte, reduceCtorEq, Int.lt_irrefl, Nat.reduceMod, Nat.reduceBEq, eq_self, false_and, and_false, hW _]
  refine hK _ ?_; clear hK K
  refine wpA_block (wpA_loopI (fun m s => ∃ i, i + m = l.length ∧ picF [] l = picF (l.take i) (l.drop i) ∧ ((l.take i).map (·.vcpu)).Nodup ∧ s = { tm := [(0, .sl (l.map aPut)), (3, .map (b + 0)), (7, .sl (l.map aPut)), (8, .v (.int .i64 l.length)), (9, .v (.int .i64 i))], F := F, L := [.map .i64 (mkM ((l.take i).map (·.vcpu)))], ds := [] }) l.length ?_ ?_)
  · exact ⟨0, by simp, by simp, by simp, by simp [mkM]⟩
  · rintro m s ⟨i, hi, hp, hnd, rfl⟩
    repeat refine wpA_seq ?_
    refine wpA_reg hT hE fun K hK => ?_
    simp only [go_sem, Nat.reduceLT, Nat.reduceEqDiff, Nat.reduceAdd, Nat.reduceSub, Nat.reduceMul, Nat.reduceLeDiff, reduceIte, reduceCtorEq, Int.lt_irrefl, Nat.reduceMod, Nat.reduceBEq, eq_self, false_and, and_false]
    refine hK _ _ ?_; clear hK K
    repeat refine wpA_seq ?_
    refine wpA_cond rfl (fun h => ?_) (fun h => ?_)
    · have hlt : i < l.length := by simpa using h
      obtain ⟨p, hpi⟩ : ∃ p, l[i]? = some p := ⟨l[i], by simp [hlt]⟩
      have hdrop : l.drop i = p :: l.drop (i + 1) := by
        rw [List.drop_eq_getElem_cons hlt]
        rw [List.getElem?_eq_getElem hlt] at hpi; cases hpi; rfl
      have htake : l.take (i + 1) = l.take i ++ [p] := by
        rw [List.take_add_one, hpi]; rfl
      rw [hdrop, picF_app, ← htake] at hp
      have hmet : decide (p.vcpu ∈ (l.take i).map (·.vcpu)) = (l.take i).any (fun q => q.vcpu == p.vcpu) := by
        rw [Bool.eq_iff_iff]; simp only [decide_eq_true_eq, List.mem_map, List.any_eq_true, beq_iff_eq]
      refine wpA_skip ?_
      repeat refine wpA_seq ?_
      refine wpA_block ?_
      repeat refine wpA_seq ?_
      refine wpA_reg hT hE fun K hK => ?_
      simp only [go_sem, Nat.reduceLT, Nat.reduceEqDiff, Nat.reduceAdd, Nat.reduceSub, Nat.reduceMul, Nat.reduceLeDiff, reduceIte, reduceCtorEq, Int.lt_irrefl, Nat.reduceMod, Nat.reduceBEq, eq_self, false_and, and_false, hpi, Int.natCast_nonneg]
      refine hK _ _ ?_; clear hK K
      repeat refine wpA_seq ?_
      refine wpA_drw hT hE hmix (by kernel_rfl) fun K hK => ?_
      have key : ∀ (c : Bool) (s' : AS), c = !putOK (l.take i) p → Wk 57 b s' { tm := [(52, .v (.bool c)), (0, .sl (l.map aPut)), (3, .map (b + 0)), (5, .ptr (b + 1) 0), (7, .sl (l.map aPut)), (8, .v (.int .i64 l.length)), (9, .v (.int .i64 i))], F := F, L := [.map .i64 (mkM ((l.take i).map (·.vcpu))), .blk 51 [.v (.int .i64 p.vcpu), .v (.int .i64 p.cpu)]], ds := [] } → K s' [] := by
        intro c s' hc hw
        refine hK s' [] rfl (?_ : wpA _ _ _ _ _ _ s')
        clear hK K
        refine wpA_wk hw ?_
        repeat refine wpA_seq ?_
        refine wpA_cond rfl (fun h => ?_) (fun h => ?_)
        · repeat refine wpA_seq ?_
          refine wpA_reg hT hE fun K hK => ?_
          simp only [go_sem, Nat.reduceLT, Nat.reduceEqDiff, Nat.reduceAdd, Nat.reduceSub, Nat.reduceMul, Nat.reduceLeDiff, reduceIte, reduceCtorEq, Int.lt_irrefl, Nat.reduceMod, Nat.reduceBEq, eq_self, false_and, and_false]
          refine hK _ _ ?_; clear hK K
          refine wpA_ret (fin_pure (.inl rfl) rfl (by simp only [go_sem, Nat.reduceLT, Nat.reduceEqDiff, Nat.reduceAdd, Nat.reduceSub, Nat.reduceMul, Nat.reduceLeDiff, reduceIte, reduceCtorEq, Int.lt_irrefl, Nat.reduceMod, Nat.reduceBEq, eq_self, false_and, and_false]; rfl) ?_ (hW _))
          simp only [go_sem, Nat.reduceLT, Nat.reduceEqDiff, Nat.reduceAdd, Nat.reduceSub, Nat.reduceMul, Nat.reduceLeDiff, reduceIte, reduceCtorEq, Int.lt_irrefl, Nat.reduceMod, Nat.reduceBEq, eq_self, false_and, and_false]
          rw [h] at hc
          rw [hp, (by simpa using hc : putOK (l.take i) p = false)]; rfl
        · refine wpA_skip ?_
          repeat refine wpA_seq ?_
          refine wpA_reg hT hE fun K hK => ?_
          simp only [go_sem, Nat.reduceLT, Nat.reduceEqDiff, Nat.reduceAdd, Nat.reduceSub, Nat.reduceMul, Nat.reduceLeDiff, reduceIte, reduceCtorEq, Int.lt_irrefl, Nat.reduceMod, Nat.reduceBEq, eq_self, false_and, and_false]
          have hg : putOK (l.take i) p = true := by rw [h] at hc; simpa using hc
          rw [hg, Bool.true_and] at hp
          have hni : p.vcpu ∉ (l.take i).map (·.vcpu) := by
            intro hm
            have := hmet.symm.trans (decide_eq_true hm)
            simp [putOK, this] at hg
          rw [mput_mkM _ _ hni]
          refine hK _ _ ?_; clear hK K
          repeat refine wpA_seq ?_
          refine wpA_reg hT hE fun K hK => ?_
          simp only [go_sem, Nat.reduceLT, Nat.reduceEqDiff, Nat.reduceAdd, Nat.reduceSub, Nat.reduceMul, Nat.reduceLeDiff, reduceIte, reduceCtorEq, Int.lt_irrefl, Nat.reduceMod, Nat.reduceBEq, eq_self, false_and, and_false]
          refine hK _ _ ?_; clear hK K
          refine ⟨_, m - 1, wk_kp [0, 3, 7, 8, 9] [0] (by simp) (by simp) rfl, ⟨i + 1, by omega, hp, ?_, ?_⟩, by omega⟩
          · rw [htake, List.map_append]
            exact List.nodup_append.2 ⟨hnd, by simp, fun a ha c hc => by simp at hc; subst hc; exact fun h => hni (h ▸ ha)⟩
          · try simp only [go_sem, Nat.reduceLT, Nat.reduceEqDiff, Nat.reduceAdd, Nat.reduceSub, Nat.reduceMul, Nat.reduceLeDiff, reduceIte, reduceCtorEq, Int.lt_irrefl, Nat.reduceMod, Nat.reduceBEq, eq_self, false_and, and_false, hW _]
            rw [i64_id (by omega) (by omega), htake, List.map_append]
            rfl
      try simp only [go_sem, Nat.reduceLT, Nat.reduceEqDiff, Nat.reduceAdd, Nat.reduceSub, Nat.reduceMul, Nat.reduceLeDiff, reduceIte, reduceCtorEq, Int.lt_irrefl, Nat.reduceMod, Nat.reduceBEq, eq_self, false_and, and_false]
      refine gd_f (fun h1 => ?_) (fun h1 => ?_)
      · try simp only [go_sem, Nat.reduceLT, Nat.reduceEqDiff, Nat.reduceAdd, Nat.reduceSub, Nat.reduceMul, Nat.reduceLeDiff, reduceIte, reduceCtorEq, Int.lt_irrefl, Nat.reduceMod, Nat.reduceBEq, eq_self, false_and, and_false, h1]
        refine key true _ ?_ ?_
        · rw [putOK, h1]; rfl
        · exact (wk_to (wk_kp [52, 0, 3, 5, 7, 8, 9] [0, 1] (by simp) (by simp) rfl) (by simp only [go_sem, Nat.reduceLT, Nat.reduceEqDiff, Nat.reduceAdd, Nat.reduceSub, Nat.reduceMul, Nat.reduceLeDiff, reduceIte, reduceCtorEq, Int.lt_irrefl, Nat.reduceMod, Nat.reduceBEq, eq_self, false_and, and_false, hW _]))
      try simp only [go_sem, Nat.reduceLT, Nat.reduceEqDiff, Nat.reduceAdd, Nat.reduceSub, Nat.reduceMul, Nat.reduceLeDiff, reduceIte, reduceCtorEq, Int.lt_irrefl, Nat.reduceMod, Nat.reduceBEq, eq_self, false_and, and_false, h1]
      refine gd_f (fun h2 => ?_) (fun h2 => ?_)
      · try simp only [go_sem, Nat.reduceLT, Nat.reduceEqDiff, Nat.reduceAdd, Nat.reduceSub, Nat.reduceMul, Nat.reduceLeDiff, reduceIte, reduceCtorEq, Int.lt_irrefl, Nat.reduceMod, Nat.reduceBEq, eq_self, false_and, and_false, h1, h2]
        refine key true _ ?_ ?_
        · rw [putOK, h1, h2]; rfl
        · exact (wk_to (wk_kp [52, 0, 3, 5, 7, 8, 9] [0, 1] (by simp) (by simp) rfl) (by simp only [go_sem, Nat.reduceLT, Nat.reduceEqDiff, Nat.reduceAdd, Nat.reduceSub, Nat.reduceMul, Nat.reduceLeDiff, reduceIte, reduceCtorEq, Int.lt_irrefl, Nat.reduceMod, Nat.reduceBEq, eq_self, false_and, and_false, hW _]))
      try simp only [go_sem, Nat.reduceLT, Nat.reduceEqDiff, Nat.reduceAdd, Nat.reduceSub, Nat.reduceMul, Nat.reduceLeDiff, reduceIte, reduceCtorEq, Int.lt_irrefl, Nat.reduceMod, Nat.reduceBEq, eq_self, false_and, and_false, h1, h2, mgetD_mkM]
      refine gd_f (fun h3 => ?_) (fun h3 => ?_)
      · try simp only [go_sem, Nat.reduceLT, Nat.reduceEqDiff, Nat.reduceAdd, Nat.reduceSub, Nat.reduceMul, Nat.reduceLeDiff, reduceIte, reduceCtorEq, Int.lt_irrefl, Nat.reduceMod, Nat.reduceBEq, eq_self, false_and, and_false, h1, h2, h3, mgetD_mkM]
        refine key true _ ?_ ?_
        · rw [putOK, h1, h2, ← hmet, h3]; rfl
        · exact (wk_to (wk_kp [52, 0, 3, 5, 7, 8, 9] [0, 1] (by simp) (by simp) rfl) (by simp only [go_sem, Nat.reduceLT, Nat.reduceEqDiff, Nat.reduceAdd, Nat.reduceSub, Nat.reduceMul, Nat.reduceLeDiff, reduceIte, reduceCtorEq, Int.lt_irrefl, Nat.reduceMod, Nat.reduceBEq, eq_self, false_and, and_false, hW _]))
      try simp only [go_sem, Nat.reduceLT, Nat.reduceEqDiff, Nat.reduceAdd, Nat.reduceSub, Nat.reduceMul, Nat.reduceLeDiff, reduceIte, reduceCtorEq, Int.lt_irrefl, Nat.reduceMod, Nat.reduceBEq, eq_self, false_and, and_false, h1, h2, h3, mgetD_mkM]
      refine gd_f (fun h4 => ?_) (fun h4 => ?_)
      · try simp only [go_sem, Nat.reduceLT, Nat.reduceEqDiff, Nat.reduceAdd, Nat.reduceSub, Nat.reduceMul, Nat.reduceLeDiff, reduceIte, reduceCtorEq, Int.lt_irrefl, Nat.reduceMod, Nat.reduceBEq, eq_self, false_and, and_false, h1, h2, h3, h4, mgetD_mkM]
        refine key true _ ?_ ?_
        · rw [putOK, h1, h2, ← hmet, h3, h4]; rfl
        · exact (wk_to (wk_kp [52, 0, 3, 5, 7, 8, 9] [0, 1] (by simp) (by simp) rfl) (by simp only [go_sem, Nat.reduceLT, Nat.reduceEqDiff, Nat.reduceAdd, Nat.reduceSub, Nat.reduceMul, Nat.reduceLeDiff, reduceIte, reduceCtorEq, Int.lt_irrefl, Nat.reduceMod, Nat.reduceBEq, eq_self, false_and, and_false, hW _]))
      try simp only [go_sem, Nat.reduceLT, Nat.reduceEqDiff, Nat.reduceAdd, Nat.reduceSub, Nat.reduceMul, Nat.reduceLeDiff, reduceIte, reduceCtorEq, Int.lt_irrefl, Nat.reduceMod, Nat.reduceBEq, eq_self, false_and, and_false, h1, h2, h3, h4, mgetD_mkM]
      refine gd_f (fun h5 => ?_) (fun h5 => ?_)
      · try simp only [go_sem, Nat.reduceLT, Nat.reduceEqDiff, Nat.reduceAdd, Nat.reduceSub, Nat.reduceMul, Nat.reduceLeDiff, reduceIte, reduceCtorEq, Int.lt_irrefl, Nat.reduceMod, Nat.reduceBEq, eq_self, false_and, and_false, h1, h2, h3, h4, h5, mgetD_mkM]
        refine key true _ ?_ ?_
        · rw [putOK, h1, h2, ← hmet, h3, h4, h5]; rfl
        · exact (wk_to (wk_kp [52, 0, 3, 5, 7, 8, 9] [0, 1] (by simp) (by simp) rfl) (by simp only [go_sem, Nat.reduceLT, Nat.reduceEqDiff, Nat.reduceAdd, Nat.reduceSub, Nat.reduceMul, Nat.reduceLeDiff, reduceIte, reduceCtorEq, Int.lt_irrefl, Nat.reduceMod, Nat.reduceBEq, eq_self, false_and, and_false, hW _]))
      try simp only [go_sem, Nat.reduceLT, Nat.reduceEqDiff, Nat.reduceAdd, Nat.reduceSub, Nat.reduceMul, Nat.reduceLeDiff, reduceIte, reduceCtorEq, Int.lt_irrefl, Nat.reduceMod, Nat.reduceBEq, eq_self, false_and, and_false, h1, h2, h3, h4, h5, mgetD_mkM]
      refine gd_t (fun h6 => ?_) (fun h6 => ?_)
      · have h0 : 0 < i := by simpa using h6
        obtain ⟨q, hq⟩ : ∃ q, l[i - 1]? = some q := ⟨l[i - 1], List.getElem?_eq_getElem (by omega)⟩
        have hw : IntKind.i64.wrap ((i : Int) - 1) = ((i - 1 : Nat) : Int) := by
          rw [i64_id (by omega) (by omega)]; omega
        have hlast : (l.take i).getLast? = some q := by
          rw [List.getLast?_eq_getElem?, List.length_take, Nat.min_eq_left (by omega), List.getElem?_take]
          rw [if_pos (by omega)]; exact hq
        try simp only [go_sem, Nat.reduceLT, Nat.reduceEqDiff, Nat.reduceAdd, Nat.reduceSub, Nat.reduceMul, Nat.reduceLeDiff, reduceIte, reduceCtorEq, Int.lt_irrefl, Nat.reduceMod, Nat.reduceBEq, eq_self, false_and, and_false, h1, h2, h3, h4, h5, h6, mgetD_mkM, hw, hq, Int.natCast_nonneg]
        refine key (decide (q.cpu ≥ p.cpu)) _ ?_ ?_
        · rw [putOK, h1, h2, ← hmet, h3, h4, h5, hlast]; simp
        · exact (wk_to (wk_kp [52, 0, 3, 5, 7, 8, 9] [0, 1] (by simp) (by simp) rfl) (by simp only [go_sem, Nat.reduceLT, Nat.reduceEqDiff, Nat.reduceAdd, Nat.reduceSub, Nat.reduceMul, Nat.reduceLeDiff, reduceIte, reduceCtorEq, Int.lt_irrefl, Nat.reduceMod, Nat.reduceBEq, eq_self, false_and, and_false, hW _]))
      · have h0 : i = 0 := by simpa using h6
        try simp only [go_sem, Nat.reduceLT, Nat.reduceEqDiff, Nat.reduceAdd, Nat.reduceSub, Nat.reduceMul, Nat.reduceLeDiff, reduceIte, reduceCtorEq, Int.lt_irrefl, Nat.reduceMod, Nat.reduceBEq, eq_self, false_and, and_false, h1, h2, h3, h4, h5, h6, mgetD_mkM]
        refine key false _ ?_ ?_
        · rw [putOK, h1, h2, ← hmet, h3, h4, h5, h0]; rfl
        · exact (wk_to (wk_kp [52, 0, 3, 5, 7, 8, 9] [0, 1] (by simp) (by simp) rfl) (by simp only [go_sem, Nat.reduceLT, Nat.reduceEqDiff, Nat.reduceAdd, Nat.reduceSub, Nat.reduceMul, Nat.reduceLeDiff, reduceIte, reduceCtorEq, Int.lt_irrefl, Nat.reduceMod, Nat.reduceBEq, eq_self, false_and, and_false, hW _]))
    · have hlt : i = l.length := by
        have : ¬ i < l.length := by simpa using h
        omega
      subst hlt
      refine wpA_exit ?_
      repeat refine wpA_seq ?_
      refine wpA_reg hT hE fun K hK => ?_
      simp only [go_sem, Nat.reduceLT, Nat.reduceEqDiff, Nat.reduceAdd, Nat.reduceSub, Nat.reduceMul, Nat.reduceLeDiff, reduceIte, reduceCtorEq, Int.lt_irrefl, Nat.reduceMod, Nat.reduceBEq, eq_self, false_and, and_false]
      refine hK _ _ ?_; clear hK K
      refine wpA_ret (fin_pure (.inl rfl) rfl (by simp only [go_sem, Nat.reduceLT, Nat.reduceEqDiff, Nat.reduceAdd, Nat.reduceSub, Nat.reduceMul, Nat.reduceLeDiff, reduceIte, reduceCtorEq, Int.lt_irrefl, Nat.reduceMod, Nat.reduceBEq, eq_self, false_and, and_false]; rfl) ?_ (hW _))
      simp only [go_sem, Nat.reduceLT, Nat.reduceEqDiff, Nat.reduceAdd, Nat.reduceSub, Nat.reduceMul, Nat.reduceLeDiff, reduceIte, reduceCtorEq, Int.lt_irrefl, Nat.reduceMod, Nat.reduceBEq, eq_self, false_and, and_false]
      rw [hp, List.drop_length]; rfl
end Go.Proofs.Ythlmfkeeneeaoaa

namespace Go.Proofs.Ythlmfkeeneeaoaa
open Go Go.Av

theorem Time_spec (n : Int) : PureE Try.prog 18 [.v (.int .i64 n)] [] (.v (.bool (timeOK n))) := by
  intro F b _
  refine callE_of hT (fn := Try.f18) rfl rfl rfl (by simp [fnt]) (by simp) fun htop hW => ?_
  repeat refine wpA_seq ?_
  refine wpA_reg hT hE fun K hK => ?_
  simp only [go_sem, Nat.reduceLT, Nat.reduceEqDiff, Nat.reduceAdd, Nat.reduceSub, Nat.reduceMul, Nat.reduceLeDiff, reduceIte, reduceCtorEq, Int.lt_irrefl, Nat.reduceMod, Nat.reduceBEq, eq_self, false_and, and_false]
  refine hK _ _ ?_; clear hK K
  repeat refine wpA_seq ?_
  refine wpA_reg hT hE fun K hK => ?_
  simp only [go_sem, Nat.reduceLT, Nat.reduceEqDiff, Nat.reduceAdd, Nat.reduceSub, Nat.reduceMul, Nat.reduceLeDiff, reduceIte, reduceCtorEq, Int.lt_irrefl, Nat.reduceMod, Nat.reduceBEq, eq_self, false_and, and_false]
  refine gd_t (fun h => ?_) (fun h => ?_)
  · try simp only [go_sem, Nat.reduceLT, Nat.reduceEqDiff, Nat.reduceAdd, Nat.reduceSub, Nat.reduceMul, Nat.reduceLeDiff, reduceIte, reduceCtorEq, Int.lt_irrefl, Nat.reduceMod, Nat.reduceBEq, eq_self, false_and, and_false, h]
    refine hK _ _ ?_; clear hK K
    refine wpA_ret (fin_pure (.inl rfl) rfl (by simp only [go_sem, Nat.reduceLT, Nat.reduceEqDiff, Nat.reduceAdd, Nat.reduceSub, Nat.reduceMul, Nat.reduceLeDiff, reduceIte, reduceCtorEq, Int.lt_irrefl, Nat.reduceMod, Nat.reduceBEq, eq_self, false_and, and_false]; rfl) ?_ (hW _))
    simp only [go_sem, Nat.reduceLT, Nat.reduceEqDiff, Nat.reduceAdd, Nat.reduceSub, Nat.reduceMul, Nat.reduceLeDiff, reduceIte, reduceCtorEq, Int.lt_irrefl, Nat.reduceMod, Nat.reduceBEq, eq_self, false_and, and_false]
    rw [timeOK]; simp only [ge_iff_le] at h; simp [h]
  · try simp only [go_sem, Nat.reduceLT, Nat.reduceEqDiff, Nat.reduceAdd, Nat.reduceSub, Nat.reduceMul, Nat.reduceLeDiff, reduceIte, reduceCtorEq, Int.lt_irrefl, Nat.reduceMod, Nat.reduceBEq, eq_self, false_and, and_false, h]
    refine hK _ _ ?_; clear hK K
    refine wpA_ret (fin_pure (.inl rfl) rfl (by simp only [go_sem, Nat.reduceLT, Nat.reduceEqDiff, Nat.reduceAdd, Nat.reduceSub, Nat.reduceMul, Nat.reduceLeDiff, reduceIte, reduceCtorEq, Int.lt_irrefl, Nat.reduceMod, Nat.reduceBEq, eq_self, false_and, and_false]; rfl) ?_ (hW _))
    simp only [go_sem, Nat.reduceLT, Nat.reduceEqDiff, Nat.reduceAdd, Nat.reduceSub, Nat.reduceMul, Nat.reduceLeDiff, reduceIte, reduceCtorEq, Int.lt_irrefl, Nat.reduceMod, Nat.reduceBEq, eq_self, false_and, and_false]
    rw [timeOK]; simp only [ge_iff_le] at h; simp [h]

theorem take_eq {α : Type} {l m : List α} {i : Nat} {x y : α} (h : l.take i = m.take i) (hx : l[i]? = some x) (hy : m[i]? = some y) (e : x = y) : l.take (i + 1) = m.take (i + 1) := by
  rw [List.take_add_one, List.take_add_one, h, hx, hy, e]

theorem SamePuts_spec (l m : List Put) : PureE Try.prog 25 [.sl (l.map aPut), .sl (m.map aPut)] [] (.v (.bool (decide (l = m)))) := by
  intro F b _
  refine callE_of hT (fn := Try.f25) rfl rfl rfl (by simp [fnt]) (by simp) fun htop hW => ?_
  refine wpA_bound 0 (l.map aPut) rfl fun hlen => ?_
  rw [List.length_map] at hlen
  repeat refine wpA_seq ?_
  refine wpA_reg hT hE fun K hK => ?_
  simp only [go_sem, Nat.reduceLT, Nat.reduceEqDiff, Nat.reduceAdd, Nat.reduceSub, Nat.reduceMul, Nat.reduceLeDiff, reduceIte, reduceCtorEq, Int.lt_irrefl, Nat.reduceMod, Nat.reduceBEq, eq_self, false_and, and_false]
  refine hK _ _ ?_; clear hK K
  repeat refine wpA_seq ?_
  refine wpA_reg hT hE fun K hK => ?_
  simp only [go_sem, Nat.reduceLT, Nat.reduceEqDiff, Nat.reduceAdd, Nat.reduceSub, Nat.reduceMul, Nat.reduceLeDiff, reduceIte, reduceCtorEq, Int.lt_irrefl, Nat.reduceMod, Nat.reduceBEq, eq_self, false_and, and_false]
  refine hK _ _ ?_; clear hK K
  repeat refine wpA_seq ?_
  refine wpA_cond rfl (fun h => ?_) (fun h => ?_)
  · have hne : l ≠ m := fun e => by subst e; simp at h
    repeat refine wpA_seq ?_
    refine wpA_reg hT hE fun K hK => ?_
    simp only [go_sem, Nat.reduceLT, Nat.reduceEqDiff, Nat.reduceAdd, Nat.reduceSub, Nat.reduceMul, Nat.reduceLeDiff, reduceIte, reduceCtorEq, Int.lt_irrefl, Nat.reduceMod, Nat.reduceBEq, eq_self, false_and, and_false]
    refine hK _ _ ?_; clear hK K
    refine wpA_ret (fin_pure (.inl rfl) rfl (by simp only [go_sem, Nat.reduceLT, Nat.reduceEqDiff, Nat.reduceAdd, Nat.reduceSub, Nat.reduceMul, Nat.reduceLeDiff, reduceIte, reduceCtorEq, Int.lt_irrefl, Nat.reduceMod, Nat.reduceBEq, eq_self, false_and, and_false]; rfl) ?_ (hW _))
    simp only [go_sem, Nat.reduceLT, Nat.reduceEqDiff, Nat.reduceAdd, Nat.reduceSub, Nat.reduceMul, Nat.reduceLeDiff, reduceIte, reduceCtorEq, Int.lt_irrefl, Nat.reduceMod, Nat.reduceBEq, eq_self, false_and, and_false]
    simp [hne]
  have hl : l.length = m.length := by
    have : (l.length : Int) = m.length := by simpa using h
    omega
  refine wpA_skip ?_
  repeat refine wpA_seq ?_
  refine wpA_reg hT hE fun K hK => ?_
  simp only [go_sem, Nat.reduceLT, Nat.reduceEqDiff, Nat.reduceAdd, Nat.reduceSub, Nat.reduceMul, Nat.reduceLeDiff, reduceIte, reduceCtorEq, Int.lt_irrefl, Nat.reduceMod, Nat.reduceBEq, eq_self, false_and, and_false]
  refine hK _ _ ?_; clear hK K
  refine wpA_kp [0, 1, 5] [] (by simp) (by simp) rfl fun K hK => ?_
  try simp only [go_sem, Nat.reduceLT, Nat.reduceEqDiff, Nat.reduceAdd, Nat.reduceSub, Nat.reduceMul, Nat.reduceLeDiff, reduceIte, reduceCtorEq, Int.lt_irrefl, Nat.reduceMod, Nat.reduceBEq, eq_self, false_and, and_false, hW _]
  refine hK _ ?_; clear hK K
  repeat refine wpA_seq ?_
  refine wpA_block (wpA_loopI (fun k s => ∃ i, i + k = l.length ∧ l.take i = m.take i ∧ s = { tm := [(0, .sl (l.map aPut)), (1, .sl (m.map aPut)), (5, .v (.int .i64 i))], F := F, L := [], ds := [] }) l.length ?_ ?_)
  · exact ⟨0, by simp, by simp, by simp⟩
  · rintro k s ⟨i, hi, hp, rfl⟩
    repeat refine wpA_seq ?_
    refine wpA_reg hT hE fun K hK => ?_
    simp only [go_sem, Nat.reduceLT, Nat.reduceEqDiff, Nat.reduceAdd, Nat.reduceSub, Nat.reduceMul, Nat.reduceLeDiff, reduceIte, reduceCtorEq, Int.lt_irrefl, Nat.reduceMod, Nat.reduceBEq, eq_self, false_and, and_false]
    refine hK _ _ ?_; clear hK K
    repeat refine wpA_seq ?_
    refine wpA_cond rfl (fun h => ?_) (fun h => ?_)
    · have hlt : i < l.length := by simpa using h
      obtain ⟨p, hpi⟩ : ∃ p, l[i]? = some p := ⟨l[i], List.getElem?_eq_getElem hlt⟩
      obtain ⟨q, hqi⟩ : ∃ q, m[i]? = some q := ⟨m[i], List.getElem?_eq_getElem (by omega)⟩
      refine wpA_skip ?_
      repeat refine wpA_seq ?_
      refine wpA_block ?_
      repeat refine wpA_seq ?_
      refine wpA_drw hT hE hmix (by kernel_rfl) fun K hK => ?_
      simp only [go_sem, Nat.reduceLT, Nat.reduceEqDiff, Nat.reduceAdd, Nat.reduceSub, Nat.reduceMul, Nat.reduceLeDiff, reduceIte, reduceCtorEq, Int.lt_irrefl, Nat.reduceMod, Nat.reduceBEq, eq_self, false_and, and_false, hpi, hqi, Int.natCast_nonneg]
      refine hK _ _ rfl ?_; clear hK K
      repeat refine wpA_seq ?_
      refine wpA_cond rfl (fun h => ?_) (fun h => ?_)
      · repeat refine wpA_seq ?_
        refine wpA_reg hT hE fun K hK => ?_
        simp only [go_sem, Nat.reduceLT, Nat.reduceEqDiff, Nat.reduceAdd, Nat.reduceSub, Nat.reduceMul, Nat.reduceLeDiff, reduceIte, reduceCtorEq, Int.lt_irrefl, Nat.reduceMod, Nat.reduceBEq, eq_self, false_and, and_false]
        refine hK _ _ ?_; clear hK K
        refine wpA_ret (fin_pure (.inl rfl) rfl (by simp only [go_sem, Nat.reduceLT, Nat.reduceEqDiff, Nat.reduceAdd, Nat.reduceSub, Nat.reduceMul, Nat.reduceLeDiff, reduceIte, reduceCtorEq, Int.lt_irrefl, Nat.reduceMod, Nat.reduceBEq, eq_self, false_and, and_false]; rfl) ?_ (hW _))
        simp only [go_sem, Nat.reduceLT, Nat.reduceEqDiff, Nat.reduceAdd, Nat.reduceSub, Nat.reduceMul, Nat.reduceLeDiff, reduceIte, reduceCtorEq, Int.lt_irrefl, Nat.reduceMod, Nat.reduceBEq, eq_self, false_and, and_false]
        have hne : l ≠ m := by
          rintro rfl
          rw [hpi] at hqi; cases hqi
          simp at h
        simp [hne]
      · have hpq : p = q := by
          obtain ⟨a, c⟩ := p; obtain ⟨a', c'⟩ := q
          simpa using h
        refine wpA_skip ?_
        repeat refine wpA_seq ?_
        refine wpA_reg hT hE fun K hK => ?_
        simp only [go_sem, Nat.reduceLT, Nat.reduceEqDiff, Nat.reduceAdd, Nat.reduceSub, Nat.reduceMul, Nat.reduceLeDiff, reduceIte, reduceCtorEq, Int.lt_irrefl, Nat.reduceMod, Nat.reduceBEq, eq_self, false_and, and_false]
        refine hK _ _ ?_; clear hK K
        refine ⟨_, k - 1, wk_kp [0, 1, 5] [] (by simp) (by simp) rfl, ⟨i + 1, by omega, take_eq hp hpi hqi hpq, ?_⟩, by omega⟩
        try simp only [go_sem, Nat.reduceLT, Nat.reduceEqDiff, Nat.reduceAdd, Nat.reduceSub, Nat.reduceMul, Nat.reduceLeDiff, reduceIte, reduceCtorEq, Int.lt_irrefl, Nat.reduceMod, Nat.reduceBEq, eq_self, false_and, and_false, hW _]
        rw [i64_id (by omega) (by omega)]
        rfl
    · have hlt : i = l.length := by
        have : ¬ i < l.length := by simpa using h
        omega
      subst hlt
      have : l = m := by
        rw [List.take_length] at hp
        rw [hp, hl, List.take_length]
      refine wpA_exit ?_
      repeat refine wpA_seq ?_
      refine wpA_reg hT hE fun K hK => ?_
      simp only [go_sem, Nat.reduceLT, Nat.reduceEqDiff, Nat.reduceAdd, Nat.reduceSub, Nat.reduceMul, Nat.reduceLeDiff, reduceIte, reduceCtorEq, Int.lt_irrefl, Nat.reduceMod, Nat.reduceBEq, eq_self, false_and, and_false]
      refine hK _ _ ?_; clear hK K
      refine wpA_ret (fin_pure (.inl rfl) rfl (by simp only [go_sem, Nat.reduceLT, Nat.reduceEqDiff, Nat.reduceAdd, Nat.reduceSub, Nat.reduceMul, Nat.reduceLeDiff, reduceIte, reduceCtorEq, Int.lt_irrefl, Nat.reduceMod, Nat.reduceBEq, eq_self, false_and, and_false]; rfl) ?_ (hW _))
      simp only [go_sem, Nat.reduceLT, Nat.reduceEqDiff, Nat.reduceAdd, Nat.reduceSub, Nat.reduceMul, Nat.reduceLeDiff, reduceIte, reduceCtorEq, Int.lt_irrefl, Nat.reduceMod, Nat.reduceBEq, eq_self, false_and, and_false]
      simp [this]

theorem Equal_spec (l m : List Put) : PureE Try.prog 46 [.sl (l.map aPut), .sl (m.map aPut)] [] (.v (.bool (decide (l = m)))) := by
  intro F b _
  refine callE_of hT (fn := Try.f46) rfl rfl rfl (by simp [fnt]) (by simp) fun htop hW => ?_
  refine wpA_bound 0 (l.map aPut) rfl fun hlen => ?_
  rw [List.length_map] at hlen
  repeat refine wpA_seq ?_
  refine wpA_reg hT hE fun K hK => ?_
  simp only [go_sem, Nat.reduceLT, Nat.reduceEqDiff, Nat.reduceAdd, Nat.reduceSub, Nat.reduceMul, Nat.reduceLeDiff, reduceIte, reduceCtorEq, Int.lt_irrefl, Nat.reduceMod, Nat.reduceBEq, eq_self, false_and, and_false]
  refine hK _ _ ?_; clear hK K
  repeat refine wpA_seq ?_
  refine wpA_reg hT hE fun K hK => ?_
  simp only [go_sem, Nat.reduceLT, Nat.reduceEqDiff, Nat.reduceAdd, Nat.reduceSub, Nat.reduceMul, Nat.reduceLeDiff, reduceIte, reduceCtorEq, Int.lt_irrefl, Nat.reduceMod, Nat.reduceBEq, eq_self, false_and, and_false]
  refine hK _ _ ?_; clear hK K
  repeat refine wpA_seq ?_
  refine wpA_cond rfl (fun h => ?_) (fun h => ?_)
  · have hne : l ≠ m := fun e => by subst e; simp at h
    repeat refine wpA_seq ?_
    refine wpA_reg hT hE fun K hK => ?_
    simp only [go_sem, Nat.reduceLT, Nat.reduceEqDiff, Nat.reduceAdd, Nat.reduceSub, Nat.reduceMul, Nat.reduceLeDiff, reduceIte, reduceCtorEq, Int.lt_irrefl, Nat.reduceMod, Nat.reduceBEq, eq_self, false_and, and_false]
    refine hK _ _ ?_; clear hK K
    refine wpA_ret (fin_pure (.inl rfl) rfl (by simp only [go_sem, Nat.reduceLT, Nat.reduceEqDiff, Nat.reduceAdd, Nat.reduceSub, Nat.reduceMul, Nat.reduceLeDiff, reduceIte, reduceCtorEq, Int.lt_irrefl, Nat.reduceMod, Nat.reduceBEq, eq_self, false_and, and_false]; rfl) ?_ (hW _))
    simp only [go_sem, Nat.reduceLT, Nat.reduceEqDiff, Nat.reduceAdd, Nat.reduceSub, Nat.reduceMul, Nat.reduceLeDiff, reduceIte, reduceCtorEq, Int.lt_irrefl, Nat.reduceMod, Nat.reduceBEq, eq_self, false_and, and_false]
    simp [hne]
  have hl : l.length = m.length := by
    have : (l.length : Int) = m.length := by simpa using h
    omega
  refine wpA_skip ?_
  repeat refine wpA_seq ?_
  refine wpA_reg hT hE fun K hK => ?_
  simp only [go_sem, Nat.reduceLT, Nat.reduceEqDiff, Nat.reduceAdd, Nat.reduceSub, Nat.reduceMul, Nat.reduceLeDiff, reduceIte, reduceCtorEq, Int.lt_irrefl, Nat.reduceMod, Nat.reduceBEq, eq_self, false_and, and_false]
  refine hK _ _ ?_; clear hK K
  refine wpA_kp [0, 1, 12, 13] [] (by simp) (by simp) rfl fun K hK => ?_
  try simp only [go_sem, Nat.reduceLT, Nat.reduceEqDiff, Nat.reduceAdd, Nat.reduceSub, Nat.reduceMul, Nat.reduceLeDiff, reduceIte, reduceCtorEq, Int.lt_irrefl, Nat.reduceMod, Nat.reduceBEq, eq_self, false_and, and_false, hW _]
  refine hK _ ?_; clear hK K
  repeat refine wpA_seq ?_
  refine wpA_block (wpA_loopI (fun k s => ∃ i, i + k = l.length ∧ l.take i = m.take i ∧ s = { tm := [(0, .sl (l.map aPut)), (1, .sl (m.map aPut)), (12, .v (.int .i64 l.length)), (13, .v (.int .i64 i))], F := F, L := [], ds := [] }) l.length ?_ ?_)
  · exact ⟨0, by simp, by simp, by simp⟩
  · rintro k s ⟨i, hi, hp, rfl⟩
    repeat refine wpA_seq ?_
    refine wpA_reg hT hE fun K hK => ?_
    simp only [go_sem, Nat.reduceLT, Nat.reduceEqDiff, Nat.reduceAdd, Nat.reduceSub, Nat.reduceMul, Nat.reduceLeDiff, reduceIte, reduceCtorEq, Int.lt_irrefl, Nat.reduceMod, Nat.reduceBEq, eq_self, false_and, and_false]
    refine hK _ _ ?_; clear hK K
    repeat refine wpA_seq ?_
    refine wpA_cond rfl (fun h => ?_) (fun h => ?_)
    · have hlt : i < l.length := by simpa using h
      obtain ⟨p, hpi⟩ : ∃ p, l[i]? = some p := ⟨l[i], List.getElem?_eq_getElem hlt⟩
      obtain ⟨q, hqi⟩ : ∃ q, m[i]? = some q := ⟨m[i], List.getElem?_eq_getElem (by omega)⟩
      refine wpA_skip ?_
      repeat refine wpA_seq ?_
      refine wpA_block ?_
      repeat refine wpA_seq ?_
      refine wpA_reg hT hE fun K hK => ?_
      simp only [go_sem, Nat.reduceLT, Nat.reduceEqDiff, Nat.reduceAdd, Nat.reduceSub, Nat.reduceMul, Nat.reduceLeDiff, reduceIte, reduceCtorEq, Int.lt_irrefl, Nat.reduceMod, Nat.reduceBEq, eq_self, false_and, and_false]
      refine hK _ _ ?_; clear hK K
      repeat refine wpA_seq ?_
      refine wpA_drw hT hE hmix (by kernel_rfl) fun K hK => ?_
      simp only [go_sem, Nat.reduceLT, Nat.reduceEqDiff, Nat.reduceAdd, Nat.reduceSub, Nat.reduceMul, Nat.reduceLeDiff, reduceIte, reduceCtorEq, Int.lt_irrefl, Nat.reduceMod, Nat.reduceBEq, eq_self, false_and, and_false, hpi, hqi, Int.natCast_nonneg]
      refine hK _ _ rfl ?_; clear hK K
      repeat refine wpA_seq ?_
      refine wpA_cond rfl (fun h => ?_) (fun h => ?_)
      · repeat refine wpA_seq ?_
        refine wpA_reg hT hE fun K hK => ?_
        simp only [go_sem, Nat.reduceLT, Nat.reduceEqDiff, Nat.reduceAdd, Nat.reduceSub, Nat.reduceMul, Nat.reduceLeDiff, reduceIte, reduceCtorEq, Int.lt_irrefl, Nat.reduceMod, Nat.reduceBEq, eq_self, false_and, and_false]
        refine hK _ _ ?_; clear hK K
        refine wpA_ret (fin_pure (.inl rfl) rfl (by simp only [go_sem, Nat.reduceLT, Nat.reduceEqDiff, Nat.reduceAdd, Nat.reduceSub, Nat.reduceMul, Nat.reduceLeDiff, reduceIte, reduceCtorEq, Int.lt_irrefl, Nat.reduceMod, Nat.reduceBEq, eq_self, false_and, and_false]; rfl) ?_ (hW _))
        simp only [go_sem, Nat.reduceLT, Nat.reduceEqDiff, Nat.reduceAdd, Nat.reduceSub, Nat.reduceMul, Nat.reduceLeDiff, reduceIte, reduceCtorEq, Int.lt_irrefl, Nat.reduceMod, Nat.reduceBEq, eq_self, false_and, and_false]
        have hne : l ≠ m := by
          rintro rfl
          rw [hpi] at hqi; cases hqi
          simp at h
        simp [hne]
      · have hpq : p = q := by
          obtain ⟨a, c⟩ := p; obtain ⟨a', c'⟩ := q
          simpa using h
        refine wpA_skip ?_
        repeat refine wpA_seq ?_
        refine wpA_reg hT hE fun K hK => ?_
        simp only [go_sem, Nat.reduceLT, Nat.reduceEqDiff, Nat.reduceAdd, Nat.reduceSub, Nat.reduceMul, Nat.reduceLeDiff, reduceIte, reduceCtorEq, Int.lt_irrefl, Nat.reduceMod, Nat.reduceBEq, eq_self, false_and, and_false]
        refine hK _ _ ?_; clear hK K
        refine ⟨_, k - 1, wk_kp [0, 1, 12, 13] [] (by simp) (by simp) rfl, ⟨i + 1, by omega, take_eq hp hpi hqi hpq, ?_⟩, by omega⟩
        try simp only [go_sem, Nat.reduceLT, Nat.reduceEqDiff, Nat.reduceAdd, Nat.reduceSub, Nat.reduceMul, Nat.reduceLeDiff, reduceIte, reduceCtorEq, Int.lt_irrefl, Nat.reduceMod, Nat.reduceBEq, eq_self, false_and, and_false, hW _]
        rw [i64_id (by omega) (by omega)]
        rfl
    · have hlt : i = l.length := by
        have : ¬ i < l.length := by simpa using h
        omega
      subst hlt
      have : l = m := by
        rw [List.take_length] at hp
        rw [hp, hl, List.take_length]
      refine wpA_exit ?_
      repeat refine wpA_seq ?_
      refine wpA_reg hT hE fun K hK => ?_
      simp only [go_sem, Nat.reduceLT, Nat.reduceEqDiff, Nat.reduceAdd, Nat.reduceSub, Nat.reduceMul, Nat.reduceLeDiff, reduceIte, reduceCtorEq, Int.lt_irrefl, Nat.reduceMod, Nat.reduceBEq, eq_self, false_and, and_false]
      refine hK _ _ ?_; clear hK K
      refine wpA_ret (fin_pure (.inl rfl) rfl (by simp only [go_sem, Nat.reduceLT, Nat.reduceEqDiff, Nat.reduceAdd, Nat.reduceSub, Nat.reduceMul, Nat.reduceLeDiff, reduceIte, reduceCtorEq, Int.lt_irrefl, Nat.reduceMod, Nat.reduceBEq, eq_self, false_and, and_false]; rfl) ?_ (hW _))
      simp only [go_sem, Nat.reduceLT, Nat.reduceEqDiff, Nat.reduceAdd, Nat.reduceSub, Nat.reduceMul, Nat.reduceLeDiff, reduceIte, reduceCtorEq, Int.lt_irrefl, Nat.reduceMod, Nat.reduceBEq, eq_self, false_and, and_false]
      simp [this]

theorem alike_spec (l m : List Put) : PureE Try.prog 36 [.sl (l.map aPut), .sl (m.map aPut)] [] (.v (.bool (decide (l = m)))) := by
  intro F b _
  refine callE_of hT (fn := Try.f36) rfl rfl rfl (by simp [fnt]) (by simp) fun htop hW => ?_
  repeat refine wpA_seq ?_
  refine wpA_reg hT hE fun K hK => ?_
  simp only [go_sem, Nat.reduceLT, Nat.reduceEqDiff, Nat.reduceAdd, Nat.reduceSub, Nat.reduceMul, Nat.reduceLeDiff, reduceIte, reduceCtorEq, Int.lt_irrefl, Nat.reduceMod, Nat.reduceBEq, eq_self, false_and, and_false]
  refine hK _ _ ?_; clear hK K
  repeat refine wpA_seq ?_
  refine wpA_reg hT hE fun K hK => ?_
  simp only [go_sem, Nat.reduceLT, Nat.reduceEqDiff, Nat.reduceAdd, Nat.reduceSub, Nat.reduceMul, Nat.reduceLeDiff, reduceIte, reduceCtorEq, Int.lt_irrefl, Nat.reduceMod, Nat.reduceBEq, eq_self, false_and, and_false]
  refine ⟨_, [], [], Equal_spec l m _ _ (by simp), ?_⟩
  try simp only [go_sem, Nat.reduceLT, Nat.reduceEqDiff, Nat.reduceAdd, Nat.reduceSub, Nat.reduceMul, Nat.reduceLeDiff, reduceIte, reduceCtorEq, Int.lt_irrefl, Nat.reduceMod, Nat.reduceBEq, eq_self, false_and, and_false]
  refine hK _ _ ?_; clear hK K
  refine wpA_ret (fin_pure (.inl rfl) rfl (by simp only [go_sem, Nat.reduceLT, Nat.reduceEqDiff, Nat.reduceAdd, Nat.reduceSub, Nat.reduceMul, Nat.reduceLeDiff, reduceIte, reduceCtorEq, Int.lt_irrefl, Nat.reduceMod, Nat.reduceBEq, eq_self, false_and, and_false]; rfl) ?_ (hW _))
  simp only [go_sem, Nat.reduceLT, Nat.reduceEqDiff, Nat.reduceAdd, Nat.reduceSub, Nat.reduceMul, Nat.reduceLeDiff, reduceIte, reduceCtorEq, Int.lt_irrefl, Nat.reduceMod, Nat.reduceBEq, eq_self, false_and, and_false]
end Go.Proofs.Ythlmfkeeneeaoaa

namespace Go.Proofs.Ythlmfkeeneeaoaa
open Go Go.Av

def lastGe (pre : List Put) (p : Put) : Bool := match pre.getLast? with | some q => decide (q.cpu ≥ p.cpu) | none => false
def bad5 (pre : List Put) (p : Put) : Bool :=
  decide (p.vcpu < 1) || (decide (p.vcpu > 16) || (decide (p.cpu < 0) || (decide (p.cpu > 7) || lastGe pre p)))
theorem putOK_eq (pre : List Put) (p : Put) : putOK pre p = !(bad5 pre p || pre.any (fun q => q.vcpu == p.vcpu)) := by
  have e : decide (p.cpu ≥ 8) = decide (p.cpu > 7) := decide_eq_decide.2 (by omega)
  unfold putOK bad5 lastGe
  rw [e]
  generalize decide (p.vcpu < 1) = a
  generalize decide (p.vcpu > 16) = b
  generalize decide (p.cpu < 0) = c
  generalize decide (p.cpu > 7) = d
  generalize pre.any _ = f
  cases pre.getLast? <;> cases a <;> cases b <;> cases c <;> cases d <;> cases f <;> simp

theorem any_take {l : List Put} {i : Nat} {q : Put} (hq : l[i]? = some q) (n : Int) : (l.take (i + 1)).any (fun x => x.vcpu == n) = ((l.take i).any (fun x => x.vcpu == n) || (q.vcpu == n)) := by
  rw [List.take_add_one, hq]; simp

theorem Picture_spec (l : List Put) : PureE Try.prog 34 [.sl (l.map aPut)] [] (.v (.bool (picF [] l))) := by
  intro F b _
  refine callE_of hT (fn := Try.f34) rfl rfl rfl (by simp [fnt]) (by simp) fun htop hW => ?_
  refine wpA_bound 0 (l.map aPut) rfl fun hlen => ?_
  rw [List.length_map] at hlen
  repeat refine wpA_seq ?_
  refine wpA_reg hT hE fun K hK => ?_
  simp only [go_sem, Nat.reduceLT, Nat.reduceEqDiff, Nat.reduceAdd, Nat.reduceSub, Nat.reduceMul, Nat.reduceLeDiff, reduceIte, reduceCtorEq, Int.lt_irrefl, Nat.reduceMod, Nat.reduceBEq, eq_self, false_and, and_false]
  refine hK _ _ ?_; clear hK K
  repeat refine wpA_seq ?_
  refine wpA_reg hT hE fun K hK => ?_
  simp only [go_sem, Nat.reduceLT, Nat.reduceEqDiff, Nat.reduceAdd, Nat.reduceSub, Nat.reduceMul, Nat.reduceLeDiff, reduceIte, reduceCtorEq, Int.lt_irrefl, Nat.reduceMod, Nat.reduceBEq, eq_self, false_and, and_false]
  refine hK _ _ ?_; clear hK K
  refine wpA_kp [0, 3] [] (by simp) (by simp) rfl fun K hK => ?_
  try simp only [go_sem, Nat.reduceLT, Nat.reduceEqDiff, Nat.reduceAdd, Nat.reduceSub, Nat.reduceMul, Nat.reduceLeDiff, reduceIte, reduceCtorEq, Int.lt_irrefl, Nat.reduceMod, Nat.reduceBEq, eq_self, false_and, and_false, hW _]
  refine hK _ ?_; clear hK K
  repeat refine wpA_seq ?_
  refine wpA_block (wpA_loopI (fun m s => ∃ i, i + m = l.length ∧ picF [] l = picF (l.take i) (l.drop i) ∧ s = { tm := [(0, .sl (l.map aPut)), (3, .v (.int .i64 i))], F := F, L := [], ds := [] }) l.length ?_ ?_)
  · exact ⟨0, by simp, by simp, by simp⟩
  · rintro m s ⟨i, hi, hp, rfl⟩
    repeat refine wpA_seq ?_
    refine wpA_reg hT hE fun K hK => ?_
    simp only [go_sem, Nat.reduceLT, Nat.reduceEqDiff, Nat.reduceAdd, Nat.reduceSub, Nat.reduceMul, Nat.reduceLeDiff, reduceIte, reduceCtorEq, Int.lt_irrefl, Nat.reduceMod, Nat.reduceBEq, eq_self, false_and, and_false]
    refine hK _ _ ?_; clear hK K
    repeat refine wpA_seq ?_
    refine wpA_cond rfl (fun h => ?_) (fun h => ?_)
    · have hlt : i < l.length := by simpa using h
      obtain ⟨p, hpi⟩ : ∃ p, l[i]? = some p := ⟨l[i], List.getElem?_eq_getElem hlt⟩
      have hdrop : l.drop i = p :: l.drop (i + 1) := by
        rw [List.drop_eq_getElem_cons hlt]
        rw [List.getElem?_eq_getElem hlt] at hpi; cases hpi; rfl
      have htake : l.take (i + 1) = l.take i ++ [p] := by
        rw [List.take_add_one, hpi]; rfl
      rw [hdrop, picF_app, ← htake, putOK_eq] at hp
      refine wpA_skip ?_
      repeat refine wpA_seq ?_
      refine wpA_block ?_
      repeat refine wpA_seq ?_
      refine wpA_reg hT hE fun K hK => ?_
      simp only [go_sem, Nat.reduceLT, Nat.reduceEqDiff, Nat.reduceAdd, Nat.reduceSub, Nat.reduceMul, Nat.reduceLeDiff, reduceIte, reduceCtorEq, Int.lt_irrefl, Nat.reduceMod, Nat.reduceBEq, eq_self, false_and, and_false, hpi, Int.natCast_nonneg]
      refine hK _ _ ?_; clear hK K
      repeat refine wpA_seq ?_
      refine wpA_drw hT hE hmix (by kernel_rfl) fun K hK => ?_
      have key : ∀ (c : Bool) (s' : AS), c = bad5 (l.take i) p → Wk 62 b s' { tm := [(48, .v (.bool c)), (0, .sl (l.map aPut)), (3, .v (.int .i64 i)), (4, .ptr (b + 0) 0)], F := F, L := [.blk 51 [.v (.int .i64 p.vcpu), .v (.int .i64 p.cpu)]], ds := [] } → K s' [] := by
        intro c s' hc hw
        refine hK s' [] rfl (?_ : wpA _ _ _ _ _ _ s')
        clear hK K
        refine wpA_wk hw ?_
        repeat refine wpA_seq ?_
        refine wpA_cond rfl (fun h => ?_) (fun h => ?_)
        · repeat refine wpA_seq ?_
          refine wpA_reg hT hE fun K hK => ?_
          simp only [go_sem, Nat.reduceLT, Nat.reduceEqDiff, Nat.reduceAdd, Nat.reduceSub, Nat.reduceMul, Nat.reduceLeDiff, reduceIte, reduceCtorEq, Int.lt_irrefl, Nat.reduceMod, Nat.reduceBEq, eq_self, false_and, and_false]
          refine hK _ _ ?_; clear hK K
          refine wpA_ret (fin_pure (.inl rfl) rfl (by simp only [go_sem, Nat.reduceLT, Nat.reduceEqDiff, Nat.reduceAdd, Nat.reduceSub, Nat.reduceMul, Nat.reduceLeDiff, reduceIte, reduceCtorEq, Int.lt_irrefl, Nat.reduceMod, Nat.reduceBEq, eq_self, false_and, and_false]; rfl) ?_ (hW _))
          simp only [go_sem, Nat.reduceLT, Nat.reduceEqDiff, Nat.reduceAdd, Nat.reduceSub, Nat.reduceMul, Nat.reduceLeDiff, reduceIte, reduceCtorEq, Int.lt_irrefl, Nat.reduceMod, Nat.reduceBEq, eq_self, false_and, and_false]
          rw [hp, ← hc, h]; rfl
        · refine wpA_skip ?_
          repeat refine wpA_seq ?_
          refine wpA_reg hT hE fun K hK => ?_
          simp only [go_sem, Nat.reduceLT, Nat.reduceEqDiff, Nat.reduceAdd, Nat.reduceSub, Nat.reduceMul, Nat.reduceLeDiff, reduceIte, reduceCtorEq, Int.lt_irrefl, Nat.reduceMod, Nat.reduceBEq, eq_self, false_and, and_false]
          refine hK _ _ ?_; clear hK K
          refine wpA_kp [0, 3, 4, 5] [0] (by simp) (by simp) rfl fun K hK => ?_
          try simp only [go_sem, Nat.reduceLT, Nat.reduceEqDiff, Nat.reduceAdd, Nat.reduceSub, Nat.reduceMul, Nat.reduceLeDiff, reduceIte, reduceCtorEq, Int.lt_irrefl, Nat.reduceMod, Nat.reduceBEq, eq_self, false_and, and_false, hW _]
          refine hK _ ?_; clear hK K
          rw [← hc, h, Bool.false_or] at hp
          repeat refine wpA_seq ?_
          refine wpA_block (wpA_loopI (fun m s => ∃ k, k + m = i ∧ (l.take k).any (fun q => q.vcpu == p.vcpu) = false ∧ s = { tm := [(0, .sl (l.map aPut)), (3, .v (.int .i64 i)), (4, .ptr (b + 0) 0), (5, .v (.int .i64 k))], F := F, L := [.blk 51 [.v (.int .i64 p.vcpu), .v (.int .i64 p.cpu)]], ds := [] }) i ?_ ?_)
          · exact ⟨0, by simp, by simp, by simp⟩
          · rintro m2 s ⟨k, hk, hp2, rfl⟩
            repeat refine wpA_seq ?_
            refine wpA_reg hT hE fun K hK => ?_
            simp only [go_sem, Nat.reduceLT, Nat.reduceEqDiff, Nat.reduceAdd, Nat.reduceSub, Nat.reduceMul, Nat.reduceLeDiff, reduceIte, reduceCtorEq, Int.lt_irrefl, Nat.reduceMod, Nat.reduceBEq, eq_self, false_and, and_false]
            refine hK _ _ ?_; clear hK K
            repeat refine wpA_seq ?_
            refine wpA_cond rfl (fun h => ?_) (fun h => ?_)
            · have hlt2 : k < i := by simpa using h
              obtain ⟨q, hqi⟩ : ∃ q, l[k]? = some q := ⟨l[k], List.getElem?_eq_getElem (by omega)⟩
              refine wpA_skip ?_
              repeat refine wpA_seq ?_
              refine wpA_block ?_
              repeat refine wpA_seq ?_
              refine wpA_drw hT hE hmix (by kernel_rfl) fun K hK => ?_
              simp only [go_sem, Nat.reduceLT, Nat.reduceEqDiff, Nat.reduceAdd, Nat.reduceSub, Nat.reduceMul, Nat.reduceLeDiff, reduceIte, reduceCtorEq, Int.lt_irrefl, Nat.reduceMod, Nat.reduceBEq, eq_self, false_and, and_false, hqi, Int.natCast_nonneg]
              refine hK _ _ rfl ?_; clear hK K
              repeat refine wpA_seq ?_
              refine wpA_cond rfl (fun h => ?_) (fun h => ?_)
              · repeat refine wpA_seq ?_
                refine wpA_reg hT hE fun K hK => ?_
                simp only [go_sem, Nat.reduceLT, Nat.reduceEqDiff, Nat.reduceAdd, Nat.reduceSub, Nat.reduceMul, Nat.reduceLeDiff, reduceIte, reduceCtorEq, Int.lt_irrefl, Nat.reduceMod, Nat.reduceBEq, eq_self, false_and, and_false]
                refine hK _ _ ?_; clear hK K
                refine wpA_ret (fin_pure (.inl rfl) rfl (by simp only [go_sem, Nat.reduceLT, Nat.reduceEqDiff, Nat.reduceAdd, Nat.reduceSub, Nat.reduceMul, Nat.reduceLeDiff, reduceIte, reduceCtorEq, Int.lt_irrefl, Nat.reduceMod, Nat.reduceBEq, eq_self, false_and, and_false]; rfl) ?_ (hW _))
                simp only [go_sem, Nat.reduceLT, Nat.reduceEqDiff, Nat.reduceAdd, Nat.reduceSub, Nat.reduceMul, Nat.reduceLeDiff, reduceIte, reduceCtorEq, Int.lt_irrefl, Nat.reduceMod, Nat.reduceBEq, eq_self, false_and, and_false]
                have : (l.take i).any (fun q => q.vcpu == p.vcpu) = true := by
                  refine List.any_eq_true.2 ⟨q, List.mem_of_getElem? (i := k) (by rw [List.getElem?_take, if_pos hlt2]; exact hqi), h⟩
                rw [hp, this]; rfl
              · refine wpA_skip ?_
                repeat refine wpA_seq ?_
                refine wpA_reg hT hE fun K hK => ?_
                simp only [go_sem, Nat.reduceLT, Nat.reduceEqDiff, Nat.reduceAdd, Nat.reduceSub, Nat.reduceMul, Nat.reduceLeDiff, reduceIte, reduceCtorEq, Int.lt_irrefl, Nat.reduceMod, Nat.reduceBEq, eq_self, false_and, and_false]
                refine hK _ _ ?_; clear hK K
                refine ⟨_, m2 - 1, wk_kp [0, 3, 4, 5] [0] (by simp) (by simp) rfl, ⟨k + 1, by omega, ?_, ?_⟩, by omega⟩
                · rw [any_take hqi, hp2, h]; rfl
                · try simp only [go_sem, Nat.reduceLT, Nat.reduceEqDiff, Nat.reduceAdd, Nat.reduceSub, Nat.reduceMul, Nat.reduceLeDiff, reduceIte, reduceCtorEq, Int.lt_irrefl, Nat.reduceMod, Nat.reduceBEq, eq_self, false_and, and_false, hW _]
                  rw [i64_id (by omega) (by omega)]
                  rfl
            · have hlt2 : k = i := by
                have : ¬ k < i := by simpa using h
                omega
              subst hlt2
              rw [hp2] at hp
              refine wpA_exit ?_
              repeat refine wpA_seq ?_
              refine wpA_reg hT hE fun K hK => ?_
              simp only [go_sem, Nat.reduceLT, Nat.reduceEqDiff, Nat.reduceAdd, Nat.reduceSub, Nat.reduceMul, Nat.reduceLeDiff, reduceIte, reduceCtorEq, Int.lt_irrefl, Nat.reduceMod, Nat.reduceBEq, eq_self, false_and, and_false]
              refine hK _ _ ?_; clear hK K
              refine ⟨_, m - 1, wk_kp [0, 3] [] (by simp) (by simp) rfl, ⟨k + 1, by omega, by rw [hp]; rfl, ?_⟩, by omega⟩
              try simp only [go_sem, Nat.reduceLT, Nat.reduceEqDiff, Nat.reduceAdd, Nat.reduceSub, Nat.reduceMul, Nat.reduceLeDiff, reduceIte, reduceCtorEq, Int.lt_irrefl, Nat.reduceMod, Nat.reduceBEq, eq_self, false_and, and_false, hW _]
              rw [i64_id (by omega) (by omega)]
              rfl
      try simp only [go_sem, Nat.reduceLT, Nat.reduceEqDiff, Nat.reduceAdd, Nat.reduceSub, Nat.reduceMul, Nat.reduceLeDiff, reduceIte, reduceCtorEq, Int.lt_irrefl, Nat.reduceMod, Nat.reduceBEq, eq_self, false_and, and_false]
      refine gd_f (fun h1 => ?_) (fun h1 => ?_)
      · try simp only [go_sem, Nat.reduceLT, Nat.reduceEqDiff, Nat.reduceAdd, Nat.reduceSub, Nat.reduceMul, Nat.reduceLeDiff, reduceIte, reduceCtorEq, Int.lt_irrefl, Nat.reduceMod, Nat.reduceBEq, eq_self, false_and, and_false, h1]
        refine key true _ ?_ ?_
        · rw [bad5, h1]; rfl
        · exact (wk_to (wk_kp [48, 0, 3, 4] [0] (by simp) (by simp) rfl) (by simp only [go_sem, Nat.reduceLT, Nat.reduceEqDiff, Nat.reduceAdd, Nat.reduceSub, Nat.reduceMul, Nat.reduceLeDiff, reduceIte, reduceCtorEq, Int.lt_irrefl, Nat.reduceMod, Nat.reduceBEq, eq_self, false_and, and_false, hW _]))
      try simp only [go_sem, Nat.reduceLT, Nat.reduceEqDiff, Nat.reduceAdd, Nat.reduceSub, Nat.reduceMul, Nat.reduceLeDiff, reduceIte, reduceCtorEq, Int.lt_irrefl, Nat.reduceMod, Nat.reduceBEq, eq_self, false_and, and_false, h1]
      refine gd_f (fun h2 => ?_) (fun h2 => ?_)
      · try simp only [go_sem, Nat.reduceLT, Nat.reduceEqDiff, Nat.reduceAdd, Nat.reduceSub, Nat.reduceMul, Nat.reduceLeDiff, reduceIte, reduceCtorEq, Int.lt_irrefl, Nat.reduceMod, Nat.reduceBEq, eq_self, false_and, and_false, h1, h2]
        refine key true _ ?_ ?_
        · rw [bad5, h1, h2]; rfl
        · exact (wk_to (wk_kp [48, 0, 3, 4] [0] (by simp) (by simp) rfl) (by simp only [go_sem, Nat.reduceLT, Nat.reduceEqDiff, Nat.reduceAdd, Nat.reduceSub, Nat.reduceMul, Nat.reduceLeDiff, reduceIte, reduceCtorEq, Int.lt_irrefl, Nat.reduceMod, Nat.reduceBEq, eq_self, false_and, and_false, hW _]))
      try simp only [go_sem, Nat.reduceLT, Nat.reduceEqDiff, Nat.reduceAdd, Nat.reduceSub, Nat.reduceMul, Nat.reduceLeDiff, reduceIte, reduceCtorEq, Int.lt_irrefl, Nat.reduceMod, Nat.reduceBEq, eq_self, false_and, and_false, h1, h2]
      refine gd_f (fun h3 => ?_) (fun h3 => ?_)
      · try simp only [go_sem, Nat.reduceLT, Nat.reduceEqDiff, Nat.reduceAdd, Nat.reduceSub, Nat.reduceMul, Nat.reduceLeDiff, reduceIte, reduceCtorEq, Int.lt_irrefl, Nat.reduceMod, Nat.reduceBEq, eq_self, false_and, and_false, h1, h2, h3]
        refine key true _ ?_ ?_
        · rw [bad5, h1, h2, h3]; rfl
        · exact (wk_to (wk_kp [48, 0, 3, 4] [0] (by simp) (by simp) rfl) (by simp only [go_sem, Nat.reduceLT, Nat.reduceEqDiff, Nat.reduceAdd, Nat.reduceSub, Nat.reduceMul, Nat.reduceLeDiff, reduceIte, reduceCtorEq, Int.lt_irrefl, Nat.reduceMod, Nat.reduceBEq, eq_self, false_and, and_false, hW _]))
      try simp only [go_sem, Nat.reduceLT, Nat.reduceEqDiff, Nat.reduceAdd, Nat.reduceSub, Nat.reduceMul, Nat.reduceLeDiff, reduceIte, reduceCtorEq, Int.lt_irrefl, Nat.reduceMod, Nat.reduceBEq, eq_self, false_and, and_false, h1, h2, h3]
      refine gd_f (fun h4 => ?_) (fun h4 => ?_)
      · try simp only [go_sem, Nat.reduceLT, Nat.reduceEqDiff, Nat.reduceAdd, Nat.reduceSub, Nat.reduceMul, Nat.reduceLeDiff, reduceIte, reduceCtorEq, Int.lt_irrefl, Nat.reduceMod, Nat.reduceBEq, eq_self, false_and, and_false, h1, h2, h3, h4]
        refine key true _ ?_ ?_
        · rw [bad5, h1, h2, h3, h4]; rfl
        · exact (wk_to (wk_kp [48, 0, 3, 4] [0] (by simp) (by simp) rfl) (by simp only [go_sem, Nat.reduceLT, Nat.reduceEqDiff, Nat.reduceAdd, Nat.reduceSub, Nat.reduceMul, Nat.reduceLeDiff, reduceIte, reduceCtorEq, Int.lt_irrefl, Nat.reduceMod, Nat.reduceBEq, eq_self, false_and, and_false, hW _]))
      try simp only [go_sem, Nat.reduceLT, Nat.reduceEqDiff, Nat.reduceAdd, Nat.reduceSub, Nat.reduceMul, Nat.reduceLeDiff, reduceIte, reduceCtorEq, Int.lt_irrefl, Nat.reduceMod, Nat.reduceBEq, eq_self, false_and, and_false, h1, h2, h3, h4]
      refine gd_t (fun h6 => ?_) (fun h6 => ?_)
      · have h0 : 0 < i := by simpa using h6
        obtain ⟨q, hq⟩ : ∃ q, l[i - 1]? = some q := ⟨l[i - 1], List.getElem?_eq_getElem (by omega)⟩
        have hw : IntKind.i64.wrap ((i : Int) - 1) = ((i - 1 : Nat) : Int) := by
          rw [i64_id (by omega) (by omega)]; omega
        have hlast : (l.take i).getLast? = some q := by
          rw [List.getLast?_eq_getElem?, List.length_take, Nat.min_eq_left (by omega), List.getElem?_take]
          rw [if_pos (by omega)]; exact hq
        try simp only [go_sem, Nat.reduceLT, Nat.reduceEqDiff, Nat.reduceAdd, Nat.reduceSub, Nat.reduceMul, Nat.reduceLeDiff, reduceIte, reduceCtorEq, Int.lt_irrefl, Nat.reduceMod, Nat.reduceBEq, eq_self, false_and, and_false, h1, h2, h3, h4, h6, hw, hq, Int.natCast_nonneg]
        refine key (decide (q.cpu ≥ p.cpu)) _ ?_ ?_
        · rw [bad5, h1, h2, h3, h4, lastGe, hlast]; rfl
        · exact (wk_to (wk_kp [48, 0, 3, 4] [0] (by simp) (by simp) rfl) (by simp only [go_sem, Nat.reduceLT, Nat.reduceEqDiff, Nat.reduceAdd, Nat.reduceSub, Nat.reduceMul, Nat.reduceLeDiff, reduceIte, reduceCtorEq, Int.lt_irrefl, Nat.reduceMod, Nat.reduceBEq, eq_self, false_and, and_false, hW _]))
      · have h0 : i = 0 := by simpa using h6
        try simp only [go_sem, Nat.reduceLT, Nat.reduceEqDiff, Nat.reduceAdd, Nat.reduceSub, Nat.reduceMul, Nat.reduceLeDiff, reduceIte, reduceCtorEq, Int.lt_irrefl, Nat.reduceMod, Nat.reduceBEq, eq_self, false_and, and_false, h1, h2, h3, h4, h6]
        refine key false _ ?_ ?_
        · rw [bad5, h1, h2, h3, h4, h0]; rfl
        · exact (wk_to (wk_kp [48, 0, 3, 4] [0] (by simp) (by simp) rfl) (by simp only [go_sem, Nat.reduceLT, Nat.reduceEqDiff, Nat.reduceAdd, Nat.reduceSub, Nat.reduceMul, Nat.reduceLeDiff, reduceIte, reduceCtorEq, Int.lt_irrefl, Nat.reduceMod, Nat.reduceBEq, eq_self, false_and, and_false, hW _]))
    · have hlt : i = l.length := by
        have : ¬ i < l.length := by simpa using h
        omega
      subst hlt
      refine wpA_exit ?_
      repeat refine wpA_seq ?_
      refine wpA_reg hT hE fun K hK => ?_
      simp only [go_sem, Nat.reduceLT, Nat.reduceEqDiff, Nat.reduceAdd, Nat.reduceSub, Nat.reduceMul, Nat.reduceLeDiff, reduceIte, reduceCtorEq, Int.lt_irrefl, Nat.reduceMod, Nat.reduceBEq, eq_self, false_and, and_false]
      refine hK _ _ ?_; clear hK K
      refine wpA_ret (fin_pure (.inl rfl) rfl (by simp only [go_sem, Nat.reduceLT, Nat.reduceEqDiff, Nat.reduceAdd, Nat.reduceSub, Nat.reduceMul, Nat.reduceLeDiff, reduceIte, reduceCtorEq, Int.lt_irrefl, Nat.reduceMod, Nat.reduceBEq, eq_self, false_and, and_false]; rfl) ?_ (hW _))
      simp only [go_sem, Nat.reduceLT, Nat.reduceEqDiff, Nat.reduceAdd, Nat.reduceSub, Nat.reduceMul, Nat.reduceLeDiff, reduceIte, reduceCtorEq, Int.lt_irrefl, Nat.reduceMod, Nat.reduceBEq, eq_self, false_and, and_false]
      rw [hp, List.drop_length]; rfl
end Go.Proofs.Ythlmfkeeneeaoaa

namespace Go.Proofs.Ythlmfkeeneeaoaa
open Go Go.Av

def frameOK (fin : Int) (f : Frame) : Bool := timeOK f.time && (!decide (f.time > fin) && picF [] f.puts)
def linkBad (g f : Frame) : Bool := decide (g.time ≥ f.time) || decide (g.puts = f.puts)
def linkOK : Option Frame → Frame → Bool
  | none, _ => true
  | some g, f => !linkBad g f
def rightL (fin : Int) : Option Frame → List Frame → Bool
  | _, [] => true
  | prev, f :: r => (frameOK fin f && linkOK prev f) && rightL fin (some f) r
def right (t : Trace) : Bool := !decide (t.frames.length > 4000) && (timeOK t.fin && rightL t.fin none t.frames)
def errT (c : Bool) : Int := if c then 0 else 330

theorem Check_spec (t : Trace) : PureE Try.prog 17 [aTrace t] [] (.v (.int .i64 (errT (right t)))) := by
  intro F b _
  obtain ⟨fr, fin⟩ := t
  refine callE_of hT (fn := Try.f17) rfl rfl rfl (by simp [fnt]) (by simp) fun htop hW => ?_
  refine wpA_boundA 0 (fr.map aFrame) rfl (by simp) fun hlen => ?_
  rw [List.length_map] at hlen
  repeat refine wpA_seq ?_
  refine wpA_reg hT hE fun K hK => ?_
  simp only [go_sem, Nat.reduceLT, Nat.reduceEqDiff, Nat.reduceAdd, Nat.reduceSub, Nat.reduceMul, Nat.reduceLeDiff, reduceIte, reduceCtorEq, Int.lt_irrefl, Nat.reduceMod, Nat.reduceBEq, eq_self, false_and, and_false]
  refine hK _ _ ?_; clear hK K
  repeat refine wpA_seq ?_
  refine wpA_reg hT hE fun K hK => ?_
  simp only [go_sem, Nat.reduceLT, Nat.reduceEqDiff, Nat.reduceAdd, Nat.reduceSub, Nat.reduceMul, Nat.reduceLeDiff, reduceIte, reduceCtorEq, Int.lt_irrefl, Nat.reduceMod, Nat.reduceBEq, eq_self, false_and, and_false]
  refine gd_f (fun h1 => ?_) (fun h1 => ?_)
  · try simp only [go_sem, Nat.reduceLT, Nat.reduceEqDiff, Nat.reduceAdd, Nat.reduceSub, Nat.reduceMul, Nat.reduceLeDiff, reduceIte, reduceCtorEq, Int.lt_irrefl, Nat.reduceMod, Nat.reduceBEq, eq_self, false_and, and_false, h1]
    refine hK _ _ ?_; clear hK K
    repeat refine wpA_seq ?_
    refine wpA_cond rfl (fun h => ?_) (fun h => by cases h)
    repeat refine wpA_seq ?_
    refine wpA_reg hT hE fun K hK => ?_
    simp only [go_sem, Nat.reduceLT, Nat.reduceEqDiff, Nat.reduceAdd, Nat.reduceSub, Nat.reduceMul, Nat.reduceLeDiff, reduceIte, reduceCtorEq, Int.lt_irrefl, Nat.reduceMod, Nat.reduceBEq, eq_self, false_and, and_false]
    refine hK _ _ ?_; clear hK K
    refine wpA_ret (fin_pure (.inl rfl) rfl (by simp only [go_sem, Nat.reduceLT, Nat.reduceEqDiff, Nat.reduceAdd, Nat.reduceSub, Nat.reduceMul, Nat.reduceLeDiff, reduceIte, reduceCtorEq, Int.lt_irrefl, Nat.reduceMod, Nat.reduceBEq, eq_self, false_and, and_false]; rfl) ?_ (hW _))
    simp only [go_sem, Nat.reduceLT, Nat.reduceEqDiff, Nat.reduceAdd, Nat.reduceSub, Nat.reduceMul, Nat.reduceLeDiff, reduceIte, reduceCtorEq, Int.lt_irrefl, Nat.reduceMod, Nat.reduceBEq, eq_self, false_and, and_false]
    have : fr.length > 4000 := by
      have : (fr.length : Int) > 4000 := by simpa using h1
      omega
    simp [right, errT, this]
  try simp only [go_sem, Nat.reduceLT, Nat.reduceEqDiff, Nat.reduceAdd, Nat.reduceSub, Nat.reduceMul, Nat.reduceLeDiff, reduceIte, reduceCtorEq, Int.lt_irrefl, Nat.reduceMod, Nat.reduceBEq, eq_self, false_and, and_false, h1]
  refine ⟨_, [], [], time_spec _ _ _ (by simp), ?_⟩
  try simp only [go_sem, Nat.reduceLT, Nat.reduceEqDiff, Nat.reduceAdd, Nat.reduceSub, Nat.reduceMul, Nat.reduceLeDiff, reduceIte, reduceCtorEq, Int.lt_irrefl, Nat.reduceMod, Nat.reduceBEq, eq_self, false_and, and_false, h1]
  refine hK _ _ ?_; clear hK K
  have h4 : decide (fr.length > 4000) = false := by
    have : ¬ (fr.length : Int) > 4000 := by simpa using h1
    simp; omega
  repeat refine wpA_seq ?_
  refine wpA_cond rfl (fun h => ?_) (fun h => ?_)
  · repeat refine wpA_seq ?_
    refine wpA_reg hT hE fun K hK => ?_
    simp only [go_sem, Nat.reduceLT, Nat.reduceEqDiff, Nat.reduceAdd, Nat.reduceSub, Nat.reduceMul, Nat.reduceLeDiff, reduceIte, reduceCtorEq, Int.lt_irrefl, Nat.reduceMod, Nat.reduceBEq, eq_self, false_and, and_false]
    refine hK _ _ ?_; clear hK K
    refine wpA_ret (fin_pure (.inl rfl) rfl (by simp only [go_sem, Nat.reduceLT, Nat.reduceEqDiff, Nat.reduceAdd, Nat.reduceSub, Nat.reduceMul, Nat.reduceLeDiff, reduceIte, reduceCtorEq, Int.lt_irrefl, Nat.reduceMod, Nat.reduceBEq, eq_self, false_and, and_false]; rfl) ?_ (hW _))
    simp only [go_sem, Nat.reduceLT, Nat.reduceEqDiff, Nat.reduceAdd, Nat.reduceSub, Nat.reduceMul, Nat.reduceLeDiff, reduceIte, reduceCtorEq, Int.lt_irrefl, Nat.reduceMod, Nat.reduceBEq, eq_self, false_and, and_false]
    have : timeOK fin = false := by simpa using h
    simp [right, errT, this]
  have hfin : timeOK fin = true := by simpa using h
  refine wpA_skip ?_
  repeat refine wpA_seq ?_
  refine wpA_reg hT hE fun K hK => ?_
  simp only [go_sem, Nat.reduceLT, Nat.reduceEqDiff, Nat.reduceAdd, Nat.reduceSub, Nat.reduceMul, Nat.reduceLeDiff, reduceIte, reduceCtorEq, Int.lt_irrefl, Nat.reduceMod, Nat.reduceBEq, eq_self, false_and, and_false]
  refine hK _ _ ?_; clear hK K
  refine wpA_kp [1, 16, 17, 18] [0] (by simp) (by simp) rfl fun K hK => ?_
  try simp only [go_sem, Nat.reduceLT, Nat.reduceEqDiff, Nat.reduceAdd, Nat.reduceSub, Nat.reduceMul, Nat.reduceLeDiff, reduceIte, reduceCtorEq, Int.lt_irrefl, Nat.reduceMod, Nat.reduceBEq, eq_self, false_and, and_false, hW _]
  refine hK _ ?_; clear hK K
  repeat refine wpA_seq ?_
  refine wpA_block (wpA_loopI (fun m s => ∃ i, i + m = fr.length ∧ rightL fin none fr = rightL fin (fr.take i).getLast? (fr.drop i) ∧ s = { tm := [(1, .ptr (b + 0) 0), (16, .sl (fr.map aFrame)), (17, .v (.int .i64 fr.length)), (18, .v (.int .i64 i))], F := F, L := [.blk 24 [.sl (fr.map aFrame), .v (.int .i64 fin)]], ds := [] }) fr.length ?_ ?_)
  · exact ⟨0, by simp, by simp, by simp⟩
  · rintro m s ⟨i, hi, hp, rfl⟩
    repeat refine wpA_seq ?_
    refine wpA_reg hT hE fun K hK => ?_
    simp only [go_sem, Nat.reduceLT, Nat.reduceEqDiff, Nat.reduceAdd, Nat.reduceSub, Nat.reduceMul, Nat.reduceLeDiff, reduceIte, reduceCtorEq, Int.lt_irrefl, Nat.reduceMod, Nat.reduceBEq, eq_self, false_and, and_false]
    refine hK _ _ ?_; clear hK K
    repeat refine wpA_seq ?_
    refine wpA_cond rfl (fun h => ?_) (fun h => ?_)
    · have hlt : i < fr.length := by simpa using h
      obtain ⟨f, hfi⟩ : ∃ f, fr[i]? = some f := ⟨fr[i], List.getElem?_eq_getElem hlt⟩
      have hdrop : fr.drop i = f :: fr.drop (i + 1) := by
        rw [List.drop_eq_getElem_cons hlt]
        rw [List.getElem?_eq_getElem hlt] at hfi; cases hfi; rfl
      have htake : (fr.take (i + 1)).getLast? = some f := by
        rw [List.take_add_one, hfi]; simp
      rw [hdrop, rightL, ← htake] at hp
      have bad : frameOK fin f = false ∨ linkOK (fr.take i).getLast? f = false → errT (right ⟨fr, fin⟩) = 330 := by
        rintro (h | h) <;> simp [right, errT, hp, h]
      refine wpA_skip ?_
      repeat refine wpA_seq ?_
      refine wpA_block ?_
      repeat refine wpA_seq ?_
      refine wpA_reg hT hE fun K hK => ?_
      simp only [go_sem, Nat.reduceLT, Nat.reduceEqDiff, Nat.reduceAdd, Nat.reduceSub, Nat.reduceMul, Nat.reduceLeDiff, reduceIte, reduceCtorEq, Int.lt_irrefl, Nat.reduceMod, Nat.reduceBEq, eq_self, false_and, and_false, hfi, Int.natCast_nonneg]
      refine hK _ _ ?_; clear hK K
      repeat refine wpA_seq ?_
      refine wpA_reg hT hE fun K hK => ?_
      simp only [go_sem, Nat.reduceLT, Nat.reduceEqDiff, Nat.reduceAdd, Nat.reduceSub, Nat.reduceMul, Nat.reduceLeDiff, reduceIte, reduceCtorEq, Int.lt_irrefl, Nat.reduceMod, Nat.reduceBEq, eq_self, false_and, and_false]
      refine ⟨_, [], [], time_spec _ _ _ (by simp), ?_⟩
      try simp only [go_sem, Nat.reduceLT, Nat.reduceEqDiff, Nat.reduceAdd, Nat.reduceSub, Nat.reduceMul, Nat.reduceLeDiff, reduceIte, reduceCtorEq, Int.lt_irrefl, Nat.reduceMod, Nat.reduceBEq, eq_self, false_and, and_false]
      have fail1 : frameOK fin f = false → errT (right ⟨fr, fin⟩) = 330 := fun h => bad (.inl h)
      refine gd_f (fun h1 => ?_) (fun h1 => ?_)
      · try simp only [go_sem, Nat.reduceLT, Nat.reduceEqDiff, Nat.reduceAdd, Nat.reduceSub, Nat.reduceMul, Nat.reduceLeDiff, reduceIte, reduceCtorEq, Int.lt_irrefl, Nat.reduceMod, Nat.reduceBEq, eq_self, false_and, and_false, h1]
        refine hK _ _ ?_; clear hK K
        repeat refine wpA_seq ?_
        refine wpA_cond rfl (fun h => ?_) (fun h => by cases h)
        repeat refine wpA_seq ?_
        refine wpA_reg hT hE fun K hK => ?_
        simp only [go_sem, Nat.reduceLT, Nat.reduceEqDiff, Nat.reduceAdd, Nat.reduceSub, Nat.reduceMul, Nat.reduceLeDiff, reduceIte, reduceCtorEq, Int.lt_irrefl, Nat.reduceMod, Nat.reduceBEq, eq_self, false_and, and_false]
        refine hK _ _ ?_; clear hK K
        refine wpA_ret (fin_pure (.inl rfl) rfl (by simp only [go_sem, Nat.reduceLT, Nat.reduceEqDiff, Nat.reduceAdd, Nat.reduceSub, Nat.reduceMul, Nat.reduceLeDiff, reduceIte, reduceCtorEq, Int.lt_irrefl, Nat.reduceMod, Nat.reduceBEq, eq_self, false_and, and_false]; rfl) ?_ (hW _))
        simp only [go_sem, Nat.reduceLT, Nat.reduceEqDiff, Nat.reduceAdd, Nat.reduceSub, Nat.reduceMul, Nat.reduceLeDiff, reduceIte, reduceCtorEq, Int.lt_irrefl, Nat.reduceMod, Nat.reduceBEq, eq_self, false_and, and_false]
        rw [fail1 (by simp at h1; simp [frameOK, h1])]
      try simp only [go_sem, Nat.reduceLT, Nat.reduceEqDiff, Nat.reduceAdd, Nat.reduceSub, Nat.reduceMul, Nat.reduceLeDiff, reduceIte, reduceCtorEq, Int.lt_irrefl, Nat.reduceMod, Nat.reduceBEq, eq_self, false_and, and_false, h1]
      refine gd_f (fun h2 => ?_) (fun h2 => ?_)
      · try simp only [go_sem, Nat.reduceLT, Nat.reduceEqDiff, Nat.reduceAdd, Nat.reduceSub, Nat.reduceMul, Nat.reduceLeDiff, reduceIte, reduceCtorEq, Int.lt_irrefl, Nat.reduceMod, Nat.reduceBEq, eq_self, false_and, and_false, h1, h2]
        refine hK _ _ ?_; clear hK K
        repeat refine wpA_seq ?_
        refine wpA_cond rfl (fun h => ?_) (fun h => by cases h)
        repeat refine wpA_seq ?_
        refine wpA_reg hT hE fun K hK => ?_
        simp only [go_sem, Nat.reduceLT, Nat.reduceEqDiff, Nat.reduceAdd, Nat.reduceSub, Nat.reduceMul, Nat.reduceLeDiff, reduceIte, reduceCtorEq, Int.lt_irrefl, Nat.reduceMod, Nat.reduceBEq, eq_self, false_and, and_false]
        refine hK _ _ ?_; clear hK K
        refine wpA_ret (fin_pure (.inl rfl) rfl (by simp only [go_sem, Nat.reduceLT, Nat.reduceEqDiff, Nat.reduceAdd, Nat.reduceSub, Nat.reduceMul, Nat.reduceLeDiff, reduceIte, reduceCtorEq, Int.lt_irrefl, Nat.reduceMod, Nat.reduceBEq, eq_self, false_and, and_false]; rfl) ?_ (hW _))
        simp only [go_sem, Nat.reduceLT, Nat.reduceEqDiff, Nat.reduceAdd, Nat.reduceSub, Nat.reduceMul, Nat.reduceLeDiff, reduceIte, reduceCtorEq, Int.lt_irrefl, Nat.reduceMod, Nat.reduceBEq, eq_self, false_and, and_false]
        rw [fail1 (by simp only [frameOK, h2]; simp)]
      try simp only [go_sem, Nat.reduceLT, Nat.reduceEqDiff, Nat.reduceAdd, Nat.reduceSub, Nat.reduceMul, Nat.reduceLeDiff, reduceIte, reduceCtorEq, Int.lt_irrefl, Nat.reduceMod, Nat.reduceBEq, eq_self, false_and, and_false, h1, h2]
      refine ⟨_, [], [], picture_spec f.puts _ _ (by simp), ?_⟩
      try simp only [go_sem, Nat.reduceLT, Nat.reduceEqDiff, Nat.reduceAdd, Nat.reduceSub, Nat.reduceMul, Nat.reduceLeDiff, reduceIte, reduceCtorEq, Int.lt_irrefl, Nat.reduceMod, Nat.reduceBEq, eq_self, false_and, and_false, h1, h2]
      refine hK _ _ ?_; clear hK K
      repeat refine wpA_seq ?_
      refine wpA_cond rfl (fun h => ?_) (fun h => ?_)
      · repeat refine wpA_seq ?_
        refine wpA_reg hT hE fun K hK => ?_
        simp only [go_sem, Nat.reduceLT, Nat.reduceEqDiff, Nat.reduceAdd, Nat.reduceSub, Nat.reduceMul, Nat.reduceLeDiff, reduceIte, reduceCtorEq, Int.lt_irrefl, Nat.reduceMod, Nat.reduceBEq, eq_self, false_and, and_false]
        refine hK _ _ ?_; clear hK K
        refine wpA_ret (fin_pure (.inl rfl) rfl (by simp only [go_sem, Nat.reduceLT, Nat.reduceEqDiff, Nat.reduceAdd, Nat.reduceSub, Nat.reduceMul, Nat.reduceLeDiff, reduceIte, reduceCtorEq, Int.lt_irrefl, Nat.reduceMod, Nat.reduceBEq, eq_self, false_and, and_false]; rfl) ?_ (hW _))
        simp only [go_sem, Nat.reduceLT, Nat.reduceEqDiff, Nat.reduceAdd, Nat.reduceSub, Nat.reduceMul, Nat.reduceLeDiff, reduceIte, reduceCtorEq, Int.lt_irrefl, Nat.reduceMod, Nat.reduceBEq, eq_self, false_and, and_false]
        rw [fail1 (by simp at h; simp [frameOK, h])]
      have hf : frameOK fin f = true := by
        simp at h h1 h2
        simp [frameOK, h, h1, h2]
      refine wpA_skip ?_
      refine wpA_kp [1, 3, 4, 16, 17, 18] [0, 1] (by simp) (by simp) rfl fun K hK => ?_
      try simp only [go_sem, Nat.reduceLT, Nat.reduceEqDiff, Nat.reduceAdd, Nat.reduceSub, Nat.reduceMul, Nat.reduceLeDiff, reduceIte, reduceCtorEq, Int.lt_irrefl, Nat.reduceMod, Nat.reduceBEq, eq_self, false_and, and_false, hW _]
      refine hK _ ?_; clear hK K
      repeat refine wpA_seq ?_
      refine wpA_drw hT hE hmix (by kernel_rfl) fun K hK => ?_
      have key : ∀ (c : Bool) (s' : AS), c = !linkOK (fr.take i).getLast? f → Wk 67 b s' { tm := [(65, .v (.bool c)), (1, .ptr (b + 0) 0), (16, .sl (fr.map aFrame)), (17, .v (.int .i64 fr.length)), (18, .v (.int .i64 i))], F := F, L := [.blk 24 [.sl (fr.map aFrame), .v (.int .i64 fin)]], ds := [] } → K s' [] := by
        intro c s' hc hw
        refine hK s' [] rfl (?_ : wpA _ _ _ _ _ _ s')
        clear hK K
        refine wpA_wk hw ?_
        repeat refine wpA_seq ?_
        refine wpA_cond rfl (fun h => ?_) (fun h => ?_)
        · repeat refine wpA_seq ?_
          refine wpA_reg hT hE fun K hK => ?_
          simp only [go_sem, Nat.reduceLT, Nat.reduceEqDiff, Nat.reduceAdd, Nat.reduceSub, Nat.reduceMul, Nat.reduceLeDiff, reduceIte, reduceCtorEq, Int.lt_irrefl, Nat.reduceMod, Nat.reduceBEq, eq_self, false_and, and_false]
          refine hK _ _ ?_; clear hK K
          refine wpA_ret (fin_pure (.inl rfl) rfl (by simp only [go_sem, Nat.reduceLT, Nat.reduceEqDiff, Nat.reduceAdd, Nat.reduceSub, Nat.reduceMul, Nat.reduceLeDiff, reduceIte, reduceCtorEq, Int.lt_irrefl, Nat.reduceMod, Nat.reduceBEq, eq_self, false_and, and_false]; rfl) ?_ (hW _))
          simp only [go_sem, Nat.reduceLT, Nat.reduceEqDiff, Nat.reduceAdd, Nat.reduceSub, Nat.reduceMul, Nat.reduceLeDiff, reduceIte, reduceCtorEq, Int.lt_irrefl, Nat.reduceMod, Nat.reduceBEq, eq_self, false_and, and_false]
          rw [bad (.inr (by rw [h] at hc; simpa using hc.symm))]
        · refine wpA_skip ?_
          repeat refine wpA_seq ?_
          refine wpA_reg hT hE fun K hK => ?_
          simp only [go_sem, Nat.reduceLT, Nat.reduceEqDiff, Nat.reduceAdd, Nat.reduceSub, Nat.reduceMul, Nat.reduceLeDiff, reduceIte, reduceCtorEq, Int.lt_irrefl, Nat.reduceMod, Nat.reduceBEq, eq_self, false_and, and_false]
          refine hK _ _ ?_; clear hK K
          have hlk : linkOK (fr.take i).getLast? f = true := by rw [h] at hc; simpa using hc
          rw [hf, hlk, Bool.true_and, Bool.true_and] at hp
          refine ⟨_, m - 1, wk_kp [1, 16, 17, 18] [0] (by simp) (by simp) rfl, ⟨i + 1, by omega, hp, ?_⟩, by omega⟩
          try simp only [go_sem, Nat.reduceLT, Nat.reduceEqDiff, Nat.reduceAdd, Nat.reduceSub, Nat.reduceMul, Nat.reduceLeDiff, reduceIte, reduceCtorEq, Int.lt_irrefl, Nat.reduceMod, Nat.reduceBEq, eq_self, false_and, and_false, hW _]
          rw [i64_id (by omega) (by omega)]
          rfl
      try simp only [go_sem, Nat.reduceLT, Nat.reduceEqDiff, Nat.reduceAdd, Nat.reduceSub, Nat.reduceMul, Nat.reduceLeDiff, reduceIte, reduceCtorEq, Int.lt_irrefl, Nat.reduceMod, Nat.reduceBEq, eq_self, false_and, and_false]
      refine gd_t (fun h6 => ?_) (fun h6 => ?_)
      · have h0 : 0 < i := by simpa using h6
        obtain ⟨q, hq⟩ : ∃ q, fr[i - 1]? = some q := ⟨fr[i - 1], List.getElem?_eq_getElem (by omega)⟩
        have hw : IntKind.i64.wrap ((i : Int) - 1) = ((i - 1 : Nat) : Int) := by
          rw [i64_id (by omega) (by omega)]; omega
        have hlast : (fr.take i).getLast? = some q := by
          rw [List.getLast?_eq_getElem?, List.length_take, Nat.min_eq_left (by omega), List.getElem?_take]
          rw [if_pos (by omega)]; exact hq
        try simp only [go_sem, Nat.reduceLT, Nat.reduceEqDiff, Nat.reduceAdd, Nat.reduceSub, Nat.reduceMul, Nat.reduceLeDiff, reduceIte, reduceCtorEq, Int.lt_irrefl, Nat.reduceMod, Nat.reduceBEq, eq_self, false_and, and_false, h6, hw, hq, Int.natCast_nonneg]
        refine gd_f (fun h7 => ?_) (fun h7 => ?_)
        · try simp only [go_sem, Nat.reduceLT, Nat.reduceEqDiff, Nat.reduceAdd, Nat.reduceSub, Nat.reduceMul, Nat.reduceLeDiff, reduceIte, reduceCtorEq, Int.lt_irrefl, Nat.reduceMod, Nat.reduceBEq, eq_self, false_and, and_false, h6, h7, hw, hq, Int.natCast_nonneg]
          refine key true _ ?_ ?_
          · rw [hlast, linkOK, linkBad, h7]; rfl
          · exact (wk_to (wk_kp [65, 1, 16, 17, 18] [0] (by simp) (by simp) rfl) (by simp only [go_sem, Nat.reduceLT, Nat.reduceEqDiff, Nat.reduceAdd, Nat.reduceSub, Nat.reduceMul, Nat.reduceLeDiff, reduceIte, reduceCtorEq, Int.lt_irrefl, Nat.reduceMod, Nat.reduceBEq, eq_self, false_and, and_false, hW _]))
        try simp only [go_sem, Nat.reduceLT, Nat.reduceEqDiff, Nat.reduceAdd, Nat.reduceSub, Nat.reduceMul, Nat.reduceLeDiff, reduceIte, reduceCtorEq, Int.lt_irrefl, Nat.reduceMod, Nat.reduceBEq, eq_self, false_and, and_false, h6, h7, hw, hq, Int.natCast_nonneg]
        refine ⟨_, [], [], PureE.toS (alike_spec q.puts f.puts), by simp, by simp, ?_⟩
        try simp only [go_sem, Nat.reduceLT, Nat.reduceEqDiff, Nat.reduceAdd, Nat.reduceSub, Nat.reduceMul, Nat.reduceLeDiff, reduceIte, reduceCtorEq, Int.lt_irrefl, Nat.reduceMod, Nat.reduceBEq, eq_self, false_and, and_false, h6, h7, hw, hq, Int.natCast_nonneg]
        refine key (decide (q.puts = f.puts)) _ ?_ ?_
        · rw [hlast, linkOK, linkBad, h7]; simp
        · exact (wk_to (wk_kp [65, 1, 16, 17, 18] [0] (by simp) (by simp) rfl) (by simp only [go_sem, Nat.reduceLT, Nat.reduceEqDiff, Nat.reduceAdd, Nat.reduceSub, Nat.reduceMul, Nat.reduceLeDiff, reduceIte, reduceCtorEq, Int.lt_irrefl, Nat.reduceMod, Nat.reduceBEq, eq_self, false_and, and_false, hW _]))
      · have h0 : i = 0 := by simpa using h6
        try simp only [go_sem, Nat.reduceLT, Nat.reduceEqDiff, Nat.reduceAdd, Nat.reduceSub, Nat.reduceMul, Nat.reduceLeDiff, reduceIte, reduceCtorEq, Int.lt_irrefl, Nat.reduceMod, Nat.reduceBEq, eq_self, false_and, and_false, h6]
        refine key false _ ?_ ?_
        · rw [h0]; rfl
        · exact (wk_to (wk_kp [65, 1, 16, 17, 18] [0] (by simp) (by simp) rfl) (by simp only [go_sem, Nat.reduceLT, Nat.reduceEqDiff, Nat.reduceAdd, Nat.reduceSub, Nat.reduceMul, Nat.reduceLeDiff, reduceIte, reduceCtorEq, Int.lt_irrefl, Nat.reduceMod, Nat.reduceBEq, eq_self, false_and, and_false, hW _]))
    · have hlt : i = fr.length := by
        have : ¬ i < fr.length := by simpa using h
        omega
      subst hlt
      refine wpA_exit ?_
      repeat refine wpA_seq ?_
      refine wpA_reg hT hE fun K hK => ?_
      simp only [go_sem, Nat.reduceLT, Nat.reduceEqDiff, Nat.reduceAdd, Nat.reduceSub, Nat.reduceMul, Nat.reduceLeDiff, reduceIte, reduceCtorEq, Int.lt_irrefl, Nat.reduceMod, Nat.reduceBEq, eq_self, false_and, and_false]
      refine hK _ _ ?_; clear hK K
      refine wpA_ret (fin_pure (.inl rfl) rfl (by simp only [go_sem, Nat.reduceLT, Nat.reduceEqDiff, Nat.reduceAdd, Nat.reduceSub, Nat.reduceMul, Nat.reduceLeDiff, reduceIte, reduceCtorEq, Int.lt_irrefl, Nat.reduceMod, Nat.reduceBEq, eq_self, false_and, and_false]; rfl) ?_ (hW _))
      simp only [go_sem, Nat.reduceLT, Nat.reduceEqDiff, Nat.reduceAdd, Nat.reduceSub, Nat.reduceMul, Nat.reduceLeDiff, reduceIte, reduceCtorEq, Int.lt_irrefl, Nat.reduceMod, Nat.reduceBEq, eq_self, false_and, and_false]
      rw [List.drop_length] at hp
      simp [right, errT, hp, h4, hfin, rightL]
end Go.Proofs.Ythlmfkeeneeaoaa

namespace Go.Proofs.Ythlmfkeeneeaoaa
open Go Go.Av

theorem Right_spec (t : Trace) : PureE Try.prog 16 [aTrace t] [] (.v (.bool (right t))) := by
  intro F b _
  obtain ⟨fr, fin⟩ := t
  refine callE_of hT (fn := Try.f16) rfl rfl rfl (by simp [fnt]) (by simp) fun htop hW => ?_
  refine wpA_boundA 0 (fr.map aFrame) rfl (by simp) fun hlen => ?_
  rw [List.length_map] at hlen
  repeat refine wpA_seq ?_
  refine wpA_reg hT hE fun K hK => ?_
  simp only [go_sem, Nat.reduceLT, Nat.reduceEqDiff, Nat.reduceAdd, Nat.reduceSub, Nat.reduceMul, Nat.reduceLeDiff, reduceIte, reduceCtorEq, Int.lt_irrefl, Nat.reduceMod, Nat.reduceBEq, eq_self, false_and, and_false]
  refine hK _ _ ?_; clear hK K
  repeat refine wpA_seq ?_
  refine wpA_reg hT hE fun K hK => ?_
  simp only [go_sem, Nat.reduceLT, Nat.reduceEqDiff, Nat.reduceAdd, Nat.reduceSub, Nat.reduceMul, Nat.reduceLeDiff, reduceIte, reduceCtorEq, Int.lt_irrefl, Nat.reduceMod, Nat.reduceBEq, eq_self, false_and, and_false]
  refine gd_f (fun h1 => ?_) (fun h1 => ?_)
  · try simp only [go_sem, Nat.reduceLT, Nat.reduceEqDiff, Nat.reduceAdd, Nat.reduceSub, Nat.reduceMul, Nat.reduceLeDiff, reduceIte, reduceCtorEq, Int.lt_irrefl, Nat.reduceMod, Nat.reduceBEq, eq_self, false_and, and_false, h1]
    refine hK _ _ ?_; clear hK K
    repeat refine wpA_seq ?_
    refine wpA_cond rfl (fun h => ?_) (fun h => by cases h)
    repeat refine wpA_seq ?_
    refine wpA_reg hT hE fun K hK => ?_
    simp only [go_sem, Nat.reduceLT, Nat.reduceEqDiff, Nat.reduceAdd, Nat.reduceSub, Nat.reduceMul, Nat.reduceLeDiff, reduceIte, reduceCtorEq, Int.lt_irrefl, Nat.reduceMod, Nat.reduceBEq, eq_self, false_and, and_false]
    refine hK _ _ ?_; clear hK K
    refine wpA_ret (fin_pure (.inl rfl) rfl (by simp only [go_sem, Nat.reduceLT, Nat.reduceEqDiff, Nat.reduceAdd, Nat.reduceSub, Nat.reduceMul, Nat.reduceLeDiff, reduceIte, reduceCtorEq, Int.lt_irrefl, Nat.reduceMod, Nat.reduceBEq, eq_self, false_and, and_false]; rfl) ?_ (hW _))
    simp only [go_sem, Nat.reduceLT, Nat.reduceEqDiff, Nat.reduceAdd, Nat.reduceSub, Nat.reduceMul, Nat.reduceLeDiff, reduceIte, reduceCtorEq, Int.lt_irrefl, Nat.reduceMod, Nat.reduceBEq, eq_self, false_and, and_false]
    have : fr.length > 4000 := by
      have : (fr.length : Int) > 4000 := by simpa using h1
      omega
    simp [right, this]
  try simp only [go_sem, Nat.reduceLT, Nat.reduceEqDiff, Nat.reduceAdd, Nat.reduceSub, Nat.reduceMul, Nat.reduceLeDiff, reduceIte, reduceCtorEq, Int.lt_irrefl, Nat.reduceMod, Nat.reduceBEq, eq_self, false_and, and_false, h1]
  refine ⟨_, [], [], Time_spec _ _ _ (by simp), ?_⟩
  try simp only [go_sem, Nat.reduceLT, Nat.reduceEqDiff, Nat.reduceAdd, Nat.reduceSub, Nat.reduceMul, Nat.reduceLeDiff, reduceIte, reduceCtorEq, Int.lt_irrefl, Nat.reduceMod, Nat.reduceBEq, eq_self, false_and, and_false, h1]
  refine hK _ _ ?_; clear hK K
  have h4 : decide (fr.length > 4000) = false := by
    have : ¬ (fr.length : Int) > 4000 := by simpa using h1
    simp; omega
  repeat refine wpA_seq ?_
  refine wpA_cond rfl (fun h => ?_) (fun h => ?_)
  · repeat refine wpA_seq ?_
    refine wpA_reg hT hE fun K hK => ?_
    simp only [go_sem, Nat.reduceLT, Nat.reduceEqDiff, Nat.reduceAdd, Nat.reduceSub, Nat.reduceMul, Nat.reduceLeDiff, reduceIte, reduceCtorEq, Int.lt_irrefl, Nat.reduceMod, Nat.reduceBEq, eq_self, false_and, and_false]
    refine hK _ _ ?_; clear hK K
    refine wpA_ret (fin_pure (.inl rfl) rfl (by simp only [go_sem, Nat.reduceLT, Nat.reduceEqDiff, Nat.reduceAdd, Nat.reduceSub, Nat.reduceMul, Nat.reduceLeDiff, reduceIte, reduceCtorEq, Int.lt_irrefl, Nat.reduceMod, Nat.reduceBEq, eq_self, false_and, and_false]; rfl) ?_ (hW _))
    simp only [go_sem, Nat.reduceLT, Nat.reduceEqDiff, Nat.reduceAdd, Nat.reduceSub, Nat.reduceMul, Nat.reduceLeDiff, reduceIte, reduceCtorEq, Int.lt_irrefl, Nat.reduceMod, Nat.reduceBEq, eq_self, false_and, and_false]
    have : timeOK fin = false := by simpa using h
    simp [right, this]
  have hfin : timeOK fin = true := by simpa using h
  refine wpA_skip ?_
  repeat refine wpA_seq ?_
  refine wpA_reg hT hE fun K hK => ?_
  simp only [go_sem, Nat.reduceLT, Nat.reduceEqDiff, Nat.reduceAdd, Nat.reduceSub, Nat.reduceMul, Nat.reduceLeDiff, reduceIte, reduceCtorEq, Int.lt_irrefl, Nat.reduceMod, Nat.reduceBEq, eq_self, false_and, and_false]
  refine hK _ _ ?_; clear hK K
  refine wpA_kp [1, 3] [0] (by simp) (by simp) rfl fun K hK => ?_
  try simp only [go_sem, Nat.reduceLT, Nat.reduceEqDiff, Nat.reduceAdd, Nat.reduceSub, Nat.reduceMul, Nat.reduceLeDiff, reduceIte, reduceCtorEq, Int.lt_irrefl, Nat.reduceMod, Nat.reduceBEq, eq_self, false_and, and_false, hW _]
  refine hK _ ?_; clear hK K
  repeat refine wpA_seq ?_
  refine wpA_block (wpA_loopI (fun m s => ∃ i, i + m = fr.length ∧ rightL fin none fr = rightL fin (fr.take i).getLast? (fr.drop i) ∧ s = { tm := [(1, .ptr (b + 0) 0), (3, .v (.int .i64 i))], F := F, L := [.blk 24 [.sl (fr.map aFrame), .v (.int .i64 fin)]], ds := [] }) fr.length ?_ ?_)
  · exact ⟨0, by simp, by simp, by simp⟩
  · rintro m s ⟨i, hi, hp, rfl⟩
    repeat refine wpA_seq ?_
    refine wpA_reg hT hE fun K hK => ?_
    simp only [go_sem, Nat.reduceLT, Nat.reduceEqDiff, Nat.reduceAdd, Nat.reduceSub, Nat.reduceMul, Nat.reduceLeDiff, reduceIte, reduceCtorEq, Int.lt_irrefl, Nat.reduceMod, Nat.reduceBEq, eq_self, false_and, and_false]
    refine hK _ _ ?_; clear hK K
    repeat refine wpA_seq ?_
    refine wpA_cond rfl (fun h => ?_) (fun h => ?_)
    · have hlt : i < fr.length := by simpa using h
      obtain ⟨f, hfi⟩ : ∃ f, fr[i]? = some f := ⟨fr[i], List.getElem?_eq_getElem hlt⟩
      have hdrop : fr.drop i = f :: fr.drop (i + 1) := by
        rw [List.drop_eq_getElem_cons hlt]
        rw [List.getElem?_eq_getElem hlt] at hfi; cases hfi; rfl
      have htake : (fr.take (i + 1)).getLast? = some f := by
        rw [List.take_add_one, hfi]; simp
      rw [hdrop, rightL, ← htake] at hp
      have bad : frameOK fin f = false ∨ linkOK (fr.take i).getLast? f = false → right ⟨fr, fin⟩ = false := by
        rintro (h | h) <;> simp [right, hp, h]
      refine wpA_skip ?_
      repeat refine wpA_seq ?_
      refine wpA_block ?_
      repeat refine wpA_seq ?_
      refine wpA_reg hT hE fun K hK => ?_
      simp only [go_sem, Nat.reduceLT, Nat.reduceEqDiff, Nat.reduceAdd, Nat.reduceSub, Nat.reduceMul, Nat.reduceLeDiff, reduceIte, reduceCtorEq, Int.lt_irrefl, Nat.reduceMod, Nat.reduceBEq, eq_self, false_and, and_false, hfi, Int.natCast_nonneg]
      refine hK _ _ ?_; clear hK K
      repeat refine wpA_seq ?_
      refine wpA_reg hT hE fun K hK => ?_
      simp only [go_sem, Nat.reduceLT, Nat.reduceEqDiff, Nat.reduceAdd, Nat.reduceSub, Nat.reduceMul, Nat.reduceLeDiff, reduceIte, reduceCtorEq, Int.lt_irrefl, Nat.reduceMod, Nat.reduceBEq, eq_self, false_and, and_false]
      refine ⟨_, [], [], Time_spec _ _ _ (by simp), ?_⟩
      try simp only [go_sem, Nat.reduceLT, Nat.reduceEqDiff, Nat.reduceAdd, Nat.reduceSub, Nat.reduceMul, Nat.reduceLeDiff, reduceIte, reduceCtorEq, Int.lt_irrefl, Nat.reduceMod, Nat.reduceBEq, eq_self, false_and, and_false]
      have fail1 : frameOK fin f = false → right ⟨fr, fin⟩ = false := fun h => bad (.inl h)
      refine gd_f (fun h1 => ?_) (fun h1 => ?_)
      · try simp only [go_sem, Nat.reduceLT, Nat.reduceEqDiff, Nat.reduceAdd, Nat.reduceSub, Nat.reduceMul, Nat.reduceLeDiff, reduceIte, reduceCtorEq, Int.lt_irrefl, Nat.reduceMod, Nat.reduceBEq, eq_self, false_and, and_false, h1]
        refine hK _ _ ?_; clear hK K
        repeat refine wpA_seq ?_
        refine wpA_cond rfl (fun h => ?_) (fun h => by cases h)
        repeat refine wpA_seq ?_
        refine wpA_reg hT hE fun K hK => ?_
        simp only [go_sem, Nat.reduceLT, Nat.reduceEqDiff, Nat.reduceAdd, Nat.reduceSub, Nat.reduceMul, Nat.reduceLeDiff, reduceIte, reduceCtorEq, Int.lt_irrefl, Nat.reduceMod, Nat.reduceBEq, eq_self, false_and, and_false]
        refine hK _ _ ?_; clear hK K
        refine wpA_ret (fin_pure (.inl rfl) rfl (by simp only [go_sem, Nat.reduceLT, Nat.reduceEqDiff, Nat.reduceAdd, Nat.reduceSub, Nat.reduceMul, Nat.reduceLeDiff, reduceIte, reduceCtorEq, Int.lt_irrefl, Nat.reduceMod, Nat.reduceBEq, eq_self, false_and, and_false]; rfl) ?_ (hW _))
        simp only [go_sem, Nat.reduceLT, Nat.reduceEqDiff, Nat.reduceAdd, Nat.reduceSub, Nat.reduceMul, Nat.reduceLeDiff, reduceIte, reduceCtorEq, Int.lt_irrefl, Nat.reduceMod, Nat.reduceBEq, eq_self, false_and, and_false]
        rw [fail1 (by simp at h1; simp [frameOK, h1])]
      try simp only [go_sem, Nat.reduceLT, Nat.reduceEqDiff, Nat.reduceAdd, Nat.reduceSub, Nat.reduceMul, Nat.reduceLeDiff, reduceIte, reduceCtorEq, Int.lt_irrefl, Nat.reduceMod, Nat.reduceBEq, eq_self, false_and, and_false, h1]
      refine gd_f (fun h2 => ?_) (fun h2 => ?_)
      · try simp only [go_sem, Nat.reduceLT, Nat.reduceEqDiff, Nat.reduceAdd, Nat.reduceSub, Nat.reduceMul, Nat.reduceLeDiff, reduceIte, reduceCtorEq, Int.lt_irrefl, Nat.reduceMod, Nat.reduceBEq, eq_self, false_and, and_false, h1, h2]
        refine hK _ _ ?_; clear hK K
        repeat refine wpA_seq ?_
        refine wpA_cond rfl (fun h => ?_) (fun h => by cases h)
        repeat refine wpA_seq ?_
        refine wpA_reg hT hE fun K hK => ?_
        simp only [go_sem, Nat.reduceLT, Nat.reduceEqDiff, Nat.reduceAdd, Nat.reduceSub, Nat.reduceMul, Nat.reduceLeDiff, reduceIte, reduceCtorEq, Int.lt_irrefl, Nat.reduceMod, Nat.reduceBEq, eq_self, false_and, and_false]
        refine hK _ _ ?_; clear hK K
        refine wpA_ret (fin_pure (.inl rfl) rfl (by simp only [go_sem, Nat.reduceLT, Nat.reduceEqDiff, Nat.reduceAdd, Nat.reduceSub, Nat.reduceMul, Nat.reduceLeDiff, reduceIte, reduceCtorEq, Int.lt_irrefl, Nat.reduceMod, Nat.reduceBEq, eq_self, false_and, and_false]; rfl) ?_ (hW _))
        simp only [go_sem, Nat.reduceLT, Nat.reduceEqDiff, Nat.reduceAdd, Nat.reduceSub, Nat.reduceMul, Nat.reduceLeDiff, reduceIte, reduceCtorEq, Int.lt_irrefl, Nat.reduceMod, Nat.reduceBEq, eq_self, false_and, and_false]
        rw [fail1 (by simp only [frameOK, h2]; simp)]
      try simp only [go_sem, Nat.reduceLT, Nat.reduceEqDiff, Nat.reduceAdd, Nat.reduceSub, Nat.reduceMul, Nat.reduceLeDiff, reduceIte, reduceCtorEq, Int.lt_irrefl, Nat.reduceMod, Nat.reduceBEq, eq_self, false_and, and_false, h1, h2]
      refine ⟨_, [], [], Picture_spec f.puts _ _ (by simp), ?_⟩
      try simp only [go_sem, Nat.reduceLT, Nat.reduceEqDiff, Nat.reduceAdd, Nat.reduceSub, Nat.reduceMul, Nat.reduceLeDiff, reduceIte, reduceCtorEq, Int.lt_irrefl, Nat.reduceMod, Nat.reduceBEq, eq_self, false_and, and_false, h1, h2]
      refine hK _ _ ?_; clear hK K
      repeat refine wpA_seq ?_
      refine wpA_cond rfl (fun h => ?_) (fun h => ?_)
      · repeat refine wpA_seq ?_
        refine wpA_reg hT hE fun K hK => ?_
        simp only [go_sem, Nat.reduceLT, Nat.reduceEqDiff, Nat.reduceAdd, Nat.reduceSub, Nat.reduceMul, Nat.reduceLeDiff, reduceIte, reduceCtorEq, Int.lt_irrefl, Nat.reduceMod, Nat.reduceBEq, eq_self, false_and, and_false]
        refine hK _ _ ?_; clear hK K
        refine wpA_ret (fin_pure (.inl rfl) rfl (by simp only [go_sem, Nat.reduceLT, Nat.reduceEqDiff, Nat.reduceAdd, Nat.reduceSub, Nat.reduceMul, Nat.reduceLeDiff, reduceIte, reduceCtorEq, Int.lt_irrefl, Nat.reduceMod, Nat.reduceBEq, eq_self, false_and, and_false]; rfl) ?_ (hW _))
        simp only [go_sem, Nat.reduceLT, Nat.reduceEqDiff, Nat.reduceAdd, Nat.reduceSub, Nat.reduceMul, Nat.reduceLeDiff, reduceIte, reduceCtorEq, Int.lt_irrefl, Nat.reduceMod, Nat.reduceBEq, eq_self, false_and, and_false]
        rw [fail1 (by simp at h; simp [frameOK, h])]
      have hf : frameOK fin f = true := by
        simp at h h1 h2
        simp [frameOK, h, h1, h2]
      refine wpA_skip ?_
      refine wpA_kp [1, 3, 4] [0, 1] (by simp) (by simp) rfl fun K hK => ?_
      try simp only [go_sem, Nat.reduceLT, Nat.reduceEqDiff, Nat.reduceAdd, Nat.reduceSub, Nat.reduceMul, Nat.reduceLeDiff, reduceIte, reduceCtorEq, Int.lt_irrefl, Nat.reduceMod, Nat.reduceBEq, eq_self, false_and, and_false, hW _]
      refine hK _ ?_; clear hK K
      repeat refine wpA_seq ?_
      refine wpA_drw hT hE hmix (by kernel_rfl) fun K hK => ?_
      have key : ∀ (c : Bool) (s' : AS), c = !linkOK (fr.take i).getLast? f → Wk 70 b s' { tm := [(69, .v (.bool c)), (1, .ptr (b + 0) 0), (3, .v (.int .i64 i))], F := F, L := [.blk 24 [.sl (fr.map aFrame), .v (.int .i64 fin)]], ds := [] } → K s' [] := by
        intro c s' hc hw
        refine hK s' [] rfl (?_ : wpA _ _ _ _ _ _ s')
        clear hK K
        refine wpA_wk hw ?_
        repeat refine wpA_seq ?_
        refine wpA_cond rfl (fun h => ?_) (fun h => ?_)
        · repeat refine wpA_seq ?_
          refine wpA_reg hT hE fun K hK => ?_
          simp only [go_sem, Nat.reduceLT, Nat.reduceEqDiff, Nat.reduceAdd, Nat.reduceSub, Nat.reduceMul, Nat.reduceLeDiff, reduceIte, reduceCtorEq, Int.lt_irrefl, Nat.reduceMod, Nat.reduceBEq, eq_self, false_and, and_false]
          refine hK _ _ ?_; clear hK K
          refine wpA_ret (fin_pure (.inl rfl) rfl (by simp only [go_sem, Nat.reduceLT, Nat.reduceEqDiff, Nat.reduceAdd, Nat.reduceSub, Nat.reduceMul, Nat.reduceLeDiff, reduceIte, reduceCtorEq, Int.lt_irrefl, Nat.reduceMod, Nat.reduceBEq, eq_self, false_and, and_false]; rfl) ?_ (hW _))
          simp only [go_sem, Nat.reduceLT, Nat.reduceEqDiff, Nat.reduceAdd, Nat.reduceSub, Nat.reduceMul, Nat.reduceLeDiff, reduceIte, reduceCtorEq, Int.lt_irrefl, Nat.reduceMod, Nat.reduceBEq, eq_self, false_and, and_false]
          rw [bad (.inr (by rw [h] at hc; simpa using hc.symm))]
        · refine wpA_skip ?_
          repeat refine wpA_seq ?_
          refine wpA_reg hT hE fun K hK => ?_
          simp only [go_sem, Nat.reduceLT, Nat.reduceEqDiff, Nat.reduceAdd, Nat.reduceSub, Nat.reduceMul, Nat.reduceLeDiff, reduceIte, reduceCtorEq, Int.lt_irrefl, Nat.reduceMod, Nat.reduceBEq, eq_self, false_and, and_false]
          refine hK _ _ ?_; clear hK K
          have hlk : linkOK (fr.take i).getLast? f = true := by rw [h] at hc; simpa using hc
          rw [hf, hlk, Bool.true_and, Bool.true_and] at hp
          refine ⟨_, m - 1, wk_kp [1, 3] [0] (by simp) (by simp) rfl, ⟨i + 1, by omega, hp, ?_⟩, by omega⟩
          try simp only [go_sem, Nat.reduceLT, Nat.reduceEqDiff, Nat.reduceAdd, Nat.reduceSub, Nat.reduceMul, Nat.reduceLeDiff, reduceIte, reduceCtorEq, Int.lt_irrefl, Nat.reduceMod, Nat.reduceBEq, eq_self, false_and, and_false, hW _]
          rw [i64_id (by omega) (by omega)]
          rfl
      try simp only [go_sem, Nat.reduceLT, Nat.reduceEqDiff, Nat.reduceAdd, Nat.reduceSub, Nat.reduceMul, Nat.reduceLeDiff, reduceIte, reduceCtorEq, Int.lt_irrefl, Nat.reduceMod, Nat.reduceBEq, eq_self, false_and, and_false]
      refine gd_t (fun h6 => ?_) (fun h6 => ?_)
      · have h0 : 0 < i := by simpa using h6
        obtain ⟨q, hq⟩ : ∃ q, fr[i - 1]? = some q := ⟨fr[i - 1], List.getElem?_eq_getElem (by omega)⟩
        have hw : IntKind.i64.wrap ((i : Int) - 1) = ((i - 1 : Nat) : Int) := by
          rw [i64_id (by omega) (by omega)]; omega
        have hlast : (fr.take i).getLast? = some q := by
          rw [List.getLast?_eq_getElem?, List.length_take, Nat.min_eq_left (by omega), List.getElem?_take]
          rw [if_pos (by omega)]; exact hq
        try simp only [go_sem, Nat.reduceLT, Nat.reduceEqDiff, Nat.reduceAdd, Nat.reduceSub, Nat.reduceMul, Nat.reduceLeDiff, reduceIte, reduceCtorEq, Int.lt_irrefl, Nat.reduceMod, Nat.reduceBEq, eq_self, false_and, and_false, h6, hw, hq, Int.natCast_nonneg]
        refine gd_f (fun h7 => ?_) (fun h7 => ?_)
        · try simp only [go_sem, Nat.reduceLT, Nat.reduceEqDiff, Nat.reduceAdd, Nat.reduceSub, Nat.reduceMul, Nat.reduceLeDiff, reduceIte, reduceCtorEq, Int.lt_irrefl, Nat.reduceMod, Nat.reduceBEq, eq_self, false_and, and_false, h6, h7, hw, hq, Int.natCast_nonneg]
          refine key true _ ?_ ?_
          · rw [hlast, linkOK, linkBad, h7]; rfl
          · exact (wk_to (wk_kp [69, 1, 3] [0] (by simp) (by simp) rfl) (by simp only [go_sem, Nat.reduceLT, Nat.reduceEqDiff, Nat.reduceAdd, Nat.reduceSub, Nat.reduceMul, Nat.reduceLeDiff, reduceIte, reduceCtorEq, Int.lt_irrefl, Nat.reduceMod, Nat.reduceBEq, eq_self, false_and, and_false, hW _]))
        try simp only [go_sem, Nat.reduceLT, Nat.reduceEqDiff, Nat.reduceAdd, Nat.reduceSub, Nat.reduceMul, Nat.reduceLeDiff, reduceIte, reduceCtorEq, Int.lt_irrefl, Nat.reduceMod, Nat.reduceBEq, eq_self, false_and, and_false, h6, h7, hw, hq, Int.natCast_nonneg]
        refine ⟨_, [], [], PureE.toS (SamePuts_spec q.puts f.puts), by simp, by simp, ?_⟩
        try simp only [go_sem, Nat.reduceLT, Nat.reduceEqDiff, Nat.reduceAdd, Nat.reduceSub, Nat.reduceMul, Nat.reduceLeDiff, reduceIte, reduceCtorEq, Int.lt_irrefl, Nat.reduceMod, Nat.reduceBEq, eq_self, false_and, and_false, h6, h7, hw, hq, Int.natCast_nonneg]
        refine key (decide (q.puts = f.puts)) _ ?_ ?_
        · rw [hlast, linkOK, linkBad, h7]; simp
        · exact (wk_to (wk_kp [69, 1, 3] [0] (by simp) (by simp) rfl) (by simp only [go_sem, Nat.reduceLT, Nat.reduceEqDiff, Nat.reduceAdd, Nat.reduceSub, Nat.reduceMul, Nat.reduceLeDiff, reduceIte, reduceCtorEq, Int.lt_irrefl, Nat.reduceMod, Nat.reduceBEq, eq_self, false_and, and_false, hW _]))
      · have h0 : i = 0 := by simpa using h6
        try simp only [go_sem, Nat.reduceLT, Nat.reduceEqDiff, Nat.reduceAdd, Nat.reduceSub, Nat.reduceMul, Nat.reduceLeDiff, reduceIte, reduceCtorEq, Int.lt_irrefl, Nat.reduceMod, Nat.reduceBEq, eq_self, false_and, and_false, h6]
        refine key false _ ?_ ?_
        · rw [h0]; rfl
        · exact (wk_to (wk_kp [69, 1, 3] [0] (by simp) (by simp) rfl) (by simp only [go_sem, Nat.reduceLT, Nat.reduceEqDiff, Nat.reduceAdd, Nat.reduceSub, Nat.reduceMul, Nat.reduceLeDiff, reduceIte, reduceCtorEq, Int.lt_irrefl, Nat.reduceMod, Nat.reduceBEq, eq_self, false_and, and_false, hW _]))
    · have hlt : i = fr.length := by
        have : ¬ i < fr.length := by simpa using h
        omega
      subst hlt
      refine wpA_exit ?_
      repeat refine wpA_seq ?_
      refine wpA_reg hT hE fun K hK => ?_
      simp only [go_sem, Nat.reduceLT, Nat.reduceEqDiff, Nat.reduceAdd, Nat.reduceSub, Nat.reduceMul, Nat.reduceLeDiff, reduceIte, reduceCtorEq, Int.lt_irrefl, Nat.reduceMod, Nat.reduceBEq, eq_self, false_and, and_false]
      refine hK _ _ ?_; clear hK K
      refine wpA_ret (fin_pure (.inl rfl) rfl (by simp only [go_sem, Nat.reduceLT, Nat.reduceEqDiff, Nat.reduceAdd, Nat.reduceSub, Nat.reduceMul, Nat.reduceLeDiff, reduceIte, reduceCtorEq, Int.lt_irrefl, Nat.reduceMod, Nat.reduceBEq, eq_self, false_and, and_false]; rfl) ?_ (hW _))
      simp only [go_sem, Nat.reduceLT, Nat.reduceEqDiff, Nat.reduceAdd, Nat.reduceSub, Nat.reduceMul, Nat.reduceLeDiff, reduceIte, reduceCtorEq, Int.lt_irrefl, Nat.reduceMod, Nat.reduceBEq, eq_self, false_and, and_false]
      rw [List.drop_length] at hp
      simp [right, hp, h4, hfin, rightL]
end Go.Proofs.Ythlmfkeeneeaoaa

namespace Go.Proofs.Ythlmfkeeneeaoaa
open Go Go.Av

def noTrace : Trace := ⟨[], 0⟩
/-- 'Pass' and its error. -/
def passF (t : Trace) (n : Int) : Trace × Int :=
  if right t = false then (noTrace, 330) else if (!timeOK n || decide (n < t.fin)) = true then (noTrace, 2) else (⟨t.frames, n⟩, 0)
def aPass (x : Trace × Int) : AVal := .tup [aTrace x.1, .v (.int .i64 x.2)]
attribute [go_sem] aPass

theorem Pass_spec (t : Trace) (n : Int) : PureE Try.prog 13 [aTrace t, .v (.int .i64 n)] [] (aPass (passF t n)) := by
  intro F b _
  refine callE_of hT (fn := Try.f13) rfl rfl rfl (by simp [fnt]) (by simp) fun htop hW => ?_
  repeat refine wpA_seq ?_
  refine wpA_reg hT hE fun K hK => ?_
  simp only [go_sem, Nat.reduceLT, Nat.reduceEqDiff, Nat.reduceAdd, Nat.reduceSub, Nat.reduceMul, Nat.reduceLeDiff, reduceIte, reduceCtorEq, Int.lt_irrefl, Nat.reduceMod, Nat.reduceBEq, eq_self, false_and, and_false]
  refine hK _ _ ?_; clear hK K
  repeat refine wpA_seq ?_
  refine wpA_block ?_
  repeat refine wpA_seq ?_
  refine wpA_reg hT hE fun K hK => ?_
  simp only [go_sem, Nat.reduceLT, Nat.reduceEqDiff, Nat.reduceAdd, Nat.reduceSub, Nat.reduceMul, Nat.reduceLeDiff, reduceIte, reduceCtorEq, Int.lt_irrefl, Nat.reduceMod, Nat.reduceBEq, eq_self, false_and, and_false]
  refine ⟨_, [], [], Check_spec t _ _ (by simp), ?_⟩
  try simp only [go_sem, Nat.reduceLT, Nat.reduceEqDiff, Nat.reduceAdd, Nat.reduceSub, Nat.reduceMul, Nat.reduceLeDiff, reduceIte, reduceCtorEq, Int.lt_irrefl, Nat.reduceMod, Nat.reduceBEq, eq_self, false_and, and_false]
  refine hK _ _ ?_; clear hK K
  have herr : (errT (right t) != 0) = !right t := by cases right t <;> rfl
  repeat refine wpA_seq ?_
  refine wpA_cond rfl (fun h => ?_) (fun h => ?_)
  · repeat refine wpA_seq ?_
    refine wpA_reg hT hE fun K hK => ?_
    simp only [go_sem, Nat.reduceLT, Nat.reduceEqDiff, Nat.reduceAdd, Nat.reduceSub, Nat.reduceMul, Nat.reduceLeDiff, reduceIte, reduceCtorEq, Int.lt_irrefl, Nat.reduceMod, Nat.reduceBEq, eq_self, false_and, and_false]
    refine hK _ _ ?_; clear hK K
    refine wpA_ret (fin_pure (.inl rfl) rfl (by simp only [go_sem, Nat.reduceLT, Nat.reduceEqDiff, Nat.reduceAdd, Nat.reduceSub, Nat.reduceMul, Nat.reduceLeDiff, reduceIte, reduceCtorEq, Int.lt_irrefl, Nat.reduceMod, Nat.reduceBEq, eq_self, false_and, and_false]; rfl) ?_ (hW _))
    simp only [go_sem, Nat.reduceLT, Nat.reduceEqDiff, Nat.reduceAdd, Nat.reduceSub, Nat.reduceMul, Nat.reduceLeDiff, reduceIte, reduceCtorEq, Int.lt_irrefl, Nat.reduceMod, Nat.reduceBEq, eq_self, false_and, and_false]
    have : right t = false := by rw [herr] at h; simpa using h
    simp [passF, this, noTrace]
  have hr : right t = true := by rw [herr] at h; simpa using h
  repeat refine wpA_seq ?_
  refine wpA_reg hT hE fun K hK => ?_
  simp only [go_sem, Nat.reduceLT, Nat.reduceEqDiff, Nat.reduceAdd, Nat.reduceSub, Nat.reduceMul, Nat.reduceLeDiff, reduceIte, reduceCtorEq, Int.lt_irrefl, Nat.reduceMod, Nat.reduceBEq, eq_self, false_and, and_false]
  refine ⟨_, [], [], time_spec n _ _ (by simp), ?_⟩
  try simp only [go_sem, Nat.reduceLT, Nat.reduceEqDiff, Nat.reduceAdd, Nat.reduceSub, Nat.reduceMul, Nat.reduceLeDiff, reduceIte, reduceCtorEq, Int.lt_irrefl, Nat.reduceMod, Nat.reduceBEq, eq_self, false_and, and_false]
  refine gd_f (fun h1 => ?_) (fun h1 => ?_)
  · try simp only [go_sem, Nat.reduceLT, Nat.reduceEqDiff, Nat.reduceAdd, Nat.reduceSub, Nat.reduceMul, Nat.reduceLeDiff, reduceIte, reduceCtorEq, Int.lt_irrefl, Nat.reduceMod, Nat.reduceBEq, eq_self, false_and, and_false, h1]
    refine hK _ _ ?_; clear hK K
    repeat refine wpA_seq ?_
    refine wpA_cond rfl (fun h => ?_) (fun h => by cases h)
    repeat refine wpA_seq ?_
    refine wpA_reg hT hE fun K hK => ?_
    simp only [go_sem, Nat.reduceLT, Nat.reduceEqDiff, Nat.reduceAdd, Nat.reduceSub, Nat.reduceMul, Nat.reduceLeDiff, reduceIte, reduceCtorEq, Int.lt_irrefl, Nat.reduceMod, Nat.reduceBEq, eq_self, false_and, and_false]
    refine hK _ _ ?_; clear hK K
    refine wpA_ret (fin_pure (.inl rfl) rfl (by simp only [go_sem, Nat.reduceLT, Nat.reduceEqDiff, Nat.reduceAdd, Nat.reduceSub, Nat.reduceMul, Nat.reduceLeDiff, reduceIte, reduceCtorEq, Int.lt_irrefl, Nat.reduceMod, Nat.reduceBEq, eq_self, false_and, and_false]; rfl) ?_ (hW _))
    simp only [go_sem, Nat.reduceLT, Nat.reduceEqDiff, Nat.reduceAdd, Nat.reduceSub, Nat.reduceMul, Nat.reduceLeDiff, reduceIte, reduceCtorEq, Int.lt_irrefl, Nat.reduceMod, Nat.reduceBEq, eq_self, false_and, and_false]
    simp [passF, hr, h1, noTrace]
  try simp only [go_sem, Nat.reduceLT, Nat.reduceEqDiff, Nat.reduceAdd, Nat.reduceSub, Nat.reduceMul, Nat.reduceLeDiff, reduceIte, reduceCtorEq, Int.lt_irrefl, Nat.reduceMod, Nat.reduceBEq, eq_self, false_and, and_false, h1]
  refine hK _ _ ?_; clear hK K
  repeat refine wpA_seq ?_
  refine wpA_cond rfl (fun h => ?_) (fun h => ?_)
  · repeat refine wpA_seq ?_
    refine wpA_reg hT hE fun K hK => ?_
    simp only [go_sem, Nat.reduceLT, Nat.reduceEqDiff, Nat.reduceAdd, Nat.reduceSub, Nat.reduceMul, Nat.reduceLeDiff, reduceIte, reduceCtorEq, Int.lt_irrefl, Nat.reduceMod, Nat.reduceBEq, eq_self, false_and, and_false]
    refine hK _ _ ?_; clear hK K
    refine wpA_ret (fin_pure (.inl rfl) rfl (by simp only [go_sem, Nat.reduceLT, Nat.reduceEqDiff, Nat.reduceAdd, Nat.reduceSub, Nat.reduceMul, Nat.reduceLeDiff, reduceIte, reduceCtorEq, Int.lt_irrefl, Nat.reduceMod, Nat.reduceBEq, eq_self, false_and, and_false]; rfl) ?_ (hW _))
    simp only [go_sem, Nat.reduceLT, Nat.reduceEqDiff, Nat.reduceAdd, Nat.reduceSub, Nat.reduceMul, Nat.reduceLeDiff, reduceIte, reduceCtorEq, Int.lt_irrefl, Nat.reduceMod, Nat.reduceBEq, eq_self, false_and, and_false]
    simp only [decide_eq_true_eq] at h
    simp [passF, hr, h, noTrace]
  refine wpA_skip ?_
  repeat refine wpA_seq ?_
  refine wpA_reg hT hE fun K hK => ?_
  simp only [go_sem, Nat.reduceLT, Nat.reduceEqDiff, Nat.reduceAdd, Nat.reduceSub, Nat.reduceMul, Nat.reduceLeDiff, reduceIte, reduceCtorEq, Int.lt_irrefl, Nat.reduceMod, Nat.reduceBEq, eq_self, false_and, and_false]
  refine hK _ _ ?_; clear hK K
  repeat refine wpA_seq ?_
  refine wpA_reg hT hE fun K hK => ?_
  simp only [go_sem, Nat.reduceLT, Nat.reduceEqDiff, Nat.reduceAdd, Nat.reduceSub, Nat.reduceMul, Nat.reduceLeDiff, reduceIte, reduceCtorEq, Int.lt_irrefl, Nat.reduceMod, Nat.reduceBEq, eq_self, false_and, and_false]
  refine hK _ _ ?_; clear hK K
  refine wpA_ret (fin_pure (.inl rfl) rfl (by simp only [go_sem, Nat.reduceLT, Nat.reduceEqDiff, Nat.reduceAdd, Nat.reduceSub, Nat.reduceMul, Nat.reduceLeDiff, reduceIte, reduceCtorEq, Int.lt_irrefl, Nat.reduceMod, Nat.reduceBEq, eq_self, false_and, and_false]; rfl) ?_ (hW _))
  simp only [go_sem, Nat.reduceLT, Nat.reduceEqDiff, Nat.reduceAdd, Nat.reduceSub, Nat.reduceMul, Nat.reduceLeDiff, reduceIte, reduceCtorEq, Int.lt_irrefl, Nat.reduceMod, Nat.reduceBEq, eq_self, false_and, and_false]
  have h2 : decide (n < t.fin) = false := h
  simp [passF, hr, h1, h2]

def overF (t : Trace) : Bool := decide (t.frames.length > 300) || t.frames.any (fun f => decide (f.puts.length > 30))
theorem any_takeF {l : List Frame} {i : Nat} {q : Frame} (hq : l[i]? = some q) (g : Frame → Bool) : (l.take (i + 1)).any g = ((l.take i).any g || g q) := by
  rw [List.take_add_one, hq]; simp

theorem over_spec (t : Trace) : PureE Try.prog 10 [aTrace t] [] (.v (.bool (overF t))) := by
  intro F b _
  obtain ⟨fr, fin⟩ := t
  refine callE_of hT (fn := Try.f10) rfl rfl rfl (by simp [fnt]) (by simp) fun htop hW => ?_
  refine wpA_boundA 0 (fr.map aFrame) rfl (by simp) fun hlen => ?_
  rw [List.length_map] at hlen
  repeat refine wpA_seq ?_
  refine wpA_reg hT hE fun K hK => ?_
  simp only [go_sem, Nat.reduceLT, Nat.reduceEqDiff, Nat.reduceAdd, Nat.reduceSub, Nat.reduceMul, Nat.reduceLeDiff, reduceIte, reduceCtorEq, Int.lt_irrefl, Nat.reduceMod, Nat.reduceBEq, eq_self, false_and, and_false]
  refine hK _ _ ?_; clear hK K
  repeat refine wpA_seq ?_
  refine wpA_reg hT hE fun K hK => ?_
  simp only [go_sem, Nat.reduceLT, Nat.reduceEqDiff, Nat.reduceAdd, Nat.reduceSub, Nat.reduceMul, Nat.reduceLeDiff, reduceIte, reduceCtorEq, Int.lt_irrefl, Nat.reduceMod, Nat.reduceBEq, eq_self, false_and, and_false]
  refine hK _ _ ?_; clear hK K
  repeat refine wpA_seq ?_
  refine wpA_cond rfl (fun h => ?_) (fun h => ?_)
  · repeat refine wpA_seq ?_
    refine wpA_reg hT hE fun K hK => ?_
    simp only [go_sem, Nat.reduceLT, Nat.reduceEqDiff, Nat.reduceAdd, Nat.reduceSub, Nat.reduceMul, Nat.reduceLeDiff, reduceIte, reduceCtorEq, Int.lt_irrefl, Nat.reduceMod, Nat.reduceBEq, eq_self, false_and, and_false]
    refine hK _ _ ?_; clear hK K
    refine wpA_ret (fin_pure (.inl rfl) rfl (by simp only [go_sem, Nat.reduceLT, Nat.reduceEqDiff, Nat.reduceAdd, Nat.reduceSub, Nat.reduceMul, Nat.reduceLeDiff, reduceIte, reduceCtorEq, Int.lt_irrefl, Nat.reduceMod, Nat.reduceBEq, eq_self, false_and, and_false]; rfl) ?_ (hW _))
    simp only [go_sem, Nat.reduceLT, Nat.reduceEqDiff, Nat.reduceAdd, Nat.reduceSub, Nat.reduceMul, Nat.reduceLeDiff, reduceIte, reduceCtorEq, Int.lt_irrefl, Nat.reduceMod, Nat.reduceBEq, eq_self, false_and, and_false]
    have : fr.length > 300 := by
      have : (fr.length : Int) > 300 := by simpa using h
      omega
    simp [overF, this]
  have h4 : decide (fr.length > 300) = false := by
    have : ¬ (fr.length : Int) > 300 := by simpa using h
    simp; omega
  refine wpA_skip ?_
  repeat refine wpA_seq ?_
  refine wpA_reg hT hE fun K hK => ?_
  simp only [go_sem, Nat.reduceLT, Nat.reduceEqDiff, Nat.reduceAdd, Nat.reduceSub, Nat.reduceMul, Nat.reduceLeDiff, reduceIte, reduceCtorEq, Int.lt_irrefl, Nat.reduceMod, Nat.reduceBEq, eq_self, false_and, and_false]
  refine hK _ _ ?_; clear hK K
  refine wpA_kp [10, 11, 12] [] (by simp) (by simp) rfl fun K hK => ?_
  try simp only [go_sem, Nat.reduceLT, Nat.reduceEqDiff, Nat.reduceAdd, Nat.reduceSub, Nat.reduceMul, Nat.reduceLeDiff, reduceIte, reduceCtorEq, Int.lt_irrefl, Nat.reduceMod, Nat.reduceBEq, eq_self, false_and, and_false, hW _]
  refine hK _ ?_; clear hK K
  repeat refine wpA_seq ?_
  refine wpA_block (wpA_loopI (fun m s => ∃ i, i + m = fr.length ∧ (fr.take i).any (fun f => decide (f.puts.length > 30)) = false ∧ s = { tm := [(10, .sl (fr.map aFrame)), (11, .v (.int .i64 fr.length)), (12, .v (.int .i64 i))], F := F, L := [], ds := [] }) fr.length ?_ ?_)
  · exact ⟨0, by simp, by simp, by simp⟩
  · rintro m s ⟨i, hi, hp, rfl⟩
    repeat refine wpA_seq ?_
    refine wpA_reg hT hE fun K hK => ?_
    simp only [go_sem, Nat.reduceLT, Nat.reduceEqDiff, Nat.reduceAdd, Nat.reduceSub, Nat.reduceMul, Nat.reduceLeDiff, reduceIte, reduceCtorEq, Int.lt_irrefl, Nat.reduceMod, Nat.reduceBEq, eq_self, false_and, and_false]
    refine hK _ _ ?_; clear hK K
    repeat refine wpA_seq ?_
    refine wpA_cond rfl (fun h => ?_) (fun h => ?_)
    · have hlt : i < fr.length := by simpa using h
      obtain ⟨f, hfi⟩ : ∃ f, fr[i]? = some f := ⟨fr[i], List.getElem?_eq_getElem hlt⟩
      refine wpA_skip ?_
      repeat refine wpA_seq ?_
      refine wpA_block ?_
      repeat refine wpA_seq ?_
      refine wpA_reg hT hE fun K hK => ?_
      simp only [go_sem, Nat.reduceLT, Nat.reduceEqDiff, Nat.reduceAdd, Nat.reduceSub, Nat.reduceMul, Nat.reduceLeDiff, reduceIte, reduceCtorEq, Int.lt_irrefl, Nat.reduceMod, Nat.reduceBEq, eq_self, false_and, and_false, hfi, Int.natCast_nonneg]
      refine hK _ _ ?_; clear hK K
      repeat refine wpA_seq ?_
      refine wpA_reg hT hE fun K hK => ?_
      simp only [go_sem, Nat.reduceLT, Nat.reduceEqDiff, Nat.reduceAdd, Nat.reduceSub, Nat.reduceMul, Nat.reduceLeDiff, reduceIte, reduceCtorEq, Int.lt_irrefl, Nat.reduceMod, Nat.reduceBEq, eq_self, false_and, and_false]
      refine hK _ _ ?_; clear hK K
      repeat refine wpA_seq ?_
      refine wpA_cond rfl (fun h => ?_) (fun h => ?_)
      · repeat refine wpA_seq ?_
        refine wpA_reg hT hE fun K hK => ?_
        simp only [go_sem, Nat.reduceLT, Nat.reduceEqDiff, Nat.reduceAdd, Nat.reduceSub, Nat.reduceMul, Nat.reduceLeDiff, reduceIte, reduceCtorEq, Int.lt_irrefl, Nat.reduceMod, Nat.reduceBEq, eq_self, false_and, and_false]
        refine hK _ _ ?_; clear hK K
        refine wpA_ret (fin_pure (.inl rfl) rfl (by simp only [go_sem, Nat.reduceLT, Nat.reduceEqDiff, Nat.reduceAdd, Nat.reduceSub, Nat.reduceMul, Nat.reduceLeDiff, reduceIte, reduceCtorEq, Int.lt_irrefl, Nat.reduceMod, Nat.reduceBEq, eq_self, false_and, and_false]; rfl) ?_ (hW _))
        simp only [go_sem, Nat.reduceLT, Nat.reduceEqDiff, Nat.reduceAdd, Nat.reduceSub, Nat.reduceMul, Nat.reduceLeDiff, reduceIte, reduceCtorEq, Int.lt_irrefl, Nat.reduceMod, Nat.reduceBEq, eq_self, false_and, and_false]
        have h3 : f.puts.length > 30 := by
          have : (f.puts.length : Int) > 30 := by simpa using h
          omega
        have : fr.any (fun f => decide (f.puts.length > 30)) = true := List.any_eq_true.2 ⟨f, List.mem_of_getElem? hfi, by simpa using h3⟩
        simp [overF, h4, this]
      · have h3 : decide (f.puts.length > 30) = false := by
          have : ¬ (f.puts.length : Int) > 30 := by simpa using h
          simp; omega
        refine wpA_skip ?_
        repeat refine wpA_seq ?_
        refine wpA_reg hT hE fun K hK => ?_
        simp only [go_sem, Nat.reduceLT, Nat.reduceEqDiff, Nat.reduceAdd, Nat.reduceSub, Nat.reduceMul, Nat.reduceLeDiff, reduceIte, reduceCtorEq, Int.lt_irrefl, Nat.reduceMod, Nat.reduceBEq, eq_self, false_and, and_false]
        refine hK _ _ ?_; clear hK K
        refine ⟨_, m - 1, wk_kp [10, 11, 12] [] (by simp) (by simp) rfl, ⟨i + 1, by omega, by rw [any_takeF hfi, hp, h3]; rfl, ?_⟩, by omega⟩
        try simp only [go_sem, Nat.reduceLT, Nat.reduceEqDiff, Nat.reduceAdd, Nat.reduceSub, Nat.reduceMul, Nat.reduceLeDiff, reduceIte, reduceCtorEq, Int.lt_irrefl, Nat.reduceMod, Nat.reduceBEq, eq_self, false_and, and_false, hW _]
        rw [i64_id (by omega) (by omega)]
        rfl
    · have hlt : i = fr.length := by
        have : ¬ i < fr.length := by simpa using h
        omega
      subst hlt
      rw [List.take_length] at hp
      refine wpA_exit ?_
      repeat refine wpA_seq ?_
      refine wpA_reg hT hE fun K hK => ?_
      simp only [go_sem, Nat.reduceLT, Nat.reduceEqDiff, Nat.reduceAdd, Nat.reduceSub, Nat.reduceMul, Nat.reduceLeDiff, reduceIte, reduceCtorEq, Int.lt_irrefl, Nat.reduceMod, Nat.reduceBEq, eq_self, false_and, and_false]
      refine hK _ _ ?_; clear hK K
      refine wpA_ret (fin_pure (.inl rfl) rfl (by simp only [go_sem, Nat.reduceLT, Nat.reduceEqDiff, Nat.reduceAdd, Nat.reduceSub, Nat.reduceMul, Nat.reduceLeDiff, reduceIte, reduceCtorEq, Int.lt_irrefl, Nat.reduceMod, Nat.reduceBEq, eq_self, false_and, and_false]; rfl) ?_ (hW _))
      simp only [go_sem, Nat.reduceLT, Nat.reduceEqDiff, Nat.reduceAdd, Nat.reduceSub, Nat.reduceMul, Nat.reduceLeDiff, reduceIte, reduceCtorEq, Int.lt_irrefl, Nat.reduceMod, Nat.reduceBEq, eq_self, false_and, and_false]
      simp only [overF, h4, hp]; rfl
end Go.Proofs.Ythlmfkeeneeaoaa

namespace Go.Proofs.Ythlmfkeeneeaoaa
open Go Go.Av

theorem SameRef_spec (t u : Trace) : PureE Try.prog 15 [aTrace t, aTrace u] [] (.v (.bool (decide (t = u)))) := by
  intro F b _
  obtain ⟨fr, fin⟩ := t
  obtain ⟨gr, gin⟩ := u
  refine callE_of hT (fn := Try.f15) rfl rfl rfl (by simp [fnt]) (by simp) fun htop hW => ?_
  refine wpA_boundA 0 (fr.map aFrame) rfl (by simp) fun hlen => ?_
  rw [List.length_map] at hlen
  repeat refine wpA_seq ?_
  refine wpA_reg hT hE fun K hK => ?_
  simp only [go_sem, Nat.reduceLT, Nat.reduceEqDiff, Nat.reduceAdd, Nat.reduceSub, Nat.reduceMul, Nat.reduceLeDiff, reduceIte, reduceCtorEq, Int.lt_irrefl, Nat.reduceMod, Nat.reduceBEq, eq_self, false_and, and_false]
  refine hK _ _ ?_; clear hK K
  repeat refine wpA_seq ?_
  refine wpA_reg hT hE fun K hK => ?_
  simp only [go_sem, Nat.reduceLT, Nat.reduceEqDiff, Nat.reduceAdd, Nat.reduceSub, Nat.reduceMul, Nat.reduceLeDiff, reduceIte, reduceCtorEq, Int.lt_irrefl, Nat.reduceMod, Nat.reduceBEq, eq_self, false_and, and_false]
  refine gd_f (fun h1 => ?_) (fun h1 => ?_)
  · try simp only [go_sem, Nat.reduceLT, Nat.reduceEqDiff, Nat.reduceAdd, Nat.reduceSub, Nat.reduceMul, Nat.reduceLeDiff, reduceIte, reduceCtorEq, Int.lt_irrefl, Nat.reduceMod, Nat.reduceBEq, eq_self, false_and, and_false, h1]
    refine hK _ _ ?_; clear hK K
    repeat refine wpA_seq ?_
    refine wpA_cond rfl (fun h => ?_) (fun h => by cases h)
    repeat refine wpA_seq ?_
    refine wpA_reg hT hE fun K hK => ?_
    simp only [go_sem, Nat.reduceLT, Nat.reduceEqDiff, Nat.reduceAdd, Nat.reduceSub, Nat.reduceMul, Nat.reduceLeDiff, reduceIte, reduceCtorEq, Int.lt_irrefl, Nat.reduceMod, Nat.reduceBEq, eq_self, false_and, and_false]
    refine hK _ _ ?_; clear hK K
    refine wpA_ret (fin_pure (.inl rfl) rfl (by simp only [go_sem, Nat.reduceLT, Nat.reduceEqDiff, Nat.reduceAdd, Nat.reduceSub, Nat.reduceMul, Nat.reduceLeDiff, reduceIte, reduceCtorEq, Int.lt_irrefl, Nat.reduceMod, Nat.reduceBEq, eq_self, false_and, and_false]; rfl) ?_ (hW _))
    simp only [go_sem, Nat.reduceLT, Nat.reduceEqDiff, Nat.reduceAdd, Nat.reduceSub, Nat.reduceMul, Nat.reduceLeDiff, reduceIte, reduceCtorEq, Int.lt_irrefl, Nat.reduceMod, Nat.reduceBEq, eq_self, false_and, and_false]
    have : fin ≠ gin := by simpa using h1
    simp [this]
  try simp only [go_sem, Nat.reduceLT, Nat.reduceEqDiff, Nat.reduceAdd, Nat.reduceSub, Nat.reduceMul, Nat.reduceLeDiff, reduceIte, reduceCtorEq, Int.lt_irrefl, Nat.reduceMod, Nat.reduceBEq, eq_self, false_and, and_false, h1]
  refine hK _ _ ?_; clear hK K
  have hfin : fin = gin := by simpa using h1
  subst hfin
  repeat refine wpA_seq ?_
  refine wpA_cond rfl (fun h => ?_) (fun h => ?_)
  · repeat refine wpA_seq ?_
    refine wpA_reg hT hE fun K hK => ?_
    simp only [go_sem, Nat.reduceLT, Nat.reduceEqDiff, Nat.reduceAdd, Nat.reduceSub, Nat.reduceMul, Nat.reduceLeDiff, reduceIte, reduceCtorEq, Int.lt_irrefl, Nat.reduceMod, Nat.reduceBEq, eq_self, false_and, and_false]
    refine hK _ _ ?_; clear hK K
    refine wpA_ret (fin_pure (.inl rfl) rfl (by simp only [go_sem, Nat.reduceLT, Nat.reduceEqDiff, Nat.reduceAdd, Nat.reduceSub, Nat.reduceMul, Nat.reduceLeDiff, reduceIte, reduceCtorEq, Int.lt_irrefl, Nat.reduceMod, Nat.reduceBEq, eq_self, false_and, and_false]; rfl) ?_ (hW _))
    simp only [go_sem, Nat.reduceLT, Nat.reduceEqDiff, Nat.reduceAdd, Nat.reduceSub, Nat.reduceMul, Nat.reduceLeDiff, reduceIte, reduceCtorEq, Int.lt_irrefl, Nat.reduceMod, Nat.reduceBEq, eq_self, false_and, and_false]
    have : fr ≠ gr := fun e => by subst e; simp at h
    simp [this]
  have hl : fr.length = gr.length := by
    have : (fr.length : Int) = gr.length := by simpa using h
    omega
  refine wpA_skip ?_
  repeat refine wpA_seq ?_
  refine wpA_reg hT hE fun K hK => ?_
  simp only [go_sem, Nat.reduceLT, Nat.reduceEqDiff, Nat.reduceAdd, Nat.reduceSub, Nat.reduceMul, Nat.reduceLeDiff, reduceIte, reduceCtorEq, Int.lt_irrefl, Nat.reduceMod, Nat.reduceBEq, eq_self, false_and, and_false]
  refine hK _ _ ?_; clear hK K
  refine wpA_kp [2, 3, 5] [0, 1] (by simp) (by simp) rfl fun K hK => ?_
  try simp only [go_sem, Nat.reduceLT, Nat.reduceEqDiff, Nat.reduceAdd, Nat.reduceSub, Nat.reduceMul, Nat.reduceLeDiff, reduceIte, reduceCtorEq, Int.lt_irrefl, Nat.reduceMod, Nat.reduceBEq, eq_self, false_and, and_false, hW _]
  refine hK _ ?_; clear hK K
  repeat refine wpA_seq ?_
  refine wpA_block (wpA_loopI (fun m s => ∃ i, i + m = fr.length ∧ fr.take i = gr.take i ∧ s = { tm := [(2, .ptr (b + 0) 0), (3, .ptr (b + 1) 0), (5, .v (.int .i64 i))], F := F, L := [.blk 24 [.sl (fr.map aFrame), .v (.int .i64 fin)], .blk 24 [.sl (gr.map aFrame), .v (.int .i64 fin)]], ds := [] }) fr.length ?_ ?_)
  · exact ⟨0, by simp, by simp, by simp⟩
  · rintro m s ⟨i, hi, hp, rfl⟩
    repeat refine wpA_seq ?_
    refine wpA_reg hT hE fun K hK => ?_
    simp only [go_sem, Nat.reduceLT, Nat.reduceEqDiff, Nat.reduceAdd, Nat.reduceSub, Nat.reduceMul, Nat.reduceLeDiff, reduceIte, reduceCtorEq, Int.lt_irrefl, Nat.reduceMod, Nat.reduceBEq, eq_self, false_and, and_false]
    refine hK _ _ ?_; clear hK K
    repeat refine wpA_seq ?_
    refine wpA_cond rfl (fun h => ?_) (fun h => ?_)
    · have hlt : i < fr.length := by simpa using h
      obtain ⟨f, hfi⟩ : ∃ f, fr[i]? = some f := ⟨fr[i], List.getElem?_eq_getElem hlt⟩
      obtain ⟨g, hgi⟩ : ∃ g, gr[i]? = some g := ⟨gr[i], List.getElem?_eq_getElem (by omega)⟩
      refine wpA_skip ?_
      repeat refine wpA_seq ?_
      refine wpA_block ?_
      repeat refine wpA_seq ?_
      refine wpA_drw hT hE hmix (by kernel_rfl) fun K hK => ?_
      have key : ∀ (c : Bool) (s' : AS), c = !decide (f = g) → Wk 56 b s' { tm := [(55, .v (.bool c)), (2, .ptr (b + 0) 0), (3, .ptr (b + 1) 0), (5, .v (.int .i64 i))], F := F, L := [.blk 24 [.sl (fr.map aFrame), .v (.int .i64 fin)], .blk 24 [.sl (gr.map aFrame), .v (.int .i64 fin)]], ds := [] } → K s' [] := by
        intro c s' hc hw
        refine hK s' [] rfl (?_ : wpA _ _ _ _ _ _ s')
        clear hK K
        refine wpA_wk hw ?_
        repeat refine wpA_seq ?_
        refine wpA_cond rfl (fun h => ?_) (fun h => ?_)
        · repeat refine wpA_seq ?_
          refine wpA_reg hT hE fun K hK => ?_
          simp only [go_sem, Nat.reduceLT, Nat.reduceEqDiff, Nat.reduceAdd, Nat.reduceSub, Nat.reduceMul, Nat.reduceLeDiff, reduceIte, reduceCtorEq, Int.lt_irrefl, Nat.reduceMod, Nat.reduceBEq, eq_self, false_and, and_false]
          refine hK _ _ ?_; clear hK K
          refine wpA_ret (fin_pure (.inl rfl) rfl (by simp only [go_sem, Nat.reduceLT, Nat.reduceEqDiff, Nat.reduceAdd, Nat.reduceSub, Nat.reduceMul, Nat.reduceLeDiff, reduceIte, reduceCtorEq, Int.lt_irrefl, Nat.reduceMod, Nat.reduceBEq, eq_self, false_and, and_false]; rfl) ?_ (hW _))
          simp only [go_sem, Nat.reduceLT, Nat.reduceEqDiff, Nat.reduceAdd, Nat.reduceSub, Nat.reduceMul, Nat.reduceLeDiff, reduceIte, reduceCtorEq, Int.lt_irrefl, Nat.reduceMod, Nat.reduceBEq, eq_self, false_and, and_false]
          have hne : f ≠ g := by rw [h] at hc; simpa using hc.symm
          have : fr ≠ gr := by
            rintro rfl
            rw [hfi] at hgi; cases hgi
            exact hne rfl
          simp [this]
        · have he : f = g := by rw [h] at hc; simpa using hc
          refine wpA_skip ?_
          repeat refine wpA_seq ?_
          refine wpA_reg hT hE fun K hK => ?_
          simp only [go_sem, Nat.reduceLT, Nat.reduceEqDiff, Nat.reduceAdd, Nat.reduceSub, Nat.reduceMul, Nat.reduceLeDiff, reduceIte, reduceCtorEq, Int.lt_irrefl, Nat.reduceMod, Nat.reduceBEq, eq_self, false_and, and_false]
          refine hK _ _ ?_; clear hK K
          refine ⟨_, m - 1, wk_kp [2, 3, 5] [0, 1] (by simp) (by simp) rfl, ⟨i + 1, by omega, take_eq hp hfi hgi he, ?_⟩, by omega⟩
          try simp only [go_sem, Nat.reduceLT, Nat.reduceEqDiff, Nat.reduceAdd, Nat.reduceSub, Nat.reduceMul, Nat.reduceLeDiff, reduceIte, reduceCtorEq, Int.lt_irrefl, Nat.reduceMod, Nat.reduceBEq, eq_self, false_and, and_false, hW _]
          rw [i64_id (by omega) (by omega)]
          rfl
      obtain ⟨ft, fp⟩ := f
      obtain ⟨gt, gp⟩ := g
      try simp only [go_sem, Nat.reduceLT, Nat.reduceEqDiff, Nat.reduceAdd, Nat.reduceSub, Nat.reduceMul, Nat.reduceLeDiff, reduceIte, reduceCtorEq, Int.lt_irrefl, Nat.reduceMod, Nat.reduceBEq, eq_self, false_and, and_false, hfi, hgi, Int.natCast_nonneg]
      refine gd_f (fun h1 => ?_) (fun h1 => ?_)
      · try simp only [go_sem, Nat.reduceLT, Nat.reduceEqDiff, Nat.reduceAdd, Nat.reduceSub, Nat.reduceMul, Nat.reduceLeDiff, reduceIte, reduceCtorEq, Int.lt_irrefl, Nat.reduceMod, Nat.reduceBEq, eq_self, false_and, and_false, h1]
        refine key true _ ?_ ?_
        · have : ft ≠ gt := by simpa using h1
          simp [this]
        · exact (wk_to (wk_kp [55, 2, 3, 5] [0, 1] (by simp) (by simp) rfl) (by simp only [go_sem, Nat.reduceLT, Nat.reduceEqDiff, Nat.reduceAdd, Nat.reduceSub, Nat.reduceMul, Nat.reduceLeDiff, reduceIte, reduceCtorEq, Int.lt_irrefl, Nat.reduceMod, Nat.reduceBEq, eq_self, false_and, and_false, hW _]))
      try simp only [go_sem, Nat.reduceLT, Nat.reduceEqDiff, Nat.reduceAdd, Nat.reduceSub, Nat.reduceMul, Nat.reduceLeDiff, reduceIte, reduceCtorEq, Int.lt_irrefl, Nat.reduceMod, Nat.reduceBEq, eq_self, false_and, and_false, h1, hfi, hgi, Int.natCast_nonneg]
      refine ⟨_, [], [], PureE.toS (SamePuts_spec fp gp), by simp, by simp, ?_⟩
      try simp only [go_sem, Nat.reduceLT, Nat.reduceEqDiff, Nat.reduceAdd, Nat.reduceSub, Nat.reduceMul, Nat.reduceLeDiff, reduceIte, reduceCtorEq, Int.lt_irrefl, Nat.reduceMod, Nat.reduceBEq, eq_self, false_and, and_false, h1]
      refine key (!decide (fp = gp)) _ ?_ ?_
      · have : ft = gt := by simpa using h1
        simp [this]
      · exact (wk_to (wk_kp [55, 2, 3, 5] [0, 1] (by simp) (by simp) rfl) (by simp only [go_sem, Nat.reduceLT, Nat.reduceEqDiff, Nat.reduceAdd, Nat.reduceSub, Nat.reduceMul, Nat.reduceLeDiff, reduceIte, reduceCtorEq, Int.lt_irrefl, Nat.reduceMod, Nat.reduceBEq, eq_self, false_and, and_false, hW _]))
    · have hlt : i = fr.length := by
        have : ¬ i < fr.length := by simpa using h
        omega
      subst hlt
      have : fr = gr := by
        rw [List.take_length] at hp
        rw [hp, hl, List.take_length]
      refine wpA_exit ?_
      repeat refine wpA_seq ?_
      refine wpA_reg hT hE fun K hK => ?_
      simp only [go_sem, Nat.reduceLT, Nat.reduceEqDiff, Nat.reduceAdd, Nat.reduceSub, Nat.reduceMul, Nat.reduceLeDiff, reduceIte, reduceCtorEq, Int.lt_irrefl, Nat.reduceMod, Nat.reduceBEq, eq_self, false_and, and_false]
      refine hK _ _ ?_; clear hK K
      refine wpA_ret (fin_pure (.inl rfl) rfl (by simp only [go_sem, Nat.reduceLT, Nat.reduceEqDiff, Nat.reduceAdd, Nat.reduceSub, Nat.reduceMul, Nat.reduceLeDiff, reduceIte, reduceCtorEq, Int.lt_irrefl, Nat.reduceMod, Nat.reduceBEq, eq_self, false_and, and_false]; rfl) ?_ (hW _))
      simp only [go_sem, Nat.reduceLT, Nat.reduceEqDiff, Nat.reduceAdd, Nat.reduceSub, Nat.reduceMul, Nat.reduceLeDiff, reduceIte, reduceCtorEq, Int.lt_irrefl, Nat.reduceMod, Nat.reduceBEq, eq_self, false_and, and_false]
      simp [this]
end Go.Proofs.Ythlmfkeeneeaoaa

namespace Go.Proofs.Ythlmfkeeneeaoaa
open Go Go.Av

/-! closures that compare one number of a placement -/
theorem ptr_cl {id : Nat} {o : AObj} (F : Hp) (b : Nat) (h : ∀ q ∈ [(id, o)], F q.1 = some q.2) (ht : topF F b) (σ : List Nat) : subL (pl1 σ b) [.ptr id 0] = [.ptr id 0] := by
  have h1 := some_lt ht (h (id, o) (by simp))
  have h2 : id < b := h1
  simp [subL, AVal.sub, pl1, rid, h2]

theorem RanC_spec (id : Nat) (v : Int) : PredE Try.prog 38 [.ptr id 0] [(id, .blk 3 [.v (.int .i64 v)])] aPut (fun p => p.vcpu == v) := by
  refine ⟨fun p => ?_, fun F b h ht σ => ptr_cl F b h ht σ⟩
  intro F b hn
  refine callE_of hT (fn := Try.f38) rfl rfl rfl (by simp [fnt]) (by simp) fun htop hW => ?_
  have hl : ∀ L, hpF F b L id = some (.blk 3 [.v (.int .i64 v)]) := fun L => need_hp htop hn (id, _) (by simp)
  repeat' (first
    | refine wpA_seq ?_
    | refine wpA_skip ?_
    | (refine wpA_exit ?_)
    | (refine hK _ _ ?_; clear hK K)
    | (refine hK _ _ rfl ?_; clear hK K)
    | (refine wpA_reg hT hE fun K hK => ?_; simp only [go_sem, Nat.reduceLT, Nat.reduceEqDiff, Nat.reduceAdd, Nat.reduceSub, Nat.reduceMul, Nat.reduceLeDiff, reduceIte, reduceCtorEq, Int.lt_irrefl, Nat.reduceMod, Nat.reduceBEq, eq_self, false_and, and_false, hl])
    | (refine wpA_drw hT hE hmix (by kernel_rfl) fun K hK => ?_; simp only [go_sem, Nat.reduceLT, Nat.reduceEqDiff, Nat.reduceAdd, Nat.reduceSub, Nat.reduceMul, Nat.reduceLeDiff, reduceIte, reduceCtorEq, Int.lt_irrefl, Nat.reduceMod, Nat.reduceBEq, eq_self, false_and, and_false, hl])
    | (refine gd_t (fun h => ?_) (fun h => ?_) <;> (try simp only [h, go_sem, Nat.reduceLT, Nat.reduceEqDiff, Nat.reduceAdd, Nat.reduceSub, Nat.reduceMul, Nat.reduceLeDiff, reduceIte, reduceCtorEq, Int.lt_irrefl, Nat.reduceMod, Nat.reduceBEq, eq_self, false_and, and_false, hl]))
    | (refine gd_f (fun h => ?_) (fun h => ?_) <;> (try simp only [h, go_sem, Nat.reduceLT, Nat.reduceEqDiff, Nat.reduceAdd, Nat.reduceSub, Nat.reduceMul, Nat.reduceLeDiff, reduceIte, reduceCtorEq, Int.lt_irrefl, Nat.reduceMod, Nat.reduceBEq, eq_self, false_and, and_false, hl]))
    | refine wpA_block ?_
    | (refine wpA_cond rfl (fun h => ?_) (fun h => ?_) <;> (try (cases h; done)))
    | (refine wpA_ret (fin_pure (.inl rfl) rfl (by simp only [go_sem, Nat.reduceLT, Nat.reduceEqDiff, Nat.reduceAdd, Nat.reduceSub, Nat.reduceMul, Nat.reduceLeDiff, reduceIte, reduceCtorEq, Int.lt_irrefl, Nat.reduceMod, Nat.reduceBEq, eq_self, false_and, and_false, hl]; rfl) ?_ (hW _)); (try simp only [go_sem, Nat.reduceLT, Nat.reduceEqDiff, Nat.reduceAdd, Nat.reduceSub, Nat.reduceMul, Nat.reduceLeDiff, reduceIte, reduceCtorEq, Int.lt_irrefl, Nat.reduceMod, Nat.reduceBEq, eq_self, false_and, and_false, hl]))
    | (refine wpA_ret (fin_pureM (.inl rfl) (by simp only [go_sem, Nat.reduceLT, Nat.reduceEqDiff, Nat.reduceAdd, Nat.reduceSub, Nat.reduceMul, Nat.reduceLeDiff, reduceIte, reduceCtorEq, Int.lt_irrefl, Nat.reduceMod, Nat.reduceBEq, eq_self, false_and, and_false]) (by simp only [go_sem, Nat.reduceLT, Nat.reduceEqDiff, Nat.reduceAdd, Nat.reduceSub, Nat.reduceMul, Nat.reduceLeDiff, reduceIte, reduceCtorEq, Int.lt_irrefl, Nat.reduceMod, Nat.reduceBEq, eq_self, false_and, and_false, hl]; rfl) ?_ (hW _)); (try simp only [go_sem, Nat.reduceLT, Nat.reduceEqDiff, Nat.reduceAdd, Nat.reduceSub, Nat.reduceMul, Nat.reduceLeDiff, reduceIte, reduceCtorEq, Int.lt_irrefl, Nat.reduceMod, Nat.reduceBEq, eq_self, false_and, and_false, hl]))
    | fail)
theorem BusyC_spec (id : Nat) (v : Int) : PredE Try.prog 40 [.ptr id 0] [(id, .blk 3 [.v (.int .i64 v)])] aPut (fun p => p.cpu == v) := by
  refine ⟨fun p => ?_, fun F b h ht σ => ptr_cl F b h ht σ⟩
  intro F b hn
  refine callE_of hT (fn := Try.f40) rfl rfl rfl (by simp [fnt]) (by simp) fun htop hW => ?_
  have hl : ∀ L, hpF F b L id = some (.blk 3 [.v (.int .i64 v)]) := fun L => need_hp htop hn (id, _) (by simp)
  repeat' (first
    | refine wpA_seq ?_
    | refine wpA_skip ?_
    | (refine wpA_exit ?_)
    | (refine hK _ _ ?_; clear hK K)
    | (refine hK _ _ rfl ?_; clear hK K)
    | (refine wpA_reg hT hE fun K hK => ?_; simp only [go_sem, Nat.reduceLT, Nat.reduceEqDiff, Nat.reduceAdd, Nat.reduceSub, Nat.reduceMul, Nat.reduceLeDiff, reduceIte, reduceCtorEq, Int.lt_irrefl, Nat.reduceMod, Nat.reduceBEq, eq_self, false_and, and_false, hl])
    | (refine wpA_drw hT hE hmix (by kernel_rfl) fun K hK => ?_; simp only [go_sem, Nat.reduceLT, Nat.reduceEqDiff, Nat.reduceAdd, Nat.reduceSub, Nat.reduceMul, Nat.reduceLeDiff, reduceIte, reduceCtorEq, Int.lt_irrefl, Nat.reduceMod, Nat.reduceBEq, eq_self, false_and, and_false, hl])
    | (refine gd_t (fun h => ?_) (fun h => ?_) <;> (try simp only [h, go_sem, Nat.reduceLT, Nat.reduceEqDiff, Nat.reduceAdd, Nat.reduceSub, Nat.reduceMul, Nat.reduceLeDiff, reduceIte, reduceCtorEq, Int.lt_irrefl, Nat.reduceMod, Nat.reduceBEq, eq_self, false_and, and_false, hl]))
    | (refine gd_f (fun h => ?_) (fun h => ?_) <;> (try simp only [h, go_sem, Nat.reduceLT, Nat.reduceEqDiff, Nat.reduceAdd, Nat.reduceSub, Nat.reduceMul, Nat.reduceLeDiff, reduceIte, reduceCtorEq, Int.lt_irrefl, Nat.reduceMod, Nat.reduceBEq, eq_self, false_and, and_false, hl]))
    | refine wpA_block ?_
    | (refine wpA_cond rfl (fun h => ?_) (fun h => ?_) <;> (try (cases h; done)))
    | (refine wpA_ret (fin_pure (.inl rfl) rfl (by simp only [go_sem, Nat.reduceLT, Nat.reduceEqDiff, Nat.reduceAdd, Nat.reduceSub, Nat.reduceMul, Nat.reduceLeDiff, reduceIte, reduceCtorEq, Int.lt_irrefl, Nat.reduceMod, Nat.reduceBEq, eq_self, false_and, and_false, hl]; rfl) ?_ (hW _)); (try simp only [go_sem, Nat.reduceLT, Nat.reduceEqDiff, Nat.reduceAdd, Nat.reduceSub, Nat.reduceMul, Nat.reduceLeDiff, reduceIte, reduceCtorEq, Int.lt_irrefl, Nat.reduceMod, Nat.reduceBEq, eq_self, false_and, and_false, hl]))
    | (refine wpA_ret (fin_pureM (.inl rfl) (by simp only [go_sem, Nat.reduceLT, Nat.reduceEqDiff, Nat.reduceAdd, Nat.reduceSub, Nat.reduceMul, Nat.reduceLeDiff, reduceIte, reduceCtorEq, Int.lt_irrefl, Nat.reduceMod, Nat.reduceBEq, eq_self, false_and, and_false]) (by simp only [go_sem, Nat.reduceLT, Nat.reduceEqDiff, Nat.reduceAdd, Nat.reduceSub, Nat.reduceMul, Nat.reduceLeDiff, reduceIte, reduceCtorEq, Int.lt_irrefl, Nat.reduceMod, Nat.reduceBEq, eq_self, false_and, and_false, hl]; rfl) ?_ (hW _)); (try simp only [go_sem, Nat.reduceLT, Nat.reduceEqDiff, Nat.reduceAdd, Nat.reduceSub, Nat.reduceMul, Nat.reduceLeDiff, reduceIte, reduceCtorEq, Int.lt_irrefl, Nat.reduceMod, Nat.reduceBEq, eq_self, false_and, and_false, hl]))
    | fail)
theorem IndexFunc_spec (l : List Put) (g : FuncId) (caps : List AVal) (need : List (Nat × AObj)) (p : Put → Bool) (hp0 : PredE Try.prog g caps need aPut p) :
    PureE Try.prog 49 [.sl (l.map aPut), .fn (.func g) caps] need (.v (.int .i64 (idxF p l))) := by
  intro F b hn
  refine callE_of hT (fn := Try.f49) rfl rfl rfl (by simp [fnt]) (by simp) fun htop hW => ?_
  have hcl := hp0.cl F b hn htop
  refine wpA_bound 0 (l.map aPut) rfl fun hlen => ?_
  rw [List.length_map] at hlen
  repeat' (first
    | refine wpA_seq ?_
    | refine wpA_skip ?_
    | (refine wpA_exit ?_)
    | (refine hK _ _ ?_; clear hK K)
    | (refine hK _ _ rfl ?_; clear hK K)
    | (refine wpA_reg hT hE fun K hK => ?_; simp only [go_sem, Nat.reduceLT, Nat.reduceEqDiff, Nat.reduceAdd, Nat.reduceSub, Nat.reduceMul, Nat.reduceLeDiff, reduceIte, reduceCtorEq, Int.lt_irrefl, Nat.reduceMod, Nat.reduceBEq, eq_self, false_and, and_false])
    | (refine wpA_drw hT hE hmix (by kernel_rfl) fun K hK => ?_; simp only [go_sem, Nat.reduceLT, Nat.reduceEqDiff, Nat.reduceAdd, Nat.reduceSub, Nat.reduceMul, Nat.reduceLeDiff, reduceIte, reduceCtorEq, Int.lt_irrefl, Nat.reduceMod, Nat.reduceBEq, eq_self, false_and, and_false])
    | (refine gd_t (fun h => ?_) (fun h => ?_) <;> (try simp only [h, go_sem, Nat.reduceLT, Nat.reduceEqDiff, Nat.reduceAdd, Nat.reduceSub, Nat.reduceMul, Nat.reduceLeDiff, reduceIte, reduceCtorEq, Int.lt_irrefl, Nat.reduceMod, Nat.reduceBEq, eq_self, false_and, and_false]))
    | (refine gd_f (fun h => ?_) (fun h => ?_) <;> (try simp only [h, go_sem, Nat.reduceLT, Nat.reduceEqDiff, Nat.reduceAdd, Nat.reduceSub, Nat.reduceMul, Nat.reduceLeDiff, reduceIte, reduceCtorEq, Int.lt_irrefl, Nat.reduceMod, Nat.reduceBEq, eq_self, false_and, and_false]))
    | refine wpA_block ?_
    | (refine wpA_cond rfl (fun h => ?_) (fun h => ?_) <;> (try (cases h; done)))
    | (refine wpA_ret (fin_pure (.inl rfl) rfl (by simp only [go_sem, Nat.reduceLT, Nat.reduceEqDiff, Nat.reduceAdd, Nat.reduceSub, Nat.reduceMul, Nat.reduceLeDiff, reduceIte, reduceCtorEq, Int.lt_irrefl, Nat.reduceMod, Nat.reduceBEq, eq_self, false_and, and_false]; rfl) ?_ (hW _)); (try simp only [go_sem, Nat.reduceLT, Nat.reduceEqDiff, Nat.reduceAdd, Nat.reduceSub, Nat.reduceMul, Nat.reduceLeDiff, reduceIte, reduceCtorEq, Int.lt_irrefl, Nat.reduceMod, Nat.reduceBEq, eq_self, false_and, and_false]))
    | (refine wpA_ret (fin_pureM (.inl rfl) (by simp only [go_sem, Nat.reduceLT, Nat.reduceEqDiff, Nat.reduceAdd, Nat.reduceSub, Nat.reduceMul, Nat.reduceLeDiff, reduceIte, reduceCtorEq, Int.lt_irrefl, Nat.reduceMod, Nat.reduceBEq, eq_self, false_and, and_false]) (by simp only [go_sem, Nat.reduceLT, Nat.reduceEqDiff, Nat.reduceAdd, Nat.reduceSub, Nat.reduceMul, Nat.reduceLeDiff, reduceIte, reduceCtorEq, Int.lt_irrefl, Nat.reduceMod, Nat.reduceBEq, eq_self, false_and, and_false]; rfl) ?_ (hW _)); (try simp only [go_sem, Nat.reduceLT, Nat.reduceEqDiff, Nat.reduceAdd, Nat.reduceSub, Nat.reduceMul, Nat.reduceLeDiff, reduceIte, reduceCtorEq, Int.lt_irrefl, Nat.reduceMod, Nat.reduceBEq, eq_self, false_and, and_false]))
    | fail)
  refine wpA_kp [0, 1, 7, 8] [] (by simp) (by simp) rfl fun K hK => ?_
  try simp only [go_sem, Nat.reduceLT, Nat.reduceEqDiff, Nat.reduceAdd, Nat.reduceSub, Nat.reduceMul, Nat.reduceLeDiff, reduceIte, reduceCtorEq, Int.lt_irrefl, Nat.reduceMod, Nat.reduceBEq, eq_self, false_and, and_false, hW _, hcl]
  refine hK _ ?_; clear hK K
  refine wpA_for l.length (fun i => { tm := [(0, .sl (l.map aPut)), (1, .fn (.func g) caps), (7, .v (.int .i64 l.length)), (8, .v (.int .i64 i))], F := F, L := [], ds := [] }) (fun i => ∀ x ∈ l.take i, p x = false) rfl (by simp) ?_ ?_
  · intro i hi hp
    obtain ⟨x, hx, hdrop, htake⟩ := get_of_lt hi
    have hi' : ((i : Int) < l.length) := by omega
    repeat' (first
      | refine wpA_seq ?_
      | refine wpA_skip ?_
      | (refine wpA_exit ?_)
      | (refine hK _ _ ?_; clear hK K)
      | (refine hK _ _ rfl ?_; clear hK K)
      | (refine wpA_reg hT hE fun K hK => ?_; simp only [go_sem, Nat.reduceLT, Nat.reduceEqDiff, Nat.reduceAdd, Nat.reduceSub, Nat.reduceMul, Nat.reduceLeDiff, reduceIte, reduceCtorEq, Int.lt_irrefl, Nat.reduceMod, Nat.reduceBEq, eq_self, false_and, and_false, hx, Int.natCast_nonneg, hi'])
      | (refine wpA_drw hT hE hmix (by kernel_rfl) fun K hK => ?_; simp only [go_sem, Nat.reduceLT, Nat.reduceEqDiff, Nat.reduceAdd, Nat.reduceSub, Nat.reduceMul, Nat.reduceLeDiff, reduceIte, reduceCtorEq, Int.lt_irrefl, Nat.reduceMod, Nat.reduceBEq, eq_self, false_and, and_false, hx, Int.natCast_nonneg, hi'])
      | (refine gd_t (fun h => ?_) (fun h => ?_) <;> (try simp only [h, go_sem, Nat.reduceLT, Nat.reduceEqDiff, Nat.reduceAdd, Nat.reduceSub, Nat.reduceMul, Nat.reduceLeDiff, reduceIte, reduceCtorEq, Int.lt_irrefl, Nat.reduceMod, Nat.reduceBEq, eq_self, false_and, and_false, hx, Int.natCast_nonneg, hi']))
      | (refine gd_f (fun h => ?_) (fun h => ?_) <;> (try simp only [h, go_sem, Nat.reduceLT, Nat.reduceEqDiff, Nat.reduceAdd, Nat.reduceSub, Nat.reduceMul, Nat.reduceLeDiff, reduceIte, reduceCtorEq, Int.lt_irrefl, Nat.reduceMod, Nat.reduceBEq, eq_self, false_and, and_false, hx, Int.natCast_nonneg, hi']))
      | refine wpA_block ?_
      | (refine wpA_cond rfl (fun h => ?_) (fun h => ?_) <;> (try (cases h; done)))
      | (refine wpA_ret (fin_pure (.inl rfl) rfl (by simp only [go_sem, Nat.reduceLT, Nat.reduceEqDiff, Nat.reduceAdd, Nat.reduceSub, Nat.reduceMul, Nat.reduceLeDiff, reduceIte, reduceCtorEq, Int.lt_irrefl, Nat.reduceMod, Nat.reduceBEq, eq_self, false_and, and_false, hx, Int.natCast_nonneg, hi']; rfl) ?_ (hW _)); (try simp only [go_sem, Nat.reduceLT, Nat.reduceEqDiff, Nat.reduceAdd, Nat.reduceSub, Nat.reduceMul, Nat.reduceLeDiff, reduceIte, reduceCtorEq, Int.lt_irrefl, Nat.reduceMod, Nat.reduceBEq, eq_self, false_and, and_false, hx, Int.natCast_nonneg, hi']))
      | (refine wpA_ret (fin_pureM (.inl rfl) (by simp only [go_sem, Nat.reduceLT, Nat.reduceEqDiff, Nat.reduceAdd, Nat.reduceSub, Nat.reduceMul, Nat.reduceLeDiff, reduceIte, reduceCtorEq, Int.lt_irrefl, Nat.reduceMod, Nat.reduceBEq, eq_self, false_and, and_false]) (by simp only [go_sem, Nat.reduceLT, Nat.reduceEqDiff, Nat.reduceAdd, Nat.reduceSub, Nat.reduceMul, Nat.reduceLeDiff, reduceIte, reduceCtorEq, Int.lt_irrefl, Nat.reduceMod, Nat.reduceBEq, eq_self, false_and, and_false, hx, Int.natCast_nonneg, hi']; rfl) ?_ (hW _)); (try simp only [go_sem, Nat.reduceLT, Nat.reduceEqDiff, Nat.reduceAdd, Nat.reduceSub, Nat.reduceMul, Nat.reduceLeDiff, reduceIte, reduceCtorEq, Int.lt_irrefl, Nat.reduceMod, Nat.reduceBEq, eq_self, false_and, and_false, hx, Int.natCast_nonneg, hi']))
      | (refine ⟨_, [], [], PureE.call (hp0.run x) (by first | (simp; done) | (simp [hpF_add, hpF_lo]; done) | exact need_hp htop hn | exact need_hp2 htop hn), ?_⟩; (try simp only [go_sem, Nat.reduceLT, Nat.reduceEqDiff, Nat.reduceAdd, Nat.reduceSub, Nat.reduceMul, Nat.reduceLeDiff, reduceIte, reduceCtorEq, Int.lt_irrefl, Nat.reduceMod, Nat.reduceBEq, eq_self, false_and, and_false, hx, Int.natCast_nonneg, hi']))
      | (refine ⟨_, _, [], PureE.toS (hp0.run x), by first | (simp; done) | (simp [hpF_add, hpF_lo]; done) | exact need_hp htop hn | exact need_hp2 htop hn, by simp, ?_⟩; (try simp only [go_sem, Nat.reduceLT, Nat.reduceEqDiff, Nat.reduceAdd, Nat.reduceSub, Nat.reduceMul, Nat.reduceLeDiff, reduceIte, reduceCtorEq, Int.lt_irrefl, Nat.reduceMod, Nat.reduceBEq, eq_self, false_and, and_false, hx, Int.natCast_nonneg, hi']))
      | fail)
    · rw [idxF_some hx h hp]
    · refine ⟨wk_to (wk_kp [0, 1, 7, 8] [] (by simp) (by simp) rfl) (by simp only [go_sem, Nat.reduceLT, Nat.reduceEqDiff, Nat.reduceAdd, Nat.reduceSub, Nat.reduceMul, Nat.reduceLeDiff, reduceIte, reduceCtorEq, Int.lt_irrefl, Nat.reduceMod, Nat.reduceBEq, eq_self, false_and, and_false, hW _,  hcl, wrap1 hi hlen]), ?_⟩
      exact all_take hx hp h
  · intro hp
    repeat' (first
      | refine wpA_seq ?_
      | refine wpA_skip ?_
      | (refine wpA_exit ?_)
      | (refine hK _ _ ?_; clear hK K)
      | (refine hK _ _ rfl ?_; clear hK K)
      | (refine wpA_reg hT hE fun K hK => ?_; simp only [go_sem, Nat.reduceLT, Nat.reduceEqDiff, Nat.reduceAdd, Nat.reduceSub, Nat.reduceMul, Nat.reduceLeDiff, reduceIte, reduceCtorEq, Int.lt_irrefl, Nat.reduceMod, Nat.reduceBEq, eq_self, false_and, and_false])
      | (refine wpA_drw hT hE hmix (by kernel_rfl) fun K hK => ?_; simp only [go_sem, Nat.reduceLT, Nat.reduceEqDiff, Nat.reduceAdd, Nat.reduceSub, Nat.reduceMul, Nat.reduceLeDiff, reduceIte, reduceCtorEq, Int.lt_irrefl, Nat.reduceMod, Nat.reduceBEq, eq_self, false_and, and_false])
      | (refine gd_t (fun h => ?_) (fun h => ?_) <;> (try simp only [h, go_sem, Nat.reduceLT, Nat.reduceEqDiff, Nat.reduceAdd, Nat.reduceSub, Nat.reduceMul, Nat.reduceLeDiff, reduceIte, reduceCtorEq, Int.lt_irrefl, Nat.reduceMod, Nat.reduceBEq, eq_self, false_and, and_false]))
      | (refine gd_f (fun h => ?_) (fun h => ?_) <;> (try simp only [h, go_sem, Nat.reduceLT, Nat.reduceEqDiff, Nat.reduceAdd, Nat.reduceSub, Nat.reduceMul, Nat.reduceLeDiff, reduceIte, reduceCtorEq, Int.lt_irrefl, Nat.reduceMod, Nat.reduceBEq, eq_self, false_and, and_false]))
      | refine wpA_block ?_
      | (refine wpA_cond rfl (fun h => ?_) (fun h => ?_) <;> (try (cases h; done)))
      | (refine wpA_ret (fin_pure (.inl rfl) rfl (by simp only [go_sem, Nat.reduceLT, Nat.reduceEqDiff, Nat.reduceAdd, Nat.reduceSub, Nat.reduceMul, Nat.reduceLeDiff, reduceIte, reduceCtorEq, Int.lt_irrefl, Nat.reduceMod, Nat.reduceBEq, eq_self, false_and, and_false]; rfl) ?_ (hW _)); (try simp only [go_sem, Nat.reduceLT, Nat.reduceEqDiff, Nat.reduceAdd, Nat.reduceSub, Nat.reduceMul, Nat.reduceLeDiff, reduceIte, reduceCtorEq, Int.lt_irrefl, Nat.reduceMod, Nat.reduceBEq, eq_self, false_and, and_false]))
      | (refine wpA_ret (fin_pureM (.inl rfl) (by simp only [go_sem, Nat.reduceLT, Nat.reduceEqDiff, Nat.reduceAdd, Nat.reduceSub, Nat.reduceMul, Nat.reduceLeDiff, reduceIte, reduceCtorEq, Int.lt_irrefl, Nat.reduceMod, Nat.reduceBEq, eq_self, false_and, and_false]) (by simp only [go_sem, Nat.reduceLT, Nat.reduceEqDiff, Nat.reduceAdd, Nat.reduceSub, Nat.reduceMul, Nat.reduceLeDiff, reduceIte, reduceCtorEq, Int.lt_irrefl, Nat.reduceMod, Nat.reduceBEq, eq_self, false_and, and_false]; rfl) ?_ (hW _)); (try simp only [go_sem, Nat.reduceLT, Nat.reduceEqDiff, Nat.reduceAdd, Nat.reduceSub, Nat.reduceMul, Nat.reduceLeDiff, reduceIte, reduceCtorEq, Int.lt_irrefl, Nat.reduceMod, Nat.reduceBEq, eq_self, false_and, and_false]))
      | fail)
    rw [List.take_length] at hp
    rw [idxF_none hp]

theorem ContainsFunc_spec (l : List Put) (g : FuncId) (caps : List AVal) (need : List (Nat × AObj)) (p : Put → Bool) (hp0 : PredE Try.prog g caps need aPut p) :
    PureE Try.prog 47 [.sl (l.map aPut), .fn (.func g) caps] need (.v (.bool (l.any p))) := by
  intro F b hn
  refine callE_of hT (fn := Try.f47) rfl rfl rfl (by simp [fnt]) (by simp) fun htop hW => ?_
  repeat' (first
    | refine wpA_seq ?_
    | refine wpA_skip ?_
    | (refine wpA_exit ?_)
    | (refine hK _ _ ?_; clear hK K)
    | (refine hK _ _ rfl ?_; clear hK K)
    | (refine wpA_reg hT hE fun K hK => ?_; simp only [go_sem, Nat.reduceLT, Nat.reduceEqDiff, Nat.reduceAdd, Nat.reduceSub, Nat.reduceMul, Nat.reduceLeDiff, reduceIte, reduceCtorEq, Int.lt_irrefl, Nat.reduceMod, Nat.reduceBEq, eq_self, false_and, and_false])
    | (refine wpA_drw hT hE hmix (by kernel_rfl) fun K hK => ?_; simp only [go_sem, Nat.reduceLT, Nat.reduceEqDiff, Nat.reduceAdd, Nat.reduceSub, Nat.reduceMul, Nat.reduceLeDiff, reduceIte, reduceCtorEq, Int.lt_irrefl, Nat.reduceMod, Nat.reduceBEq, eq_self, false_and, and_false])
    | (refine gd_t (fun h => ?_) (fun h => ?_) <;> (try simp only [h, go_sem, Nat.reduceLT, Nat.reduceEqDiff, Nat.reduceAdd, Nat.reduceSub, Nat.reduceMul, Nat.reduceLeDiff, reduceIte, reduceCtorEq, Int.lt_irrefl, Nat.reduceMod, Nat.reduceBEq, eq_self, false_and, and_false]))
    | (refine gd_f (fun h => ?_) (fun h => ?_) <;> (try simp only [h, go_sem, Nat.reduceLT, Nat.reduceEqDiff, Nat.reduceAdd, Nat.reduceSub, Nat.reduceMul, Nat.reduceLeDiff, reduceIte, reduceCtorEq, Int.lt_irrefl, Nat.reduceMod, Nat.reduceBEq, eq_self, false_and, and_false]))
    | refine wpA_block ?_
    | (refine wpA_cond rfl (fun h => ?_) (fun h => ?_) <;> (try (cases h; done)))
    | (refine wpA_ret (fin_pure (.inl rfl) rfl (by simp only [go_sem, Nat.reduceLT, Nat.reduceEqDiff, Nat.reduceAdd, Nat.reduceSub, Nat.reduceMul, Nat.reduceLeDiff, reduceIte, reduceCtorEq, Int.lt_irrefl, Nat.reduceMod, Nat.reduceBEq, eq_self, false_and, and_false]; rfl) ?_ (hW _)); (try simp only [go_sem, Nat.reduceLT, Nat.reduceEqDiff, Nat.reduceAdd, Nat.reduceSub, Nat.reduceMul, Nat.reduceLeDiff, reduceIte, reduceCtorEq, Int.lt_irrefl, Nat.reduceMod, Nat.reduceBEq, eq_self, false_and, and_false]))
    | (refine wpA_ret (fin_pureM (.inl rfl) (by simp only [go_sem, Nat.reduceLT, Nat.reduceEqDiff, Nat.reduceAdd, Nat.reduceSub, Nat.reduceMul, Nat.reduceLeDiff, reduceIte, reduceCtorEq, Int.lt_irrefl, Nat.reduceMod, Nat.reduceBEq, eq_self, false_and, and_false]) (by simp only [go_sem, Nat.reduceLT, Nat.reduceEqDiff, Nat.reduceAdd, Nat.reduceSub, Nat.reduceMul, Nat.reduceLeDiff, reduceIte, reduceCtorEq, Int.lt_irrefl, Nat.reduceMod, Nat.reduceBEq, eq_self, false_and, and_false]; rfl) ?_ (hW _)); (try simp only [go_sem, Nat.reduceLT, Nat.reduceEqDiff, Nat.reduceAdd, Nat.reduceSub, Nat.reduceMul, Nat.reduceLeDiff, reduceIte, reduceCtorEq, Int.lt_irrefl, Nat.reduceMod, Nat.reduceBEq, eq_self, false_and, and_false]))
    | (refine ⟨_, [], [], PureE.call (IndexFunc_spec l g caps need p hp0) (by first | (simp; done) | (simp [hpF_add, hpF_lo]; done) | exact need_hp htop hn | exact need_hp2 htop hn), ?_⟩; (try simp only [go_sem, Nat.reduceLT, Nat.reduceEqDiff, Nat.reduceAdd, Nat.reduceSub, Nat.reduceMul, Nat.reduceLeDiff, reduceIte, reduceCtorEq, Int.lt_irrefl, Nat.reduceMod, Nat.reduceBEq, eq_self, false_and, and_false]))
    | (refine ⟨_, _, [], PureE.toS (IndexFunc_spec l g caps need p hp0), by first | (simp; done) | (simp [hpF_add, hpF_lo]; done) | exact need_hp htop hn | exact need_hp2 htop hn, by simp, ?_⟩; (try simp only [go_sem, Nat.reduceLT, Nat.reduceEqDiff, Nat.reduceAdd, Nat.reduceSub, Nat.reduceMul, Nat.reduceLeDiff, reduceIte, reduceCtorEq, Int.lt_irrefl, Nat.reduceMod, Nat.reduceBEq, eq_self, false_and, and_false]))
    | fail)
  rw [idxF_nonneg]

/-! a copy of placements -/
theorem flatE_aPut (l : List Put) : flatE (l.map aPut) = true := flatE_map (fun _ => rfl) l
theorem flatE_aFrame (l : List Frame) : flatE (l.map aFrame) = true := flatE_map (fun _ => rfl) l
theorem flatE_aSpan (l : List Span) : flatE (l.map aSpan) = true := flatE_map (fun _ => rfl) l
theorem sizesOK_aPut (l : List Put) : sizesOK 2 (l.map aPut) = true := sizesOK_map (f := aPut) (fun _ => rfl) l
theorem sizesOK_aFrame (l : List Frame) : sizesOK 2 (l.map aFrame) = true := sizesOK_map (f := aFrame) (fun _ => rfl) l
theorem sizesOK_aSpan (l : List Span) : sizesOK 3 (l.map aSpan) = true := sizesOK_map (f := aSpan) (fun _ => rfl) l
attribute [go_sem] flatE_aPut flatE_aFrame flatE_aSpan sizesOK_aPut sizesOK_aFrame sizesOK_aSpan
theorem Clone_spec (l : List Put) (hlen : l.length ≤ 1000000) : PureE Try.prog 41 [.sl (l.map aPut)] [] (.sl (l.map aPut)) := by
  intro F b hn
  refine callE_of hT (fn := Try.f41) rfl rfl rfl (by simp [fnt]) (by simp) fun htop hW => ?_
  cases l with
  | nil =>
    refine wpA_nilS 0 rfl fun A k hk => ?_
    cases A with
    | none =>
      repeat' (first
        | refine wpA_seq ?_
        | refine wpA_skip ?_
        | (refine wpA_exit ?_)
        | (refine hK _ _ ?_; clear hK K)
        | (refine hK _ _ rfl ?_; clear hK K)
        | (refine wpA_reg hT hE fun K hK => ?_; simp only [go_sem, Nat.reduceLT, Nat.reduceEqDiff, Nat.reduceAdd, Nat.reduceSub, Nat.reduceMul, Nat.reduceLeDiff, reduceIte, reduceCtorEq, Int.lt_irrefl, Nat.reduceMod, Nat.reduceBEq, eq_self, false_and, and_false])
        | (refine wpA_drw hT hE hmix (by kernel_rfl) fun K hK => ?_; simp only [go_sem, Nat.reduceLT, Nat.reduceEqDiff, Nat.reduceAdd, Nat.reduceSub, Nat.reduceMul, Nat.reduceLeDiff, reduceIte, reduceCtorEq, Int.lt_irrefl, Nat.reduceMod, Nat.reduceBEq, eq_self, false_and, and_false])
        | (refine gd_t (fun h => ?_) (fun h => ?_) <;> (try simp only [h, go_sem, Nat.reduceLT, Nat.reduceEqDiff, Nat.reduceAdd, Nat.reduceSub, Nat.reduceMul, Nat.reduceLeDiff, reduceIte, reduceCtorEq, Int.lt_irrefl, Nat.reduceMod, Nat.reduceBEq, eq_self, false_and, and_false]))
        | (refine gd_f (fun h => ?_) (fun h => ?_) <;> (try simp only [h, go_sem, Nat.reduceLT, Nat.reduceEqDiff, Nat.reduceAdd, Nat.reduceSub, Nat.reduceMul, Nat.reduceLeDiff, reduceIte, reduceCtorEq, Int.lt_irrefl, Nat.reduceMod, Nat.reduceBEq, eq_self, false_and, and_false]))
        | refine wpA_block ?_
        | (refine wpA_cond rfl (fun h => ?_) (fun h => ?_) <;> (try (cases h; done)))
        | (refine wpA_ret (fin_pure (.inl rfl) rfl (by simp only [go_sem, Nat.reduceLT, Nat.reduceEqDiff, Nat.reduceAdd, Nat.reduceSub, Nat.reduceMul, Nat.reduceLeDiff, reduceIte, reduceCtorEq, Int.lt_irrefl, Nat.reduceMod, Nat.reduceBEq, eq_self, false_and, and_false]; rfl) ?_ (hW _)); (try simp only [go_sem, Nat.reduceLT, Nat.reduceEqDiff, Nat.reduceAdd, Nat.reduceSub, Nat.reduceMul, Nat.reduceLeDiff, reduceIte, reduceCtorEq, Int.lt_irrefl, Nat.reduceMod, Nat.reduceBEq, eq_self, false_and, and_false]))
        | (refine wpA_ret (fin_pureM (.inl rfl) (by simp only [go_sem, Nat.reduceLT, Nat.reduceEqDiff, Nat.reduceAdd, Nat.reduceSub, Nat.reduceMul, Nat.reduceLeDiff, reduceIte, reduceCtorEq, Int.lt_irrefl, Nat.reduceMod, Nat.reduceBEq, eq_self, false_and, and_false]) (by simp only [go_sem, Nat.reduceLT, Nat.reduceEqDiff, Nat.reduceAdd, Nat.reduceSub, Nat.reduceMul, Nat.reduceLeDiff, reduceIte, reduceCtorEq, Int.lt_irrefl, Nat.reduceMod, Nat.reduceBEq, eq_self, false_and, and_false]; rfl) ?_ (hW _)); (try simp only [go_sem, Nat.reduceLT, Nat.reduceEqDiff, Nat.reduceAdd, Nat.reduceSub, Nat.reduceMul, Nat.reduceLeDiff, reduceIte, reduceCtorEq, Int.lt_irrefl, Nat.reduceMod, Nat.reduceBEq, eq_self, false_and, and_false]))
        | fail)
    | some ad =>
      repeat' (first
        | refine wpA_seq ?_
        | refine wpA_skip ?_
        | (refine wpA_exit ?_)
        | (refine hK _ _ ?_; clear hK K)
        | (refine hK _ _ rfl ?_; clear hK K)
        | (refine wpA_reg hT hE fun K hK => ?_; simp only [go_sem, Nat.reduceLT, Nat.reduceEqDiff, Nat.reduceAdd, Nat.reduceSub, Nat.reduceMul, Nat.reduceLeDiff, reduceIte, reduceCtorEq, Int.lt_irrefl, Nat.reduceMod, Nat.reduceBEq, eq_self, false_and, and_false, hk, Option.isNone_some])
        | (refine wpA_drw hT hE hmix (by kernel_rfl) fun K hK => ?_; simp only [go_sem, Nat.reduceLT, Nat.reduceEqDiff, Nat.reduceAdd, Nat.reduceSub, Nat.reduceMul, Nat.reduceLeDiff, reduceIte, reduceCtorEq, Int.lt_irrefl, Nat.reduceMod, Nat.reduceBEq, eq_self, false_and, and_false, hk, Option.isNone_some])
        | (refine gd_t (fun h => ?_) (fun h => ?_) <;> (try simp only [h, go_sem, Nat.reduceLT, Nat.reduceEqDiff, Nat.reduceAdd, Nat.reduceSub, Nat.reduceMul, Nat.reduceLeDiff, reduceIte, reduceCtorEq, Int.lt_irrefl, Nat.reduceMod, Nat.reduceBEq, eq_self, false_and, and_false, hk, Option.isNone_some]))
        | (refine gd_f (fun h => ?_) (fun h => ?_) <;> (try simp only [h, go_sem, Nat.reduceLT, Nat.reduceEqDiff, Nat.reduceAdd, Nat.reduceSub, Nat.reduceMul, Nat.reduceLeDiff, reduceIte, reduceCtorEq, Int.lt_irrefl, Nat.reduceMod, Nat.reduceBEq, eq_self, false_and, and_false, hk, Option.isNone_some]))
        | refine wpA_block ?_
        | (refine wpA_fz 1 rfl ?_; simp only [go_sem, Nat.reduceLT, Nat.reduceEqDiff, Nat.reduceAdd, Nat.reduceSub, Nat.reduceMul, Nat.reduceLeDiff, reduceIte, reduceCtorEq, Int.lt_irrefl, Nat.reduceMod, Nat.reduceBEq, eq_self, false_and, and_false, hk, Option.isNone_some])
        | (refine wpA_cond rfl (fun h => ?_) (fun h => ?_) <;> (try (cases h; done)))
        | (refine wpA_ret (fin_pure (.inl rfl) rfl (by simp only [go_sem, Nat.reduceLT, Nat.reduceEqDiff, Nat.reduceAdd, Nat.reduceSub, Nat.reduceMul, Nat.reduceLeDiff, reduceIte, reduceCtorEq, Int.lt_irrefl, Nat.reduceMod, Nat.reduceBEq, eq_self, false_and, and_false, hk, Option.isNone_some]; rfl) ?_ (hW _)); (try simp only [go_sem, Nat.reduceLT, Nat.reduceEqDiff, Nat.reduceAdd, Nat.reduceSub, Nat.reduceMul, Nat.reduceLeDiff, reduceIte, reduceCtorEq, Int.lt_irrefl, Nat.reduceMod, Nat.reduceBEq, eq_self, false_and, and_false, hk, Option.isNone_some]))
        | (refine wpA_ret (fin_pureM (.inl rfl) (by simp only [go_sem, Nat.reduceLT, Nat.reduceEqDiff, Nat.reduceAdd, Nat.reduceSub, Nat.reduceMul, Nat.reduceLeDiff, reduceIte, reduceCtorEq, Int.lt_irrefl, Nat.reduceMod, Nat.reduceBEq, eq_self, false_and, and_false]) (by simp only [go_sem, Nat.reduceLT, Nat.reduceEqDiff, Nat.reduceAdd, Nat.reduceSub, Nat.reduceMul, Nat.reduceLeDiff, reduceIte, reduceCtorEq, Int.lt_irrefl, Nat.reduceMod, Nat.reduceBEq, eq_self, false_and, and_false, hk, Option.isNone_some]; rfl) ?_ (hW _)); (try simp only [go_sem, Nat.reduceLT, Nat.reduceEqDiff, Nat.reduceAdd, Nat.reduceSub, Nat.reduceMul, Nat.reduceLeDiff, reduceIte, reduceCtorEq, Int.lt_irrefl, Nat.reduceMod, Nat.reduceBEq, eq_self, false_and, and_false, hk, Option.isNone_some]))
        | fail)
  | cons x l =>
    simp only [List.length_cons] at hlen
    have h1 : (l.length + 1) * 16 ≤ 140737488355328 := by omega
    have h2 : l.length + 1 ≤ 9223372036854775807 := by omega
    repeat' (first
      | refine wpA_seq ?_
      | refine wpA_skip ?_
      | (refine wpA_exit ?_)
      | (refine hK _ _ ?_; clear hK K)
      | (refine hK _ _ rfl ?_; clear hK K)
      | (refine wpA_reg hT hE fun K hK => ?_; simp only [go_sem, Nat.reduceLT, Nat.reduceEqDiff, Nat.reduceAdd, Nat.reduceSub, Nat.reduceMul, Nat.reduceLeDiff, reduceIte, reduceCtorEq, Int.lt_irrefl, Nat.reduceMod, Nat.reduceBEq, eq_self, false_and, and_false, Nat.zero_add, h1, h2])
      | (refine wpA_drw hT hE hmix (by kernel_rfl) fun K hK => ?_; simp only [go_sem, Nat.reduceLT, Nat.reduceEqDiff, Nat.reduceAdd, Nat.reduceSub, Nat.reduceMul, Nat.reduceLeDiff, reduceIte, reduceCtorEq, Int.lt_irrefl, Nat.reduceMod, Nat.reduceBEq, eq_self, false_and, and_false, Nat.zero_add, h1, h2])
      | (refine gd_t (fun h => ?_) (fun h => ?_) <;> (try simp only [h, go_sem, Nat.reduceLT, Nat.reduceEqDiff, Nat.reduceAdd, Nat.reduceSub, Nat.reduceMul, Nat.reduceLeDiff, reduceIte, reduceCtorEq, Int.lt_irrefl, Nat.reduceMod, Nat.reduceBEq, eq_self, false_and, and_false, Nat.zero_add, h1, h2]))
      | (refine gd_f (fun h => ?_) (fun h => ?_) <;> (try simp only [h, go_sem, Nat.reduceLT, Nat.reduceEqDiff, Nat.reduceAdd, Nat.reduceSub, Nat.reduceMul, Nat.reduceLeDiff, reduceIte, reduceCtorEq, Int.lt_irrefl, Nat.reduceMod, Nat.reduceBEq, eq_self, false_and, and_false, Nat.zero_add, h1, h2]))
      | refine wpA_block ?_
      | (refine wpA_fz 1 rfl ?_; simp only [go_sem, Nat.reduceLT, Nat.reduceEqDiff, Nat.reduceAdd, Nat.reduceSub, Nat.reduceMul, Nat.reduceLeDiff, reduceIte, reduceCtorEq, Int.lt_irrefl, Nat.reduceMod, Nat.reduceBEq, eq_self, false_and, and_false, Nat.zero_add, h1, h2])
      | (refine wpA_cond rfl (fun h => ?_) (fun h => ?_) <;> (try (cases h; done)))
      | (refine wpA_ret (fin_pure (.inl rfl) rfl (by simp only [go_sem, Nat.reduceLT, Nat.reduceEqDiff, Nat.reduceAdd, Nat.reduceSub, Nat.reduceMul, Nat.reduceLeDiff, reduceIte, reduceCtorEq, Int.lt_irrefl, Nat.reduceMod, Nat.reduceBEq, eq_self, false_and, and_false, Nat.zero_add, h1, h2]; rfl) ?_ (hW _)); (try simp only [go_sem, Nat.reduceLT, Nat.reduceEqDiff, Nat.reduceAdd, Nat.reduceSub, Nat.reduceMul, Nat.reduceLeDiff, reduceIte, reduceCtorEq, Int.lt_irrefl, Nat.reduceMod, Nat.reduceBEq, eq_self, false_and, and_false, Nat.zero_add, h1, h2]))
      | (refine wpA_ret (fin_pureM (.inl rfl) (by simp only [go_sem, Nat.reduceLT, Nat.reduceEqDiff, Nat.reduceAdd, Nat.reduceSub, Nat.reduceMul, Nat.reduceLeDiff, reduceIte, reduceCtorEq, Int.lt_irrefl, Nat.reduceMod, Nat.reduceBEq, eq_self, false_and, and_false]) (by simp only [go_sem, Nat.reduceLT, Nat.reduceEqDiff, Nat.reduceAdd, Nat.reduceSub, Nat.reduceMul, Nat.reduceLeDiff, reduceIte, reduceCtorEq, Int.lt_irrefl, Nat.reduceMod, Nat.reduceBEq, eq_self, false_and, and_false, Nat.zero_add, h1, h2]; rfl) ?_ (hW _)); (try simp only [go_sem, Nat.reduceLT, Nat.reduceEqDiff, Nat.reduceAdd, Nat.reduceSub, Nat.reduceMul, Nat.reduceLeDiff, reduceIte, reduceCtorEq, Int.lt_irrefl, Nat.reduceMod, Nat.reduceBEq, eq_self, false_and, and_false, Nat.zero_add, h1, h2]))
      | fail)
end Go.Proofs.Ythlmfkeeneeaoaa

namespace Go.Proofs.Ythlmfkeeneeaoaa
open Go Go.Av

/-- When a frame ends. -/
def endT (t : Trace) (i : Nat) : Int := match t.frames[i + 1]? with | some f => f.time | none => t.fin
def ysT (t : Trace) (i : Nat) : List AVal := [aFrame (t.frames.getD i ⟨0, []⟩), .v (.int .i64 (endT t i))]
theorem ysT_eq {t : Trace} {i : Nat} {f : Frame} (h : t.frames[i]? = some f) : ysT t i = [aFrame f, .v (.int .i64 (endT t i))] := by
  rw [ysT, List.getD_eq_getElem?_getD, h]; rfl

theorem all1_iter (t : Trace) (id b : Nat) (hs : Nat → Hp) (Bs : Nat → AObj) (I : Nat → Prop) (X : Hp → AObj → Prop) (hh : ∀ i, hs i id = some (.blk 24 [.sl (t.frames.map aFrame), .v (.int .i64 t.fin)])) (htop : ∀ i, topF (hs i) b) :
    IterE Try.prog 48 [.ptr id 0] b t.frames.length (ysT t) hs Bs I X := by
  refine iterE_of hT (fn := Try.f48) rfl rfl rfl rfl (by simp [fnt]) fun l hy hwf hI0 => ?_
  have hid : id < b := some_lt (htop 0) (hh 0)
  have hW := hwf
  have hl : ∀ i L, hpF (hs i) b L id = some (.blk 24 [.sl (t.frames.map aFrame), .v (.int .i64 t.fin)]) := fun i L => (hpF_lt hid).trans (hh i)
  have hrid : ∀ σ, rid σ b id = some id := fun σ => by simp [rid, hid]
  refine wpA_boundC id (t.frames.map aFrame) (hl 0 _) (by simp) fun hlb => ?_
  rw [List.length_map] at hlb
  have hsubB : ∀ i, WF (b + 1) (hpF (hs i) b [Bs i]) → AObj.sub (pl1 [0] b) (Bs i) = Bs i := fun i h => (h.keep0 (htop i)).2
  repeat' (first
    | refine wpA_seq ?_
    | refine wpA_skip ?_
    | (refine wpA_exit ?_)
    | (refine hK _ _ ?_; clear hK K)
    | (refine hK _ _ rfl ?_; clear hK K)
    | (refine wpA_reg hT hE fun K hK => ?_; simp only [go_sem, Nat.reduceLT, Nat.reduceEqDiff, Nat.reduceAdd, Nat.reduceSub, Nat.reduceMul, Nat.reduceLeDiff, reduceIte, reduceCtorEq, Int.lt_irrefl, Nat.reduceMod, Nat.reduceBEq, eq_self, false_and, and_false, hl])
    | (refine wpA_drw hT hE hmix (by kernel_rfl) fun K hK => ?_; simp only [go_sem, Nat.reduceLT, Nat.reduceEqDiff, Nat.reduceAdd, Nat.reduceSub, Nat.reduceMul, Nat.reduceLeDiff, reduceIte, reduceCtorEq, Int.lt_irrefl, Nat.reduceMod, Nat.reduceBEq, eq_self, false_and, and_false, hl])
    | (refine gd_t (fun h => ?_) (fun h => ?_) <;> (try simp only [h, go_sem, Nat.reduceLT, Nat.reduceEqDiff, Nat.reduceAdd, Nat.reduceSub, Nat.reduceMul, Nat.reduceLeDiff, reduceIte, reduceCtorEq, Int.lt_irrefl, Nat.reduceMod, Nat.reduceBEq, eq_self, false_and, and_false, hl]))
    | (refine gd_f (fun h => ?_) (fun h => ?_) <;> (try simp only [h, go_sem, Nat.reduceLT, Nat.reduceEqDiff, Nat.reduceAdd, Nat.reduceSub, Nat.reduceMul, Nat.reduceLeDiff, reduceIte, reduceCtorEq, Int.lt_irrefl, Nat.reduceMod, Nat.reduceBEq, eq_self, false_and, and_false, hl]))
    | refine wpA_block ?_
    | (refine wpA_cond rfl (fun h => ?_) (fun h => ?_) <;> (try (cases h; done)))
    | (refine wpA_ret (fin_pure (.inl rfl) rfl (by simp only [go_sem, Nat.reduceLT, Nat.reduceEqDiff, Nat.reduceAdd, Nat.reduceSub, Nat.reduceMul, Nat.reduceLeDiff, reduceIte, reduceCtorEq, Int.lt_irrefl, Nat.reduceMod, Nat.reduceBEq, eq_self, false_and, and_false, hl]; rfl) ?_ (hW _)); (try simp only [go_sem, Nat.reduceLT, Nat.reduceEqDiff, Nat.reduceAdd, Nat.reduceSub, Nat.reduceMul, Nat.reduceLeDiff, reduceIte, reduceCtorEq, Int.lt_irrefl, Nat.reduceMod, Nat.reduceBEq, eq_self, false_and, and_false, hl]))
    | (refine wpA_ret (fin_pureM (.inl rfl) (by simp only [go_sem, Nat.reduceLT, Nat.reduceEqDiff, Nat.reduceAdd, Nat.reduceSub, Nat.reduceMul, Nat.reduceLeDiff, reduceIte, reduceCtorEq, Int.lt_irrefl, Nat.reduceMod, Nat.reduceBEq, eq_self, false_and, and_false]) (by simp only [go_sem, Nat.reduceLT, Nat.reduceEqDiff, Nat.reduceAdd, Nat.reduceSub, Nat.reduceMul, Nat.reduceLeDiff, reduceIte, reduceCtorEq, Int.lt_irrefl, Nat.reduceMod, Nat.reduceBEq, eq_self, false_and, and_false, hl]; rfl) ?_ (hW _)); (try simp only [go_sem, Nat.reduceLT, Nat.reduceEqDiff, Nat.reduceAdd, Nat.reduceSub, Nat.reduceMul, Nat.reduceLeDiff, reduceIte, reduceCtorEq, Int.lt_irrefl, Nat.reduceMod, Nat.reduceBEq, eq_self, false_and, and_false, hl]))
    | fail)
  refine wpA_kp [0, 1, 7, 8, 9] [0] (by simp) (by simp) rfl fun K hK => ?_
  try simp only [go_sem, Nat.reduceLT, Nat.reduceEqDiff, Nat.reduceAdd, Nat.reduceSub, Nat.reduceMul, Nat.reduceLeDiff, reduceIte, reduceCtorEq, Int.lt_irrefl, Nat.reduceMod, Nat.reduceBEq, eq_self, false_and, and_false, (hwf.keep0 (htop 0)).1, hsubB 0 hwf, hrid]
  refine hK _ ?_; clear hK K
  refine wpA_for t.frames.length (fun i => { tm := [(0, .fn (.yield l) []), (1, .ptr id 0), (7, .sl (t.frames.map aFrame)), (8, .v (.int .i64 t.frames.length)), (9, .v (.int .i64 i))], F := hs i, L := [Bs i], ds := [] }) (fun i => WF (b + 1) (hpF (hs i) b [Bs i]) ∧ I i) rfl ⟨hwf, hI0⟩ ?_ ?_
  · rintro i hi ⟨hI, hIi⟩
    obtain ⟨f, hf, hdrop, htake⟩ := get_of_lt hi
    have hi' : ((i : Int) < t.frames.length) := by omega
    have hy' := hy i hi hIi
    rw [ysT_eq hf] at hy'
    have hw := wrap1 hi hlb
    rcases Nat.lt_or_ge (i + 1) t.frames.length with hi2 | hi2
    · obtain ⟨g, hg, _, _⟩ := get_of_lt hi2
      have hend : endT t i = g.time := by rw [endT, hg]
      have hi3 : (((i + 1 : Nat) : Int) < t.frames.length) := by omega
      rw [hend] at hy'
      repeat' (first
        | (refine ⟨rfl, hI, _, hy' _ rfl, ?_⟩; rintro v F' B' ⟨hwf', (⟨rfl, rfl, rfl, hIi'⟩ | ⟨rfl, hX⟩)⟩ <;> simp only [go_sem, Nat.reduceLT, Nat.reduceEqDiff, Nat.reduceAdd, Nat.reduceSub, Nat.reduceMul, Nat.reduceLeDiff, reduceIte, reduceCtorEq, Int.lt_irrefl, Nat.reduceMod, Nat.reduceBEq, eq_self, false_and, and_false, hrid])
        | exact wpA_ret ⟨.inl rfl, rfl, _, _, rfl, hwf', .inr hX⟩
        | refine wpA_seq ?_
        | refine wpA_skip ?_
        | (refine wpA_exit ?_)
        | (refine hK _ _ ?_; clear hK K)
        | (refine hK _ _ rfl ?_; clear hK K)
        | (refine wpA_reg hT hE fun K hK => ?_; simp only [go_sem, Nat.reduceLT, Nat.reduceEqDiff, Nat.reduceAdd, Nat.reduceSub, Nat.reduceMul, Nat.reduceLeDiff, reduceIte, reduceCtorEq, Int.lt_irrefl, Nat.reduceMod, Nat.reduceBEq, eq_self, false_and, and_false, hl, hf, hg, Int.natCast_nonneg, hi', hw, hi3])
        | (refine wpA_drw hT hE hmix (by kernel_rfl) fun K hK => ?_; simp only [go_sem, Nat.reduceLT, Nat.reduceEqDiff, Nat.reduceAdd, Nat.reduceSub, Nat.reduceMul, Nat.reduceLeDiff, reduceIte, reduceCtorEq, Int.lt_irrefl, Nat.reduceMod, Nat.reduceBEq, eq_self, false_and, and_false, hl, hf, hg, Int.natCast_nonneg, hi', hw, hi3])
        | (refine gd_t (fun h => ?_) (fun h => ?_) <;> (try simp only [h, go_sem, Nat.reduceLT, Nat.reduceEqDiff, Nat.reduceAdd, Nat.reduceSub, Nat.reduceMul, Nat.reduceLeDiff, reduceIte, reduceCtorEq, Int.lt_irrefl, Nat.reduceMod, Nat.reduceBEq, eq_self, false_and, and_false, hl, hf, hg, Int.natCast_nonneg, hi', hw, hi3]))
        | (refine gd_f (fun h => ?_) (fun h => ?_) <;> (try simp only [h, go_sem, Nat.reduceLT, Nat.reduceEqDiff, Nat.reduceAdd, Nat.reduceSub, Nat.reduceMul, Nat.reduceLeDiff, reduceIte, reduceCtorEq, Int.lt_irrefl, Nat.reduceMod, Nat.reduceBEq, eq_self, false_and, and_false, hl, hf, hg, Int.natCast_nonneg, hi', hw, hi3]))
        | refine wpA_block ?_
        | (refine wpA_cond rfl (fun h => ?_) (fun h => ?_) <;> (try (cases h; done)))
        | (refine wpA_ret (fin_pure (.inl rfl) rfl (by simp only [go_sem, Nat.reduceLT, Nat.reduceEqDiff, Nat.reduceAdd, Nat.reduceSub, Nat.reduceMul, Nat.reduceLeDiff, reduceIte, reduceCtorEq, Int.lt_irrefl, Nat.reduceMod, Nat.reduceBEq, eq_self, false_and, and_false, hl, hf, hg, Int.natCast_nonneg, hi', hw, hi3]; rfl) ?_ (hW _)); (try simp only [go_sem, Nat.reduceLT, Nat.reduceEqDiff, Nat.reduceAdd, Nat.reduceSub, Nat.reduceMul, Nat.reduceLeDiff, reduceIte, reduceCtorEq, Int.lt_irrefl, Nat.reduceMod, Nat.reduceBEq, eq_self, false_and, and_false, hl, hf, hg, Int.natCast_nonneg, hi', hw, hi3]))
        | (refine wpA_ret (fin_pureM (.inl rfl) (by simp only [go_sem, Nat.reduceLT, Nat.reduceEqDiff, Nat.reduceAdd, Nat.reduceSub, Nat.reduceMul, Nat.reduceLeDiff, reduceIte, reduceCtorEq, Int.lt_irrefl, Nat.reduceMod, Nat.reduceBEq, eq_self, false_and, and_false]) (by simp only [go_sem, Nat.reduceLT, Nat.reduceEqDiff, Nat.reduceAdd, Nat.reduceSub, Nat.reduceMul, Nat.reduceLeDiff, reduceIte, reduceCtorEq, Int.lt_irrefl, Nat.reduceMod, Nat.reduceBEq, eq_self, false_and, and_false, hl, hf, hg, Int.natCast_nonneg, hi', hw, hi3]; rfl) ?_ (hW _)); (try simp only [go_sem, Nat.reduceLT, Nat.reduceEqDiff, Nat.reduceAdd, Nat.reduceSub, Nat.reduceMul, Nat.reduceLeDiff, reduceIte, reduceCtorEq, Int.lt_irrefl, Nat.reduceMod, Nat.reduceBEq, eq_self, false_and, and_false, hl, hf, hg, Int.natCast_nonneg, hi', hw, hi3]))
        | fail)
      refine ⟨wk_to (wk_kp [0, 1, 7, 8, 9] [0] (by simp) (by simp) rfl) (by simp only [go_sem, Nat.reduceLT, Nat.reduceEqDiff, Nat.reduceAdd, Nat.reduceSub, Nat.reduceMul, Nat.reduceLeDiff, reduceIte, reduceCtorEq, Int.lt_irrefl, Nat.reduceMod, Nat.reduceBEq, eq_self, false_and, and_false, hW _,  (hwf'.keep0 (htop (i + 1))).1, hsubB _ hwf', hrid, hw]), ?_⟩
      exact ⟨hwf', hIi'⟩
    · have hg : t.frames[i + 1]? = none := List.getElem?_eq_none hi2
      have hend : endT t i = t.fin := by rw [endT, hg]
      have hi3 : ¬ (((i + 1 : Nat) : Int) < t.frames.length) := by omega
      rw [hend] at hy'
      repeat' (first
        | (refine ⟨rfl, hI, _, hy' _ rfl, ?_⟩; rintro v F' B' ⟨hwf', (⟨rfl, rfl, rfl, hIi'⟩ | ⟨rfl, hX⟩)⟩ <;> simp only [go_sem, Nat.reduceLT, Nat.reduceEqDiff, Nat.reduceAdd, Nat.reduceSub, Nat.reduceMul, Nat.reduceLeDiff, reduceIte, reduceCtorEq, Int.lt_irrefl, Nat.reduceMod, Nat.reduceBEq, eq_self, false_and, and_false, hrid])
        | exact wpA_ret ⟨.inl rfl, rfl, _, _, rfl, hwf', .inr hX⟩
        | refine wpA_seq ?_
        | refine wpA_skip ?_
        | (refine wpA_exit ?_)
        | (refine hK _ _ ?_; clear hK K)
        | (refine hK _ _ rfl ?_; clear hK K)
        | (refine wpA_reg hT hE fun K hK => ?_; simp only [go_sem, Nat.reduceLT, Nat.reduceEqDiff, Nat.reduceAdd, Nat.reduceSub, Nat.reduceMul, Nat.reduceLeDiff, reduceIte, reduceCtorEq, Int.lt_irrefl, Nat.reduceMod, Nat.reduceBEq, eq_self, false_and, and_false, hl, hf, Int.natCast_nonneg, hi', hw, hi3])
        | (refine wpA_drw hT hE hmix (by kernel_rfl) fun K hK => ?_; simp only [go_sem, Nat.reduceLT, Nat.reduceEqDiff, Nat.reduceAdd, Nat.reduceSub, Nat.reduceMul, Nat.reduceLeDiff, reduceIte, reduceCtorEq, Int.lt_irrefl, Nat.reduceMod, Nat.reduceBEq, eq_self, false_and, and_false, hl, hf, Int.natCast_nonneg, hi', hw, hi3])
        | (refine gd_t (fun h => ?_) (fun h => ?_) <;> (try simp only [h, go_sem, Nat.reduceLT, Nat.reduceEqDiff, Nat.reduceAdd, Nat.reduceSub, Nat.reduceMul, Nat.reduceLeDiff, reduceIte, reduceCtorEq, Int.lt_irrefl, Nat.reduceMod, Nat.reduceBEq, eq_self, false_and, and_false, hl, hf, Int.natCast_nonneg, hi', hw, hi3]))
        | (refine gd_f (fun h => ?_) (fun h => ?_) <;> (try simp only [h, go_sem, Nat.reduceLT, Nat.reduceEqDiff, Nat.reduceAdd, Nat.reduceSub, Nat.reduceMul, Nat.reduceLeDiff, reduceIte, reduceCtorEq, Int.lt_irrefl, Nat.reduceMod, Nat.reduceBEq, eq_self, false_and, and_false, hl, hf, Int.natCast_nonneg, hi', hw, hi3]))
        | refine wpA_block ?_
        | (refine wpA_cond rfl (fun h => ?_) (fun h => ?_) <;> (try (cases h; done)))
        | (refine wpA_ret (fin_pure (.inl rfl) rfl (by simp only [go_sem, Nat.reduceLT, Nat.reduceEqDiff, Nat.reduceAdd, Nat.reduceSub, Nat.reduceMul, Nat.reduceLeDiff, reduceIte, reduceCtorEq, Int.lt_irrefl, Nat.reduceMod, Nat.reduceBEq, eq_self, false_and, and_false, hl, hf, Int.natCast_nonneg, hi', hw, hi3]; rfl) ?_ (hW _)); (try simp only [go_sem, Nat.reduceLT, Nat.reduceEqDiff, Nat.reduceAdd, Nat.reduceSub, Nat.reduceMul, Nat.reduceLeDiff, reduceIte, reduceCtorEq, Int.lt_irrefl, Nat.reduceMod, Nat.reduceBEq, eq_self, false_and, and_false, hl, hf, Int.natCast_nonneg, hi', hw, hi3]))
        | (refine wpA_ret (fin_pureM (.inl rfl) (by simp only [go_sem, Nat.reduceLT, Nat.reduceEqDiff, Nat.reduceAdd, Nat.reduceSub, Nat.reduceMul, Nat.reduceLeDiff, reduceIte, reduceCtorEq, Int.lt_irrefl, Nat.reduceMod, Nat.reduceBEq, eq_self, false_and, and_false]) (by simp only [go_sem, Nat.reduceLT, Nat.reduceEqDiff, Nat.reduceAdd, Nat.reduceSub, Nat.reduceMul, Nat.reduceLeDiff, reduceIte, reduceCtorEq, Int.lt_irrefl, Nat.reduceMod, Nat.reduceBEq, eq_self, false_and, and_false, hl, hf, Int.natCast_nonneg, hi', hw, hi3]; rfl) ?_ (hW _)); (try simp only [go_sem, Nat.reduceLT, Nat.reduceEqDiff, Nat.reduceAdd, Nat.reduceSub, Nat.reduceMul, Nat.reduceLeDiff, reduceIte, reduceCtorEq, Int.lt_irrefl, Nat.reduceMod, Nat.reduceBEq, eq_self, false_and, and_false, hl, hf, Int.natCast_nonneg, hi', hw, hi3]))
        | fail)
      refine ⟨wk_to (wk_kp [0, 1, 7, 8, 9] [0] (by simp) (by simp) rfl) (by simp only [go_sem, Nat.reduceLT, Nat.reduceEqDiff, Nat.reduceAdd, Nat.reduceSub, Nat.reduceMul, Nat.reduceLeDiff, reduceIte, reduceCtorEq, Int.lt_irrefl, Nat.reduceMod, Nat.reduceBEq, eq_self, false_and, and_false, hW _,  (hwf'.keep0 (htop (i + 1))).1, hsubB _ hwf', hrid, hw]), ?_⟩
      exact ⟨hwf', hIi'⟩
  · rintro ⟨hI, hIn⟩
    repeat' (first
      | refine wpA_seq ?_
      | refine wpA_skip ?_
      | (refine wpA_exit ?_)
      | (refine hK _ _ ?_; clear hK K)
      | (refine hK _ _ rfl ?_; clear hK K)
      | (refine wpA_reg hT hE fun K hK => ?_; simp only [go_sem, Nat.reduceLT, Nat.reduceEqDiff, Nat.reduceAdd, Nat.reduceSub, Nat.reduceMul, Nat.reduceLeDiff, reduceIte, reduceCtorEq, Int.lt_irrefl, Nat.reduceMod, Nat.reduceBEq, eq_self, false_and, and_false, hl])
      | (refine wpA_drw hT hE hmix (by kernel_rfl) fun K hK => ?_; simp only [go_sem, Nat.reduceLT, Nat.reduceEqDiff, Nat.reduceAdd, Nat.reduceSub, Nat.reduceMul, Nat.reduceLeDiff, reduceIte, reduceCtorEq, Int.lt_irrefl, Nat.reduceMod, Nat.reduceBEq, eq_self, false_and, and_false, hl])
      | (refine gd_t (fun h => ?_) (fun h => ?_) <;> (try simp only [h, go_sem, Nat.reduceLT, Nat.reduceEqDiff, Nat.reduceAdd, Nat.reduceSub, Nat.reduceMul, Nat.reduceLeDiff, reduceIte, reduceCtorEq, Int.lt_irrefl, Nat.reduceMod, Nat.reduceBEq, eq_self, false_and, and_false, hl]))
      | (refine gd_f (fun h => ?_) (fun h => ?_) <;> (try simp only [h, go_sem, Nat.reduceLT, Nat.reduceEqDiff, Nat.reduceAdd, Nat.reduceSub, Nat.reduceMul, Nat.reduceLeDiff, reduceIte, reduceCtorEq, Int.lt_irrefl, Nat.reduceMod, Nat.reduceBEq, eq_self, false_and, and_false, hl]))
      | refine wpA_block ?_
      | (refine wpA_cond rfl (fun h => ?_) (fun h => ?_) <;> (try (cases h; done)))
      | (refine wpA_ret (fin_pure (.inl rfl) rfl (by simp only [go_sem, Nat.reduceLT, Nat.reduceEqDiff, Nat.reduceAdd, Nat.reduceSub, Nat.reduceMul, Nat.reduceLeDiff, reduceIte, reduceCtorEq, Int.lt_irrefl, Nat.reduceMod, Nat.reduceBEq, eq_self, false_and, and_false, hl]; rfl) ?_ (hW _)); (try simp only [go_sem, Nat.reduceLT, Nat.reduceEqDiff, Nat.reduceAdd, Nat.reduceSub, Nat.reduceMul, Nat.reduceLeDiff, reduceIte, reduceCtorEq, Int.lt_irrefl, Nat.reduceMod, Nat.reduceBEq, eq_self, false_and, and_false, hl]))
      | (refine wpA_ret (fin_pureM (.inl rfl) (by simp only [go_sem, Nat.reduceLT, Nat.reduceEqDiff, Nat.reduceAdd, Nat.reduceSub, Nat.reduceMul, Nat.reduceLeDiff, reduceIte, reduceCtorEq, Int.lt_irrefl, Nat.reduceMod, Nat.reduceBEq, eq_self, false_and, and_false]) (by simp only [go_sem, Nat.reduceLT, Nat.reduceEqDiff, Nat.reduceAdd, Nat.reduceSub, Nat.reduceMul, Nat.reduceLeDiff, reduceIte, reduceCtorEq, Int.lt_irrefl, Nat.reduceMod, Nat.reduceBEq, eq_self, false_and, and_false, hl]; rfl) ?_ (hW _)); (try simp only [go_sem, Nat.reduceLT, Nat.reduceEqDiff, Nat.reduceAdd, Nat.reduceSub, Nat.reduceMul, Nat.reduceLeDiff, reduceIte, reduceCtorEq, Int.lt_irrefl, Nat.reduceMod, Nat.reduceBEq, eq_self, false_and, and_false, hl]))
      | fail)
    exact ⟨.inr rfl, rfl, _, _, rfl, hI, .inl ⟨rfl, rfl, hIn⟩⟩

theorem all_spec (t : Trace) (F : Hp) (b : Nat) : CallE Try.prog 39 [aTrace t] F b (.fn (.func 48) [.ptr (b + 0) 0]) [] [.blk 24 [.sl (t.frames.map aFrame), .v (.int .i64 t.fin)]] := by
  refine callE_of hT (fn := Try.f39) rfl rfl rfl (by simp [fnt]) (by simp) fun htop hW => ?_
  repeat' (first
    | refine wpA_seq ?_
    | refine wpA_skip ?_
    | (refine wpA_exit ?_)
    | (refine hK _ _ ?_; clear hK K)
    | (refine hK _ _ rfl ?_; clear hK K)
    | (refine wpA_reg hT hE fun K hK => ?_; simp only [go_sem, Nat.reduceLT, Nat.reduceEqDiff, Nat.reduceAdd, Nat.reduceSub, Nat.reduceMul, Nat.reduceLeDiff, reduceIte, reduceCtorEq, Int.lt_irrefl, Nat.reduceMod, Nat.reduceBEq, eq_self, false_and, and_false, Array.size_empty])
    | (refine wpA_drw hT hE hmix (by kernel_rfl) fun K hK => ?_; simp only [go_sem, Nat.reduceLT, Nat.reduceEqDiff, Nat.reduceAdd, Nat.reduceSub, Nat.reduceMul, Nat.reduceLeDiff, reduceIte, reduceCtorEq, Int.lt_irrefl, Nat.reduceMod, Nat.reduceBEq, eq_self, false_and, and_false, Array.size_empty])
    | (refine gd_t (fun h => ?_) (fun h => ?_) <;> (try simp only [h, go_sem, Nat.reduceLT, Nat.reduceEqDiff, Nat.reduceAdd, Nat.reduceSub, Nat.reduceMul, Nat.reduceLeDiff, reduceIte, reduceCtorEq, Int.lt_irrefl, Nat.reduceMod, Nat.reduceBEq, eq_self, false_and, and_false, Array.size_empty]))
    | (refine gd_f (fun h => ?_) (fun h => ?_) <;> (try simp only [h, go_sem, Nat.reduceLT, Nat.reduceEqDiff, Nat.reduceAdd, Nat.reduceSub, Nat.reduceMul, Nat.reduceLeDiff, reduceIte, reduceCtorEq, Int.lt_irrefl, Nat.reduceMod, Nat.reduceBEq, eq_self, false_and, and_false, Array.size_empty]))
    | refine wpA_block ?_
    | (refine wpA_cond rfl (fun h => ?_) (fun h => ?_) <;> (try (cases h; done)))
    | (refine wpA_ret (fin_pure (.inl rfl) rfl (by simp only [go_sem, Nat.reduceLT, Nat.reduceEqDiff, Nat.reduceAdd, Nat.reduceSub, Nat.reduceMul, Nat.reduceLeDiff, reduceIte, reduceCtorEq, Int.lt_irrefl, Nat.reduceMod, Nat.reduceBEq, eq_self, false_and, and_false, Array.size_empty]; rfl) ?_ (hW _)); (try simp only [go_sem, Nat.reduceLT, Nat.reduceEqDiff, Nat.reduceAdd, Nat.reduceSub, Nat.reduceMul, Nat.reduceLeDiff, reduceIte, reduceCtorEq, Int.lt_irrefl, Nat.reduceMod, Nat.reduceBEq, eq_self, false_and, and_false, Array.size_empty]))
    | (refine wpA_ret (fin_pureM (.inl rfl) (by simp only [go_sem, Nat.reduceLT, Nat.reduceEqDiff, Nat.reduceAdd, Nat.reduceSub, Nat.reduceMul, Nat.reduceLeDiff, reduceIte, reduceCtorEq, Int.lt_irrefl, Nat.reduceMod, Nat.reduceBEq, eq_self, false_and, and_false]) (by simp only [go_sem, Nat.reduceLT, Nat.reduceEqDiff, Nat.reduceAdd, Nat.reduceSub, Nat.reduceMul, Nat.reduceLeDiff, reduceIte, reduceCtorEq, Int.lt_irrefl, Nat.reduceMod, Nat.reduceBEq, eq_self, false_and, and_false, Array.size_empty]; rfl) ?_ (hW _)); (try simp only [go_sem, Nat.reduceLT, Nat.reduceEqDiff, Nat.reduceAdd, Nat.reduceSub, Nat.reduceMul, Nat.reduceLeDiff, reduceIte, reduceCtorEq, Int.lt_irrefl, Nat.reduceMod, Nat.reduceBEq, eq_self, false_and, and_false, Array.size_empty]))
    | fail)
  refine wpA_ret (fin_mk [0] (.inl rfl) (by simp only [go_sem, Nat.reduceLT, Nat.reduceEqDiff, Nat.reduceAdd, Nat.reduceSub, Nat.reduceMul, Nat.reduceLeDiff, reduceIte, reduceCtorEq, Int.lt_irrefl, Nat.reduceMod, Nat.reduceBEq, eq_self, false_and, and_false]) (by simp only [go_sem, Nat.reduceLT, Nat.reduceEqDiff, Nat.reduceAdd, Nat.reduceSub, Nat.reduceMul, Nat.reduceLeDiff, reduceIte, reduceCtorEq, Int.lt_irrefl, Nat.reduceMod, Nat.reduceBEq, eq_self, false_and, and_false]; rfl) (by simp) (by simp [go_sem]) ?_ ?_ ?_)
  all_goals (try simp only [go_sem, Nat.reduceLT, Nat.reduceEqDiff, Nat.reduceAdd, Nat.reduceSub, Nat.reduceMul, Nat.reduceLeDiff, reduceIte, reduceCtorEq, Int.lt_irrefl, Nat.reduceMod, Nat.reduceBEq, eq_self, false_and, and_false, hW _])
end Go.Proofs.Ythlmfkeeneeaoaa
