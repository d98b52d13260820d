/- The types of this program, and the first functions. -/
import Derived.Test.YtgjkcoifgdmmbaaDoorXE
import Derived.Test.YtgjkcoifgdmmbaaDoorProg
set_option linter.unusedSimpArgs false
set_option linter.unusedVariables false
section
set_option maxRecDepth 4000
namespace Go.Ax
open Go Go.Proofs
def ti2 : TI := ⟨.int .i64, 1, 8, [.int .i64 0], true⟩
def ti3 : TI := ⟨.int .i64, 1, 8, [.int .i64 0], true⟩
def ti4 : TI := ⟨.bool, 1, 1, [.bool false], true⟩
def ti5 : TI := ⟨.int .u8, 1, 1, [.int .u8 0], true⟩
def ti6 : TI := ⟨.int .u8, 1, 1, [.int .u8 0], true⟩
def ti8 : TI := ⟨.struct [(0, 2), (1, 3), (2, 4), (3, 6)], 4, 24, [.int .i64 0, .int .i64 0, .bool false, .int .u8 0], true⟩
def ti9 : TI := ⟨.str, 1, 16, [.string ⟨#[]⟩], true⟩
def ti10 : TI := ⟨.str, 1, 16, [.string ⟨#[]⟩], true⟩
def ti11 : TI := ⟨.str, 1, 16, [.string ⟨#[]⟩], true⟩
def ti12 : TI := ⟨.int .u64, 1, 8, [.int .u64 0], true⟩
def ti14 : TI := ⟨.struct [(0, 9), (1, 12)], 2, 24, [.string ⟨#[]⟩, .int .u64 0], true⟩
def ti19 : TI := ⟨.struct [(0, 17)], 1, 8, [.pointer none], false⟩
def ti21 : TI := ⟨.int .i32, 1, 4, [.int .i32 0], true⟩
def ti23 : TI := ⟨.struct [(0, 3), (1, 3), (2, 3), (3, 3)], 4, 32, [.int .i64 0, .int .i64 0, .int .i64 0, .int .i64 0], true⟩
def ti26 : TI := ⟨.struct [(0, 3), (1, 3), (2, 3), (3, 3)], 4, 32, [.int .i64 0, .int .i64 0, .int .i64 0, .int .i64 0], true⟩
def ti29 : TI := ⟨.slice 43, 1, 24, [.slice none 0 0], false⟩
def ti36 : TI := ⟨.struct [(0, 3), (1, 3)], 2, 16, [.int .i64 0, .int .i64 0], true⟩
def ti39 : TI := ⟨.struct [(0, 3), (1, 3)], 2, 16, [.int .i64 0, .int .i64 0], true⟩
def ti43 : TI := ⟨.slice 39, 1, 24, [.slice none 0 0], false⟩
def ti48 : TI := ⟨.slice 9, 1, 24, [.slice none 0 0], false⟩
def ti51 : TI := ⟨.struct [(0, 48), (1, 3), (2, 29), (3, 43), (4, 3)], 5, 88, [.slice none 0 0, .int .i64 0, .slice none 0 0, .slice none 0 0, .int .i64 0], false⟩
def ti55 : TI := ⟨.struct [(0, 48), (1, 3), (2, 29), (3, 43), (4, 4)], 5, 88, [.slice none 0 0, .int .i64 0, .slice none 0 0, .slice none 0 0, .bool false], false⟩
def ti69 : TI := ⟨.slice 3, 1, 24, [.slice none 0 0], false⟩
def ti87 : TI := ⟨.slice 5, 1, 24, [.slice none 0 0], false⟩
def ti89 : TI := ⟨.struct [(0, 86), (1, 87)], 2, 32, [.pointer none, .slice none 0 0], false⟩
def ti107 : TI := ⟨.int .u64, 1, 8, [.int .u64 0], true⟩
def ti109 : TI := ⟨.arr 24 5, 24, 24, [.int .u8 0, .int .u8 0, .int .u8 0, .int .u8 0, .int .u8 0, .int .u8 0, .int .u8 0, .int .u8 0, .int .u8 0, .int .u8 0, .int .u8 0, .int .u8 0, .int .u8 0, .int .u8 0, .int .u8 0, .int .u8 0, .int .u8 0, .int .u8 0, .int .u8 0, .int .u8 0, .int .u8 0, .int .u8 0, .int .u8 0, .int .u8 0], true⟩
def ti110 : TI := ⟨.int .u64, 1, 8, [.int .u64 0], true⟩
def ti118 : TI := ⟨.arr 256 5, 256, 256, [.int .u8 0, .int .u8 0, .int .u8 0, .int .u8 0, .int .u8 0, .int .u8 0, .int .u8 0, .int .u8 0, .int .u8 0, .int .u8 0, .int .u8 0, .int .u8 0, .int .u8 0, .int .u8 0, .int .u8 0, .int .u8 0, .int .u8 0, .int .u8 0, .int .u8 0, .int .u8 0, .int .u8 0, .int .u8 0, .int .u8 0, .int .u8 0, .int .u8 0, .int .u8 0, .int .u8 0, .int .u8 0, .int .u8 0, .int .u8 0, .int .u8 0, .int .u8 0, .int .u8 0, .int .u8 0, .int .u8 0, .int .u8 0, .int .u8 0, .int .u8 0, .int .u8 0, .int .u8 0, .int .u8 0, .int .u8 0, .int .u8 0, .int .u8 0, .int .u8 0, .int .u8 0, .int .u8 0, .int .u8 0, .int .u8 0, .int .u8 0, .int .u8 0, .int .u8 0, .int .u8 0, .int .u8 0, .int .u8 0, .int .u8 0, .int .u8 0, .int .u8 0, .int .u8 0, .int .u8 0, .int .u8 0, .int .u8 0, .int .u8 0, .int .u8 0, .int .u8 0, .int .u8 0, .int .u8 0, .int .u8 0, .int .u8 0, .int .u8 0, .int .u8 0, .int .u8 0, .int .u8 0, .int .u8 0, .int .u8 0, .int .u8 0, .int .u8 0, .int .u8 0, .int .u8 0, .int .u8 0, .int .u8 0, .int .u8 0, .int .u8 0, .int .u8 0, .int .u8 0, .int .u8 0, .int .u8 0, .int .u8 0, .int .u8 0, .int .u8 0, .int .u8 0, .int .u8 0, .int .u8 0, .int .u8 0, .int .u8 0, .int .u8 0, .int .u8 0, .int .u8 0, .int .u8 0, .int .u8 0, .int .u8 0, .int .u8 0, .int .u8 0, .int .u8 0, .int .u8 0, .int .u8 0, .int .u8 0, .int .u8 0, .int .u8 0, .int .u8 0, .int .u8 0, .int .u8 0, .int .u8 0, .int .u8 0, .int .u8 0, .int .u8 0, .int .u8 0, .int .u8 0, .int .u8 0, .int .u8 0, .int .u8 0, .int .u8 0, .int .u8 0, .int .u8 0, .int .u8 0, .int .u8 0, .int .u8 0, .int .u8 0, .int .u8 0, .int .u8 0, .int .u8 0, .int .u8 0, .int .u8 0, .int .u8 0, .int .u8 0, .int .u8 0, .int .u8 0, .int .u8 0, .int .u8 0, .int .u8 0, .int .u8 0, .int .u8 0, .int .u8 0, .int .u8 0, .int .u8 0, .int .u8 0, .int .u8 0, .int .u8 0, .int .u8 0, .int .u8 0, .int .u8 0, .int .u8 0, .int .u8 0, .int .u8 0, .int .u8 0, .int .u8 0, .int .u8 0, .int .u8 0, .int .u8 0, .int .u8 0, .int .u8 0, .int .u8 0, .int .u8 0, .int .u8 0, .int .u8 0, .int .u8 0, .int .u8 0, .int .u8 0, .int .u8 0, .int .u8 0, .int .u8 0, .int .u8 0, .int .u8 0, .int .u8 0, .int .u8 0, .int .u8 0, .int .u8 0, .int .u8 0, .int .u8 0, .int .u8 0, .int .u8 0, .int .u8 0, .int .u8 0, .int .u8 0, .int .u8 0, .int .u8 0, .int .u8 0, .int .u8 0, .int .u8 0, .int .u8 0, .int .u8 0, .int .u8 0, .int .u8 0, .int .u8 0, .int .u8 0, .int .u8 0, .int .u8 0, .int .u8 0, .int .u8 0, .int .u8 0, .int .u8 0, .int .u8 0, .int .u8 0, .int .u8 0, .int .u8 0, .int .u8 0, .int .u8 0, .int .u8 0, .int .u8 0, .int .u8 0, .int .u8 0, .int .u8 0, .int .u8 0, .int .u8 0, .int .u8 0, .int .u8 0, .int .u8 0, .int .u8 0, .int .u8 0, .int .u8 0, .int .u8 0, .int .u8 0, .int .u8 0, .int .u8 0, .int .u8 0, .int .u8 0, .int .u8 0, .int .u8 0, .int .u8 0, .int .u8 0, .int .u8 0, .int .u8 0, .int .u8 0, .int .u8 0, .int .u8 0, .int .u8 0, .int .u8 0, .int .u8 0, .int .u8 0, .int .u8 0, .int .u8 0, .int .u8 0, .int .u8 0, .int .u8 0, .int .u8 0, .int .u8 0, .int .u8 0, .int .u8 0, .int .u8 0, .int .u8 0, .int .u8 0, .int .u8 0, .int .u8 0, .int .u8 0, .int .u8 0, .int .u8 0], true⟩
def ti120 : TI := ⟨.struct [(0, 5), (1, 5)], 2, 2, [.int .u8 0, .int .u8 0], true⟩
def ti121 : TI := ⟨.arr 16 120, 32, 32, [.int .u8 0, .int .u8 0, .int .u8 0, .int .u8 0, .int .u8 0, .int .u8 0, .int .u8 0, .int .u8 0, .int .u8 0, .int .u8 0, .int .u8 0, .int .u8 0, .int .u8 0, .int .u8 0, .int .u8 0, .int .u8 0, .int .u8 0, .int .u8 0, .int .u8 0, .int .u8 0, .int .u8 0, .int .u8 0, .int .u8 0, .int .u8 0, .int .u8 0, .int .u8 0, .int .u8 0, .int .u8 0, .int .u8 0, .int .u8 0, .int .u8 0, .int .u8 0], true⟩
def ti122 : TI := ⟨.int .u32, 1, 4, [.int .u32 0], true⟩
def ti125 : TI := ⟨.int .i64, 1, 8, [.int .i64 0], true⟩
def ti132 : TI := ⟨.arr 20 110, 20, 160, [.int .u64 0, .int .u64 0, .int .u64 0, .int .u64 0, .int .u64 0, .int .u64 0, .int .u64 0, .int .u64 0, .int .u64 0, .int .u64 0, .int .u64 0, .int .u64 0, .int .u64 0, .int .u64 0, .int .u64 0, .int .u64 0, .int .u64 0, .int .u64 0, .int .u64 0, .int .u64 0], true⟩
def ti133 : TI := ⟨.arr 65 5, 65, 65, [.int .u8 0, .int .u8 0, .int .u8 0, .int .u8 0, .int .u8 0, .int .u8 0, .int .u8 0, .int .u8 0, .int .u8 0, .int .u8 0, .int .u8 0, .int .u8 0, .int .u8 0, .int .u8 0, .int .u8 0, .int .u8 0, .int .u8 0, .int .u8 0, .int .u8 0, .int .u8 0, .int .u8 0, .int .u8 0, .int .u8 0, .int .u8 0, .int .u8 0, .int .u8 0, .int .u8 0, .int .u8 0, .int .u8 0, .int .u8 0, .int .u8 0, .int .u8 0, .int .u8 0, .int .u8 0, .int .u8 0, .int .u8 0, .int .u8 0, .int .u8 0, .int .u8 0, .int .u8 0, .int .u8 0, .int .u8 0, .int .u8 0, .int .u8 0, .int .u8 0, .int .u8 0, .int .u8 0, .int .u8 0, .int .u8 0, .int .u8 0, .int .u8 0, .int .u8 0, .int .u8 0, .int .u8 0, .int .u8 0, .int .u8 0, .int .u8 0, .int .u8 0, .int .u8 0, .int .u8 0, .int .u8 0, .int .u8 0, .int .u8 0, .int .u8 0, .int .u8 0], true⟩
def ti139 : TI := ⟨.struct [(0, 9), (1, 9), (2, 92)], 3, 48, [.string ⟨#[]⟩, .string ⟨#[]⟩, .nilIface], false⟩
def ti145 : TI := ⟨.struct [(0, 9)], 1, 16, [.string ⟨#[]⟩], true⟩
def ti146 : TI := ⟨.arr 32 5, 32, 32, [.int .u8 0, .int .u8 0, .int .u8 0, .int .u8 0, .int .u8 0, .int .u8 0, .int .u8 0, .int .u8 0, .int .u8 0, .int .u8 0, .int .u8 0, .int .u8 0, .int .u8 0, .int .u8 0, .int .u8 0, .int .u8 0, .int .u8 0, .int .u8 0, .int .u8 0, .int .u8 0, .int .u8 0, .int .u8 0, .int .u8 0, .int .u8 0, .int .u8 0, .int .u8 0, .int .u8 0, .int .u8 0, .int .u8 0, .int .u8 0, .int .u8 0, .int .u8 0], true⟩
def ti147 : TI := ⟨.arr 64 5, 64, 64, [.int .u8 0, .int .u8 0, .int .u8 0, .int .u8 0, .int .u8 0, .int .u8 0, .int .u8 0, .int .u8 0, .int .u8 0, .int .u8 0, .int .u8 0, .int .u8 0, .int .u8 0, .int .u8 0, .int .u8 0, .int .u8 0, .int .u8 0, .int .u8 0, .int .u8 0, .int .u8 0, .int .u8 0, .int .u8 0, .int .u8 0, .int .u8 0, .int .u8 0, .int .u8 0, .int .u8 0, .int .u8 0, .int .u8 0, .int .u8 0, .int .u8 0, .int .u8 0, .int .u8 0, .int .u8 0, .int .u8 0, .int .u8 0, .int .u8 0, .int .u8 0, .int .u8 0, .int .u8 0, .int .u8 0, .int .u8 0, .int .u8 0, .int .u8 0, .int .u8 0, .int .u8 0, .int .u8 0, .int .u8 0, .int .u8 0, .int .u8 0, .int .u8 0, .int .u8 0, .int .u8 0, .int .u8 0, .int .u8 0, .int .u8 0, .int .u8 0, .int .u8 0, .int .u8 0, .int .u8 0, .int .u8 0, .int .u8 0, .int .u8 0, .int .u8 0], true⟩
def ti149 : TI := ⟨.struct [(0, 17), (1, 17), (2, 17), (3, 9)], 4, 40, [.pointer none, .pointer none, .pointer none, .string ⟨#[]⟩], false⟩
def ti150 : TI := ⟨.arr 0 16, 0, 0, [], false⟩
def ti152 : TI := ⟨.struct [(0, 150)], 0, 0, [], false⟩
def ti153 : TI := ⟨.int .u8, 1, 1, [.int .u8 0], true⟩
def ti154 : TI := ⟨.int .u8, 1, 1, [.int .u8 0], true⟩
def ti156 : TI := ⟨.int .i32, 1, 4, [.int .i32 0], true⟩
def ti157 : TI := ⟨.int .i32, 1, 4, [.int .i32 0], true⟩
def ti159 : TI := ⟨.struct [(0, 12), (1, 12), (2, 122), (3, 153), (4, 5), (5, 5), (6, 154), (7, 155), (8, 105), (9, 156), (10, 157)], 11, 48, [.int .u64 0, .int .u64 0, .int .u32 0, .int .u8 0, .int .u8 0, .int .u8 0, .int .u8 0, .nilFunc, .pointer none, .int .i32 0, .int .i32 0], false⟩
def tabTypes : List (Nat × TI) := [(2, ti2), (3, ti3), (4, ti4), (5, ti5), (6, ti6), (8, ti8), (9, ti9), (10, ti10), (11, ti11), (12, ti12), (14, ti14), (19, ti19), (21, ti21), (23, ti23), (26, ti26), (29, ti29), (36, ti36), (39, ti39), (43, ti43), (48, ti48), (51, ti51), (55, ti55), (69, ti69), (87, ti87), (89, ti89), (107, ti107), (109, ti109), (110, ti110), (118, ti118), (120, ti120), (121, ti121), (122, ti122), (125, ti125), (132, ti132), (133, ti133), (139, ti139), (145, ti145), (146, ti146), (147, ti147), (149, ti149), (150, ti150), (152, ti152), (153, ti153), (154, ti154), (156, ti156), (157, ti157), (159, ti159)]

structure Gl where
  e1 : Value
  e2 : Value
  h1 : e1 = .nilIface ∨ ∃ t p, e1 = .iface t p
  h2 : e2 = .nilIface ∨ ∃ t p, e2 = .iface t p
def pow10L : List Int := [1, 10, 100, 1000, 10000, 100000, 1000000, 10000000, 100000000, 1000000000, 10000000000, 100000000000, 1000000000000, 10000000000000, 100000000000000, 1000000000000000, 10000000000000000, 100000000000000000, 1000000000000000000, 10000000000000000000]
def glGlobs : Gl → List (Nat × List D) := fun gl => [(3, pow10L.map fun x => .v (.int .u64 x)), (4, [.v gl.e1]), (5, [.v gl.e2])]
def tab (gl : Gl) : Tab := { types := tabTypes, globs := glGlobs gl, excl := [(26, [0]), (12, [0])] }
noncomputable def EE (gl : Gl) : Pr := ⟨Tryd.prog, tab gl⟩
variable {gl : Gl}
@[go_sem] theorem EE_T : (EE gl).T = tab gl := rfl
theorem EE_P : (EE gl).P = Tryd.prog := rfl
@[go_sem] theorem excl_tab : (tab gl).excl = [(26, [0]), (12, [0])] := rfl
@[go_sem] theorem kind2 : (tab gl).kind 2 = .int .i64 := rfl
@[go_sem] theorem size2 : (tab gl).size 2 = 1 := rfl
@[go_sem] theorem bytes2 : (tab gl).bytes 2 = 8 := rfl
@[go_sem] theorem zero2 : (tab gl).zero 2 = [.int .i64 0] := rfl
@[go_sem] theorem flat2 : (tab gl).flat 2 = true := rfl
@[go_sem] theorem kind3 : (tab gl).kind 3 = .int .i64 := rfl
@[go_sem] theorem size3 : (tab gl).size 3 = 1 := rfl
@[go_sem] theorem bytes3 : (tab gl).bytes 3 = 8 := rfl
@[go_sem] theorem zero3 : (tab gl).zero 3 = [.int .i64 0] := rfl
@[go_sem] theorem flat3 : (tab gl).flat 3 = true := rfl
@[go_sem] theorem kind4 : (tab gl).kind 4 = .bool := rfl
@[go_sem] theorem size4 : (tab gl).size 4 = 1 := rfl
@[go_sem] theorem bytes4 : (tab gl).bytes 4 = 1 := rfl
@[go_sem] theorem zero4 : (tab gl).zero 4 = [.bool false] := rfl
@[go_sem] theorem flat4 : (tab gl).flat 4 = true := rfl
@[go_sem] theorem kind5 : (tab gl).kind 5 = .int .u8 := rfl
@[go_sem] theorem size5 : (tab gl).size 5 = 1 := rfl
@[go_sem] theorem bytes5 : (tab gl).bytes 5 = 1 := rfl
@[go_sem] theorem zero5 : (tab gl).zero 5 = [.int .u8 0] := rfl
@[go_sem] theorem flat5 : (tab gl).flat 5 = true := rfl
@[go_sem] theorem kind6 : (tab gl).kind 6 = .int .u8 := rfl
@[go_sem] theorem size6 : (tab gl).size 6 = 1 := rfl
@[go_sem] theorem bytes6 : (tab gl).bytes 6 = 1 := rfl
@[go_sem] theorem zero6 : (tab gl).zero 6 = [.int .u8 0] := rfl
@[go_sem] theorem flat6 : (tab gl).flat 6 = true := rfl
@[go_sem] theorem kind8 : (tab gl).kind 8 = .struct [(0, 2), (1, 3), (2, 4), (3, 6)] := rfl
@[go_sem] theorem size8 : (tab gl).size 8 = 4 := rfl
@[go_sem] theorem bytes8 : (tab gl).bytes 8 = 24 := rfl
@[go_sem] theorem zero8 : (tab gl).zero 8 = [.int .i64 0, .int .i64 0, .bool false, .int .u8 0] := rfl
@[go_sem] theorem flat8 : (tab gl).flat 8 = true := rfl
@[go_sem] theorem kind9 : (tab gl).kind 9 = .str := rfl
@[go_sem] theorem size9 : (tab gl).size 9 = 1 := rfl
@[go_sem] theorem bytes9 : (tab gl).bytes 9 = 16 := rfl
@[go_sem] theorem zero9 : (tab gl).zero 9 = [.string ⟨#[]⟩] := rfl
@[go_sem] theorem flat9 : (tab gl).flat 9 = true := rfl
@[go_sem] theorem kind10 : (tab gl).kind 10 = .str := rfl
@[go_sem] theorem size10 : (tab gl).size 10 = 1 := rfl
@[go_sem] theorem bytes10 : (tab gl).bytes 10 = 16 := rfl
@[go_sem] theorem zero10 : (tab gl).zero 10 = [.string ⟨#[]⟩] := rfl
@[go_sem] theorem flat10 : (tab gl).flat 10 = true := rfl
@[go_sem] theorem kind11 : (tab gl).kind 11 = .str := rfl
@[go_sem] theorem size11 : (tab gl).size 11 = 1 := rfl
@[go_sem] theorem bytes11 : (tab gl).bytes 11 = 16 := rfl
@[go_sem] theorem zero11 : (tab gl).zero 11 = [.string ⟨#[]⟩] := rfl
@[go_sem] theorem flat11 : (tab gl).flat 11 = true := rfl
@[go_sem] theorem kind12 : (tab gl).kind 12 = .int .u64 := rfl
@[go_sem] theorem size12 : (tab gl).size 12 = 1 := rfl
@[go_sem] theorem bytes12 : (tab gl).bytes 12 = 8 := rfl
@[go_sem] theorem zero12 : (tab gl).zero 12 = [.int .u64 0] := rfl
@[go_sem] theorem flat12 : (tab gl).flat 12 = true := rfl
@[go_sem] theorem kind14 : (tab gl).kind 14 = .struct [(0, 9), (1, 12)] := rfl
@[go_sem] theorem size14 : (tab gl).size 14 = 2 := rfl
@[go_sem] theorem bytes14 : (tab gl).bytes 14 = 24 := rfl
@[go_sem] theorem zero14 : (tab gl).zero 14 = [.string ⟨#[]⟩, .int .u64 0] := rfl
@[go_sem] theorem flat14 : (tab gl).flat 14 = true := rfl
@[go_sem] theorem kind19 : (tab gl).kind 19 = .struct [(0, 17)] := rfl
@[go_sem] theorem size19 : (tab gl).size 19 = 1 := rfl
@[go_sem] theorem bytes19 : (tab gl).bytes 19 = 8 := rfl
@[go_sem] theorem zero19 : (tab gl).zero 19 = [.pointer none] := rfl
@[go_sem] theorem flat19 : (tab gl).flat 19 = false := rfl
@[go_sem] theorem kind21 : (tab gl).kind 21 = .int .i32 := rfl
@[go_sem] theorem size21 : (tab gl).size 21 = 1 := rfl
@[go_sem] theorem bytes21 : (tab gl).bytes 21 = 4 := rfl
@[go_sem] theorem zero21 : (tab gl).zero 21 = [.int .i32 0] := rfl
@[go_sem] theorem flat21 : (tab gl).flat 21 = true := rfl
@[go_sem] theorem kind23 : (tab gl).kind 23 = .struct [(0, 3), (1, 3), (2, 3), (3, 3)] := rfl
@[go_sem] theorem size23 : (tab gl).size 23 = 4 := rfl
@[go_sem] theorem bytes23 : (tab gl).bytes 23 = 32 := rfl
@[go_sem] theorem zero23 : (tab gl).zero 23 = [.int .i64 0, .int .i64 0, .int .i64 0, .int .i64 0] := rfl
@[go_sem] theorem flat23 : (tab gl).flat 23 = true := rfl
@[go_sem] theorem kind26 : (tab gl).kind 26 = .struct [(0, 3), (1, 3), (2, 3), (3, 3)] := rfl
@[go_sem] theorem size26 : (tab gl).size 26 = 4 := rfl
@[go_sem] theorem bytes26 : (tab gl).bytes 26 = 32 := rfl
@[go_sem] theorem zero26 : (tab gl).zero 26 = [.int .i64 0, .int .i64 0, .int .i64 0, .int .i64 0] := rfl
@[go_sem] theorem flat26 : (tab gl).flat 26 = true := rfl
@[go_sem] theorem kind29 : (tab gl).kind 29 = .slice 43 := rfl
@[go_sem] theorem size29 : (tab gl).size 29 = 1 := rfl
@[go_sem] theorem bytes29 : (tab gl).bytes 29 = 24 := rfl
@[go_sem] theorem zero29 : (tab gl).zero 29 = [.slice none 0 0] := rfl
@[go_sem] theorem flat29 : (tab gl).flat 29 = false := rfl
@[go_sem] theorem elem29 : (tab gl).elem 29 = 43 := rfl
@[go_sem] theorem kind36 : (tab gl).kind 36 = .struct [(0, 3), (1, 3)] := rfl
@[go_sem] theorem size36 : (tab gl).size 36 = 2 := rfl
@[go_sem] theorem bytes36 : (tab gl).bytes 36 = 16 := rfl
@[go_sem] theorem zero36 : (tab gl).zero 36 = [.int .i64 0, .int .i64 0] := rfl
@[go_sem] theorem flat36 : (tab gl).flat 36 = true := rfl
@[go_sem] theorem kind39 : (tab gl).kind 39 = .struct [(0, 3), (1, 3)] := rfl
@[go_sem] theorem size39 : (tab gl).size 39 = 2 := rfl
@[go_sem] theorem bytes39 : (tab gl).bytes 39 = 16 := rfl
@[go_sem] theorem zero39 : (tab gl).zero 39 = [.int .i64 0, .int .i64 0] := rfl
@[go_sem] theorem flat39 : (tab gl).flat 39 = true := rfl
@[go_sem] theorem kind43 : (tab gl).kind 43 = .slice 39 := rfl
@[go_sem] theorem size43 : (tab gl).size 43 = 1 := rfl
@[go_sem] theorem bytes43 : (tab gl).bytes 43 = 24 := rfl
@[go_sem] theorem zero43 : (tab gl).zero 43 = [.slice none 0 0] := rfl
@[go_sem] theorem flat43 : (tab gl).flat 43 = false := rfl
@[go_sem] theorem elem43 : (tab gl).elem 43 = 39 := rfl
@[go_sem] theorem kind48 : (tab gl).kind 48 = .slice 9 := rfl
@[go_sem] theorem size48 : (tab gl).size 48 = 1 := rfl
@[go_sem] theorem bytes48 : (tab gl).bytes 48 = 24 := rfl
@[go_sem] theorem zero48 : (tab gl).zero 48 = [.slice none 0 0] := rfl
@[go_sem] theorem flat48 : (tab gl).flat 48 = false := rfl
@[go_sem] theorem elem48 : (tab gl).elem 48 = 9 := rfl
@[go_sem] theorem kind51 : (tab gl).kind 51 = .struct [(0, 48), (1, 3), (2, 29), (3, 43), (4, 3)] := rfl
@[go_sem] theorem size51 : (tab gl).size 51 = 5 := rfl
@[go_sem] theorem bytes51 : (tab gl).bytes 51 = 88 := rfl
@[go_sem] theorem zero51 : (tab gl).zero 51 = [.slice none 0 0, .int .i64 0, .slice none 0 0, .slice none 0 0, .int .i64 0] := rfl
@[go_sem] theorem flat51 : (tab gl).flat 51 = false := rfl
@[go_sem] theorem kind55 : (tab gl).kind 55 = .struct [(0, 48), (1, 3), (2, 29), (3, 43), (4, 4)] := rfl
@[go_sem] theorem size55 : (tab gl).size 55 = 5 := rfl
@[go_sem] theorem bytes55 : (tab gl).bytes 55 = 88 := rfl
@[go_sem] theorem zero55 : (tab gl).zero 55 = [.slice none 0 0, .int .i64 0, .slice none 0 0, .slice none 0 0, .bool false] := rfl
@[go_sem] theorem flat55 : (tab gl).flat 55 = false := rfl
@[go_sem] theorem kind69 : (tab gl).kind 69 = .slice 3 := rfl
@[go_sem] theorem size69 : (tab gl).size 69 = 1 := rfl
@[go_sem] theorem bytes69 : (tab gl).bytes 69 = 24 := rfl
@[go_sem] theorem zero69 : (tab gl).zero 69 = [.slice none 0 0] := rfl
@[go_sem] theorem flat69 : (tab gl).flat 69 = false := rfl
@[go_sem] theorem elem69 : (tab gl).elem 69 = 3 := rfl
@[go_sem] theorem kind87 : (tab gl).kind 87 = .slice 5 := rfl
@[go_sem] theorem size87 : (tab gl).size 87 = 1 := rfl
@[go_sem] theorem bytes87 : (tab gl).bytes 87 = 24 := rfl
@[go_sem] theorem zero87 : (tab gl).zero 87 = [.slice none 0 0] := rfl
@[go_sem] theorem flat87 : (tab gl).flat 87 = false := rfl
@[go_sem] theorem elem87 : (tab gl).elem 87 = 5 := rfl
@[go_sem] theorem kind89 : (tab gl).kind 89 = .struct [(0, 86), (1, 87)] := rfl
@[go_sem] theorem size89 : (tab gl).size 89 = 2 := rfl
@[go_sem] theorem bytes89 : (tab gl).bytes 89 = 32 := rfl
@[go_sem] theorem zero89 : (tab gl).zero 89 = [.pointer none, .slice none 0 0] := rfl
@[go_sem] theorem flat89 : (tab gl).flat 89 = false := rfl
@[go_sem] theorem kind107 : (tab gl).kind 107 = .int .u64 := rfl
@[go_sem] theorem size107 : (tab gl).size 107 = 1 := rfl
@[go_sem] theorem bytes107 : (tab gl).bytes 107 = 8 := rfl
@[go_sem] theorem zero107 : (tab gl).zero 107 = [.int .u64 0] := rfl
@[go_sem] theorem flat107 : (tab gl).flat 107 = true := rfl
@[go_sem] theorem kind109 : (tab gl).kind 109 = .arr 24 5 := rfl
@[go_sem] theorem size109 : (tab gl).size 109 = 24 := rfl
@[go_sem] theorem bytes109 : (tab gl).bytes 109 = 24 := rfl
@[go_sem] theorem zero109 : (tab gl).zero 109 = [.int .u8 0, .int .u8 0, .int .u8 0, .int .u8 0, .int .u8 0, .int .u8 0, .int .u8 0, .int .u8 0, .int .u8 0, .int .u8 0, .int .u8 0, .int .u8 0, .int .u8 0, .int .u8 0, .int .u8 0, .int .u8 0, .int .u8 0, .int .u8 0, .int .u8 0, .int .u8 0, .int .u8 0, .int .u8 0, .int .u8 0, .int .u8 0] := rfl
@[go_sem] theorem flat109 : (tab gl).flat 109 = true := rfl
@[go_sem] theorem elem109 : (tab gl).elem 109 = 5 := rfl
@[go_sem] theorem kind110 : (tab gl).kind 110 = .int .u64 := rfl
@[go_sem] theorem size110 : (tab gl).size 110 = 1 := rfl
@[go_sem] theorem bytes110 : (tab gl).bytes 110 = 8 := rfl
@[go_sem] theorem zero110 : (tab gl).zero 110 = [.int .u64 0] := rfl
@[go_sem] theorem flat110 : (tab gl).flat 110 = true := rfl
@[go_sem] theorem kind118 : (tab gl).kind 118 = .arr 256 5 := rfl
@[go_sem] theorem size118 : (tab gl).size 118 = 256 := rfl
@[go_sem] theorem bytes118 : (tab gl).bytes 118 = 256 := rfl
@[go_sem] theorem zero118 : (tab gl).zero 118 = [.int .u8 0, .int .u8 0, .int .u8 0, .int .u8 0, .int .u8 0, .int .u8 0, .int .u8 0, .int .u8 0, .int .u8 0, .int .u8 0, .int .u8 0, .int .u8 0, .int .u8 0, .int .u8 0, .int .u8 0, .int .u8 0, .int .u8 0, .int .u8 0, .int .u8 0, .int .u8 0, .int .u8 0, .int .u8 0, .int .u8 0, .int .u8 0, .int .u8 0, .int .u8 0, .int .u8 0, .int .u8 0, .int .u8 0, .int .u8 0, .int .u8 0, .int .u8 0, .int .u8 0, .int .u8 0, .int .u8 0, .int .u8 0, .int .u8 0, .int .u8 0, .int .u8 0, .int .u8 0, .int .u8 0, .int .u8 0, .int .u8 0, .int .u8 0, .int .u8 0, .int .u8 0, .int .u8 0, .int .u8 0, .int .u8 0, .int .u8 0, .int .u8 0, .int .u8 0, .int .u8 0, .int .u8 0, .int .u8 0, .int .u8 0, .int .u8 0, .int .u8 0, .int .u8 0, .int .u8 0, .int .u8 0, .int .u8 0, .int .u8 0, .int .u8 0, .int .u8 0, .int .u8 0, .int .u8 0, .int .u8 0, .int .u8 0, .int .u8 0, .int .u8 0, .int .u8 0, .int .u8 0, .int .u8 0, .int .u8 0, .int .u8 0, .int .u8 0, .int .u8 0, .int .u8 0, .int .u8 0, .int .u8 0, .int .u8 0, .int .u8 0, .int .u8 0, .int .u8 0, .int .u8 0, .int .u8 0, .int .u8 0, .int .u8 0, .int .u8 0, .int .u8 0, .int .u8 0, .int .u8 0, .int .u8 0, .int .u8 0, .int .u8 0, .int .u8 0, .int .u8 0, .int .u8 0, .int .u8 0, .int .u8 0, .int .u8 0, .int .u8 0, .int .u8 0, .int .u8 0, .int .u8 0, .int .u8 0, .int .u8 0, .int .u8 0, .int .u8 0, .int .u8 0, .int .u8 0, .int .u8 0, .int .u8 0, .int .u8 0, .int .u8 0, .int .u8 0, .int .u8 0, .int .u8 0, .int .u8 0, .int .u8 0, .int .u8 0, .int .u8 0, .int .u8 0, .int .u8 0, .int .u8 0, .int .u8 0, .int .u8 0, .int .u8 0, .int .u8 0, .int .u8 0, .int .u8 0, .int .u8 0, .int .u8 0, .int .u8 0, .int .u8 0, .int .u8 0, .int .u8 0, .int .u8 0, .int .u8 0, .int .u8 0, .int .u8 0, .int .u8 0, .int .u8 0, .int .u8 0, .int .u8 0, .int .u8 0, .int .u8 0, .int .u8 0, .int .u8 0, .int .u8 0, .int .u8 0, .int .u8 0, .int .u8 0, .int .u8 0, .int .u8 0, .int .u8 0, .int .u8 0, .int .u8 0, .int .u8 0, .int .u8 0, .int .u8 0, .int .u8 0, .int .u8 0, .int .u8 0, .int .u8 0, .int .u8 0, .int .u8 0, .int .u8 0, .int .u8 0, .int .u8 0, .int .u8 0, .int .u8 0, .int .u8 0, .int .u8 0, .int .u8 0, .int .u8 0, .int .u8 0, .int .u8 0, .int .u8 0, .int .u8 0, .int .u8 0, .int .u8 0, .int .u8 0, .int .u8 0, .int .u8 0, .int .u8 0, .int .u8 0, .int .u8 0, .int .u8 0, .int .u8 0, .int .u8 0, .int .u8 0, .int .u8 0, .int .u8 0, .int .u8 0, .int .u8 0, .int .u8 0, .int .u8 0, .int .u8 0, .int .u8 0, .int .u8 0, .int .u8 0, .int .u8 0, .int .u8 0, .int .u8 0, .int .u8 0, .int .u8 0, .int .u8 0, .int .u8 0, .int .u8 0, .int .u8 0, .int .u8 0, .int .u8 0, .int .u8 0, .int .u8 0, .int .u8 0, .int .u8 0, .int .u8 0, .int .u8 0, .int .u8 0, .int .u8 0, .int .u8 0, .int .u8 0, .int .u8 0, .int .u8 0, .int .u8 0, .int .u8 0, .int .u8 0, .int .u8 0, .int .u8 0, .int .u8 0, .int .u8 0, .int .u8 0, .int .u8 0, .int .u8 0, .int .u8 0, .int .u8 0, .int .u8 0, .int .u8 0, .int .u8 0, .int .u8 0, .int .u8 0, .int .u8 0, .int .u8 0, .int .u8 0, .int .u8 0, .int .u8 0, .int .u8 0, .int .u8 0, .int .u8 0, .int .u8 0, .int .u8 0, .int .u8 0, .int .u8 0, .int .u8 0] := rfl
@[go_sem] theorem flat118 : (tab gl).flat 118 = true := rfl
@[go_sem] theorem elem118 : (tab gl).elem 118 = 5 := rfl
@[go_sem] theorem kind120 : (tab gl).kind 120 = .struct [(0, 5), (1, 5)] := rfl
@[go_sem] theorem size120 : (tab gl).size 120 = 2 := rfl
@[go_sem] theorem bytes120 : (tab gl).bytes 120 = 2 := rfl
@[go_sem] theorem zero120 : (tab gl).zero 120 = [.int .u8 0, .int .u8 0] := rfl
@[go_sem] theorem flat120 : (tab gl).flat 120 = true := rfl
@[go_sem] theorem kind121 : (tab gl).kind 121 = .arr 16 120 := rfl
@[go_sem] theorem size121 : (tab gl).size 121 = 32 := rfl
@[go_sem] theorem bytes121 : (tab gl).bytes 121 = 32 := rfl
@[go_sem] theorem zero121 : (tab gl).zero 121 = [.int .u8 0, .int .u8 0, .int .u8 0, .int .u8 0, .int .u8 0, .int .u8 0, .int .u8 0, .int .u8 0, .int .u8 0, .int .u8 0, .int .u8 0, .int .u8 0, .int .u8 0, .int .u8 0, .int .u8 0, .int .u8 0, .int .u8 0, .int .u8 0, .int .u8 0, .int .u8 0, .int .u8 0, .int .u8 0, .int .u8 0, .int .u8 0, .int .u8 0, .int .u8 0, .int .u8 0, .int .u8 0, .int .u8 0, .int .u8 0, .int .u8 0, .int .u8 0] := rfl
@[go_sem] theorem flat121 : (tab gl).flat 121 = true := rfl
@[go_sem] theorem elem121 : (tab gl).elem 121 = 120 := rfl
@[go_sem] theorem kind122 : (tab gl).kind 122 = .int .u32 := rfl
@[go_sem] theorem size122 : (tab gl).size 122 = 1 := rfl
@[go_sem] theorem bytes122 : (tab gl).bytes 122 = 4 := rfl
@[go_sem] theorem zero122 : (tab gl).zero 122 = [.int .u32 0] := rfl
@[go_sem] theorem flat122 : (tab gl).flat 122 = true := rfl
@[go_sem] theorem kind125 : (tab gl).kind 125 = .int .i64 := rfl
@[go_sem] theorem size125 : (tab gl).size 125 = 1 := rfl
@[go_sem] theorem bytes125 : (tab gl).bytes 125 = 8 := rfl
@[go_sem] theorem zero125 : (tab gl).zero 125 = [.int .i64 0] := rfl
@[go_sem] theorem flat125 : (tab gl).flat 125 = true := rfl
@[go_sem] theorem kind132 : (tab gl).kind 132 = .arr 20 110 := rfl
@[go_sem] theorem size132 : (tab gl).size 132 = 20 := rfl
@[go_sem] theorem bytes132 : (tab gl).bytes 132 = 160 := rfl
@[go_sem] theorem zero132 : (tab gl).zero 132 = [.int .u64 0, .int .u64 0, .int .u64 0, .int .u64 0, .int .u64 0, .int .u64 0, .int .u64 0, .int .u64 0, .int .u64 0, .int .u64 0, .int .u64 0, .int .u64 0, .int .u64 0, .int .u64 0, .int .u64 0, .int .u64 0, .int .u64 0, .int .u64 0, .int .u64 0, .int .u64 0] := rfl
@[go_sem] theorem flat132 : (tab gl).flat 132 = true := rfl
@[go_sem] theorem elem132 : (tab gl).elem 132 = 110 := rfl
@[go_sem] theorem kind133 : (tab gl).kind 133 = .arr 65 5 := rfl
@[go_sem] theorem size133 : (tab gl).size 133 = 65 := rfl
@[go_sem] theorem bytes133 : (tab gl).bytes 133 = 65 := rfl
@[go_sem] theorem zero133 : (tab gl).zero 133 = [.int .u8 0, .int .u8 0, .int .u8 0, .int .u8 0, .int .u8 0, .int .u8 0, .int .u8 0, .int .u8 0, .int .u8 0, .int .u8 0, .int .u8 0, .int .u8 0, .int .u8 0, .int .u8 0, .int .u8 0, .int .u8 0, .int .u8 0, .int .u8 0, .int .u8 0, .int .u8 0, .int .u8 0, .int .u8 0, .int .u8 0, .int .u8 0, .int .u8 0, .int .u8 0, .int .u8 0, .int .u8 0, .int .u8 0, .int .u8 0, .int .u8 0, .int .u8 0, .int .u8 0, .int .u8 0, .int .u8 0, .int .u8 0, .int .u8 0, .int .u8 0, .int .u8 0, .int .u8 0, .int .u8 0, .int .u8 0, .int .u8 0, .int .u8 0, .int .u8 0, .int .u8 0, .int .u8 0, .int .u8 0, .int .u8 0, .int .u8 0, .int .u8 0, .int .u8 0, .int .u8 0, .int .u8 0, .int .u8 0, .int .u8 0, .int .u8 0, .int .u8 0, .int .u8 0, .int .u8 0, .int .u8 0, .int .u8 0, .int .u8 0, .int .u8 0, .int .u8 0] := rfl
@[go_sem] theorem flat133 : (tab gl).flat 133 = true := rfl
@[go_sem] theorem elem133 : (tab gl).elem 133 = 5 := rfl
@[go_sem] theorem kind139 : (tab gl).kind 139 = .struct [(0, 9), (1, 9), (2, 92)] := rfl
@[go_sem] theorem size139 : (tab gl).size 139 = 3 := rfl
@[go_sem] theorem bytes139 : (tab gl).bytes 139 = 48 := rfl
@[go_sem] theorem zero139 : (tab gl).zero 139 = [.string ⟨#[]⟩, .string ⟨#[]⟩, .nilIface] := rfl
@[go_sem] theorem flat139 : (tab gl).flat 139 = false := rfl
@[go_sem] theorem kind145 : (tab gl).kind 145 = .struct [(0, 9)] := rfl
@[go_sem] theorem size145 : (tab gl).size 145 = 1 := rfl
@[go_sem] theorem bytes145 : (tab gl).bytes 145 = 16 := rfl
@[go_sem] theorem zero145 : (tab gl).zero 145 = [.string ⟨#[]⟩] := rfl
@[go_sem] theorem flat145 : (tab gl).flat 145 = true := rfl
@[go_sem] theorem kind146 : (tab gl).kind 146 = .arr 32 5 := rfl
@[go_sem] theorem size146 : (tab gl).size 146 = 32 := rfl
@[go_sem] theorem bytes146 : (tab gl).bytes 146 = 32 := rfl
@[go_sem] theorem zero146 : (tab gl).zero 146 = [.int .u8 0, .int .u8 0, .int .u8 0, .int .u8 0, .int .u8 0, .int .u8 0, .int .u8 0, .int .u8 0, .int .u8 0, .int .u8 0, .int .u8 0, .int .u8 0, .int .u8 0, .int .u8 0, .int .u8 0, .int .u8 0, .int .u8 0, .int .u8 0, .int .u8 0, .int .u8 0, .int .u8 0, .int .u8 0, .int .u8 0, .int .u8 0, .int .u8 0, .int .u8 0, .int .u8 0, .int .u8 0, .int .u8 0, .int .u8 0, .int .u8 0, .int .u8 0] := rfl
@[go_sem] theorem flat146 : (tab gl).flat 146 = true := rfl
@[go_sem] theorem elem146 : (tab gl).elem 146 = 5 := rfl
@[go_sem] theorem kind147 : (tab gl).kind 147 = .arr 64 5 := rfl
@[go_sem] theorem size147 : (tab gl).size 147 = 64 := rfl
@[go_sem] theorem bytes147 : (tab gl).bytes 147 = 64 := rfl
@[go_sem] theorem zero147 : (tab gl).zero 147 = [.int .u8 0, .int .u8 0, .int .u8 0, .int .u8 0, .int .u8 0, .int .u8 0, .int .u8 0, .int .u8 0, .int .u8 0, .int .u8 0, .int .u8 0, .int .u8 0, .int .u8 0, .int .u8 0, .int .u8 0, .int .u8 0, .int .u8 0, .int .u8 0, .int .u8 0, .int .u8 0, .int .u8 0, .int .u8 0, .int .u8 0, .int .u8 0, .int .u8 0, .int .u8 0, .int .u8 0, .int .u8 0, .int .u8 0, .int .u8 0, .int .u8 0, .int .u8 0, .int .u8 0, .int .u8 0, .int .u8 0, .int .u8 0, .int .u8 0, .int .u8 0, .int .u8 0, .int .u8 0, .int .u8 0, .int .u8 0, .int .u8 0, .int .u8 0, .int .u8 0, .int .u8 0, .int .u8 0, .int .u8 0, .int .u8 0, .int .u8 0, .int .u8 0, .int .u8 0, .int .u8 0, .int .u8 0, .int .u8 0, .int .u8 0, .int .u8 0, .int .u8 0, .int .u8 0, .int .u8 0, .int .u8 0, .int .u8 0, .int .u8 0, .int .u8 0] := rfl
@[go_sem] theorem flat147 : (tab gl).flat 147 = true := rfl
@[go_sem] theorem elem147 : (tab gl).elem 147 = 5 := rfl
@[go_sem] theorem kind149 : (tab gl).kind 149 = .struct [(0, 17), (1, 17), (2, 17), (3, 9)] := rfl
@[go_sem] theorem size149 : (tab gl).size 149 = 4 := rfl
@[go_sem] theorem bytes149 : (tab gl).bytes 149 = 40 := rfl
@[go_sem] theorem zero149 : (tab gl).zero 149 = [.pointer none, .pointer none, .pointer none, .string ⟨#[]⟩] := rfl
@[go_sem] theorem flat149 : (tab gl).flat 149 = false := rfl
@[go_sem] theorem kind150 : (tab gl).kind 150 = .arr 0 16 := rfl
@[go_sem] theorem size150 : (tab gl).size 150 = 0 := rfl
@[go_sem] theorem bytes150 : (tab gl).bytes 150 = 0 := rfl
@[go_sem] theorem zero150 : (tab gl).zero 150 = [] := rfl
@[go_sem] theorem flat150 : (tab gl).flat 150 = false := rfl
@[go_sem] theorem elem150 : (tab gl).elem 150 = 16 := rfl
@[go_sem] theorem kind152 : (tab gl).kind 152 = .struct [(0, 150)] := rfl
@[go_sem] theorem size152 : (tab gl).size 152 = 0 := rfl
@[go_sem] theorem bytes152 : (tab gl).bytes 152 = 0 := rfl
@[go_sem] theorem zero152 : (tab gl).zero 152 = [] := rfl
@[go_sem] theorem flat152 : (tab gl).flat 152 = false := rfl
@[go_sem] theorem kind153 : (tab gl).kind 153 = .int .u8 := rfl
@[go_sem] theorem size153 : (tab gl).size 153 = 1 := rfl
@[go_sem] theorem bytes153 : (tab gl).bytes 153 = 1 := rfl
@[go_sem] theorem zero153 : (tab gl).zero 153 = [.int .u8 0] := rfl
@[go_sem] theorem flat153 : (tab gl).flat 153 = true := rfl
@[go_sem] theorem kind154 : (tab gl).kind 154 = .int .u8 := rfl
@[go_sem] theorem size154 : (tab gl).size 154 = 1 := rfl
@[go_sem] theorem bytes154 : (tab gl).bytes 154 = 1 := rfl
@[go_sem] theorem zero154 : (tab gl).zero 154 = [.int .u8 0] := rfl
@[go_sem] theorem flat154 : (tab gl).flat 154 = true := rfl
@[go_sem] theorem kind156 : (tab gl).kind 156 = .int .i32 := rfl
@[go_sem] theorem size156 : (tab gl).size 156 = 1 := rfl
@[go_sem] theorem bytes156 : (tab gl).bytes 156 = 4 := rfl
@[go_sem] theorem zero156 : (tab gl).zero 156 = [.int .i32 0] := rfl
@[go_sem] theorem flat156 : (tab gl).flat 156 = true := rfl
@[go_sem] theorem kind157 : (tab gl).kind 157 = .int .i32 := rfl
@[go_sem] theorem size157 : (tab gl).size 157 = 1 := rfl
@[go_sem] theorem bytes157 : (tab gl).bytes 157 = 4 := rfl
@[go_sem] theorem zero157 : (tab gl).zero 157 = [.int .i32 0] := rfl
@[go_sem] theorem flat157 : (tab gl).flat 157 = true := rfl
@[go_sem] theorem kind159 : (tab gl).kind 159 = .struct [(0, 12), (1, 12), (2, 122), (3, 153), (4, 5), (5, 5), (6, 154), (7, 155), (8, 105), (9, 156), (10, 157)] := rfl
@[go_sem] theorem size159 : (tab gl).size 159 = 11 := rfl
@[go_sem] theorem bytes159 : (tab gl).bytes 159 = 48 := rfl
@[go_sem] theorem zero159 : (tab gl).zero 159 = [.int .u64 0, .int .u64 0, .int .u32 0, .int .u8 0, .int .u8 0, .int .u8 0, .int .u8 0, .nilFunc, .pointer none, .int .i32 0, .int .i32 0] := rfl
@[go_sem] theorem flat159 : (tab gl).flat 159 = false := rfl
theorem tiOk2 : TiOk Tryd.prog 2 ti2 := ⟨⟨_, Tryd.type2, rfl, rfl, _, rfl, rfl⟩, ⟨_, Tryd.underlying2, by first | exact rfl | exact trivial | (refine ⟨rfl, rfl⟩)⟩⟩
theorem tiOk3 : TiOk Tryd.prog 3 ti3 := ⟨⟨_, Tryd.type3, rfl, rfl, _, rfl, rfl⟩, ⟨_, Tryd.underlying3, by first | exact rfl | exact trivial | (refine ⟨rfl, rfl⟩)⟩⟩
theorem tiOk4 : TiOk Tryd.prog 4 ti4 := ⟨⟨_, Tryd.type4, rfl, rfl, _, rfl, rfl⟩, ⟨_, Tryd.underlying4, by first | exact rfl | exact trivial | (refine ⟨rfl, rfl⟩)⟩⟩
theorem tiOk5 : TiOk Tryd.prog 5 ti5 := ⟨⟨_, Tryd.type5, rfl, rfl, _, rfl, rfl⟩, ⟨_, Tryd.underlying5, by first | exact rfl | exact trivial | (refine ⟨rfl, rfl⟩)⟩⟩
theorem tiOk6 : TiOk Tryd.prog 6 ti6 := ⟨⟨_, Tryd.type6, rfl, rfl, _, rfl, rfl⟩, ⟨_, Tryd.underlying6, by first | exact rfl | exact trivial | (refine ⟨rfl, rfl⟩)⟩⟩
theorem tiOk8 : TiOk Tryd.prog 8 ti8 := ⟨⟨_, Tryd.type8, rfl, rfl, _, rfl, rfl⟩, ⟨_, Tryd.underlying8, by first | exact rfl | exact trivial | (refine ⟨rfl, rfl⟩)⟩⟩
theorem tiOk9 : TiOk Tryd.prog 9 ti9 := ⟨⟨_, Tryd.type9, rfl, rfl, _, rfl, rfl⟩, ⟨_, Tryd.underlying9, by first | exact rfl | exact trivial | (refine ⟨rfl, rfl⟩)⟩⟩
theorem tiOk10 : TiOk Tryd.prog 10 ti10 := ⟨⟨_, Tryd.type10, rfl, rfl, _, rfl, rfl⟩, ⟨_, Tryd.underlying10, by first | exact rfl | exact trivial | (refine ⟨rfl, rfl⟩)⟩⟩
theorem tiOk11 : TiOk Tryd.prog 11 ti11 := ⟨⟨_, Tryd.type11, rfl, rfl, _, rfl, rfl⟩, ⟨_, Tryd.underlying11, by first | exact rfl | exact trivial | (refine ⟨rfl, rfl⟩)⟩⟩
theorem tiOk12 : TiOk Tryd.prog 12 ti12 := ⟨⟨_, Tryd.type12, rfl, rfl, _, rfl, rfl⟩, ⟨_, Tryd.underlying12, by first | exact rfl | exact trivial | (refine ⟨rfl, rfl⟩)⟩⟩
theorem tiOk14 : TiOk Tryd.prog 14 ti14 := ⟨⟨_, Tryd.type14, rfl, rfl, _, rfl, rfl⟩, ⟨_, Tryd.underlying14, by first | exact rfl | exact trivial | (refine ⟨rfl, rfl⟩)⟩⟩
theorem tiOk19 : TiOk Tryd.prog 19 ti19 := ⟨⟨_, Tryd.type19, rfl, rfl, _, rfl, rfl⟩, ⟨_, Tryd.underlying19, by first | exact rfl | exact trivial | (refine ⟨rfl, rfl⟩)⟩⟩
theorem tiOk21 : TiOk Tryd.prog 21 ti21 := ⟨⟨_, Tryd.type21, rfl, rfl, _, rfl, rfl⟩, ⟨_, Tryd.underlying21, by first | exact rfl | exact trivial | (refine ⟨rfl, rfl⟩)⟩⟩
theorem tiOk23 : TiOk Tryd.prog 23 ti23 := ⟨⟨_, Tryd.type23, rfl, rfl, _, rfl, rfl⟩, ⟨_, Tryd.underlying23, by first | exact rfl | exact trivial | (refine ⟨rfl, rfl⟩)⟩⟩
theorem tiOk26 : TiOk Tryd.prog 26 ti26 := ⟨⟨_, Tryd.type26, rfl, rfl, _, rfl, rfl⟩, ⟨_, Tryd.underlying26, by first | exact rfl | exact trivial | (refine ⟨rfl, rfl⟩)⟩⟩
theorem tiOk29 : TiOk Tryd.prog 29 ti29 := ⟨⟨_, Tryd.type29, rfl, rfl, _, rfl, rfl⟩, ⟨_, Tryd.underlying29, by first | exact rfl | exact trivial | (refine ⟨rfl, rfl⟩)⟩⟩
theorem tiOk36 : TiOk Tryd.prog 36 ti36 := ⟨⟨_, Tryd.type36, rfl, rfl, _, rfl, rfl⟩, ⟨_, Tryd.underlying36, by first | exact rfl | exact trivial | (refine ⟨rfl, rfl⟩)⟩⟩
theorem tiOk39 : TiOk Tryd.prog 39 ti39 := ⟨⟨_, Tryd.type39, rfl, rfl, _, rfl, rfl⟩, ⟨_, Tryd.underlying39, by first | exact rfl | exact trivial | (refine ⟨rfl, rfl⟩)⟩⟩
theorem tiOk43 : TiOk Tryd.prog 43 ti43 := ⟨⟨_, Tryd.type43, rfl, rfl, _, rfl, rfl⟩, ⟨_, Tryd.underlying43, by first | exact rfl | exact trivial | (refine ⟨rfl, rfl⟩)⟩⟩
theorem tiOk48 : TiOk Tryd.prog 48 ti48 := ⟨⟨_, Tryd.type48, rfl, rfl, _, rfl, rfl⟩, ⟨_, Tryd.underlying48, by first | exact rfl | exact trivial | (refine ⟨rfl, rfl⟩)⟩⟩
theorem tiOk51 : TiOk Tryd.prog 51 ti51 := ⟨⟨_, Tryd.type51, rfl, rfl, _, rfl, rfl⟩, ⟨_, Tryd.underlying51, by first | exact rfl | exact trivial | (refine ⟨rfl, rfl⟩)⟩⟩
theorem tiOk55 : TiOk Tryd.prog 55 ti55 := ⟨⟨_, Tryd.type55, rfl, rfl, _, rfl, rfl⟩, ⟨_, Tryd.underlying55, by first | exact rfl | exact trivial | (refine ⟨rfl, rfl⟩)⟩⟩
theorem tiOk69 : TiOk Tryd.prog 69 ti69 := ⟨⟨_, Tryd.type69, rfl, rfl, _, rfl, rfl⟩, ⟨_, Tryd.underlying69, by first | exact rfl | exact trivial | (refine ⟨rfl, rfl⟩)⟩⟩
theorem tiOk87 : TiOk Tryd.prog 87 ti87 := ⟨⟨_, Tryd.type87, rfl, rfl, _, rfl, rfl⟩, ⟨_, Tryd.underlying87, by first | exact rfl | exact trivial | (refine ⟨rfl, rfl⟩)⟩⟩
theorem tiOk89 : TiOk Tryd.prog 89 ti89 := ⟨⟨_, Tryd.type89, rfl, rfl, _, rfl, rfl⟩, ⟨_, Tryd.underlying89, by first | exact rfl | exact trivial | (refine ⟨rfl, rfl⟩)⟩⟩
theorem tiOk107 : TiOk Tryd.prog 107 ti107 := ⟨⟨_, Tryd.type107, rfl, rfl, _, rfl, rfl⟩, ⟨_, Tryd.underlying107, by first | exact rfl | exact trivial | (refine ⟨rfl, rfl⟩)⟩⟩
theorem tiOk109 : TiOk Tryd.prog 109 ti109 := ⟨⟨_, Tryd.type109, rfl, rfl, _, rfl, rfl⟩, ⟨_, Tryd.underlying109, by first | exact rfl | exact trivial | (refine ⟨rfl, rfl⟩)⟩⟩
theorem tiOk110 : TiOk Tryd.prog 110 ti110 := ⟨⟨_, Tryd.type110, rfl, rfl, _, rfl, rfl⟩, ⟨_, Tryd.underlying110, by first | exact rfl | exact trivial | (refine ⟨rfl, rfl⟩)⟩⟩
theorem tiOk118 : TiOk Tryd.prog 118 ti118 := ⟨⟨_, Tryd.type118, rfl, rfl, _, rfl, rfl⟩, ⟨_, Tryd.underlying118, by first | exact rfl | exact trivial | (refine ⟨rfl, rfl⟩)⟩⟩
theorem tiOk120 : TiOk Tryd.prog 120 ti120 := ⟨⟨_, Tryd.type120, rfl, rfl, _, rfl, rfl⟩, ⟨_, Tryd.underlying120, by first | exact rfl | exact trivial | (refine ⟨rfl, rfl⟩)⟩⟩
theorem tiOk121 : TiOk Tryd.prog 121 ti121 := ⟨⟨_, Tryd.type121, rfl, rfl, _, rfl, rfl⟩, ⟨_, Tryd.underlying121, by first | exact rfl | exact trivial | (refine ⟨rfl, rfl⟩)⟩⟩
theorem tiOk122 : TiOk Tryd.prog 122 ti122 := ⟨⟨_, Tryd.type122, rfl, rfl, _, rfl, rfl⟩, ⟨_, Tryd.underlying122, by first | exact rfl | exact trivial | (refine ⟨rfl, rfl⟩)⟩⟩
theorem tiOk125 : TiOk Tryd.prog 125 ti125 := ⟨⟨_, Tryd.type125, rfl, rfl, _, rfl, rfl⟩, ⟨_, Tryd.underlying125, by first | exact rfl | exact trivial | (refine ⟨rfl, rfl⟩)⟩⟩
theorem tiOk132 : TiOk Tryd.prog 132 ti132 := ⟨⟨_, Tryd.type132, rfl, rfl, _, rfl, rfl⟩, ⟨_, Tryd.underlying132, by first | exact rfl | exact trivial | (refine ⟨rfl, rfl⟩)⟩⟩
theorem tiOk133 : TiOk Tryd.prog 133 ti133 := ⟨⟨_, Tryd.type133, rfl, rfl, _, rfl, rfl⟩, ⟨_, Tryd.underlying133, by first | exact rfl | exact trivial | (refine ⟨rfl, rfl⟩)⟩⟩
theorem tiOk139 : TiOk Tryd.prog 139 ti139 := ⟨⟨_, Tryd.type139, rfl, rfl, _, rfl, rfl⟩, ⟨_, Tryd.underlying139, by first | exact rfl | exact trivial | (refine ⟨rfl, rfl⟩)⟩⟩
theorem tiOk145 : TiOk Tryd.prog 145 ti145 := ⟨⟨_, Tryd.type145, rfl, rfl, _, rfl, rfl⟩, ⟨_, Tryd.underlying145, by first | exact rfl | exact trivial | (refine ⟨rfl, rfl⟩)⟩⟩
theorem tiOk146 : TiOk Tryd.prog 146 ti146 := ⟨⟨_, Tryd.type146, rfl, rfl, _, rfl, rfl⟩, ⟨_, Tryd.underlying146, by first | exact rfl | exact trivial | (refine ⟨rfl, rfl⟩)⟩⟩
theorem tiOk147 : TiOk Tryd.prog 147 ti147 := ⟨⟨_, Tryd.type147, rfl, rfl, _, rfl, rfl⟩, ⟨_, Tryd.underlying147, by first | exact rfl | exact trivial | (refine ⟨rfl, rfl⟩)⟩⟩
theorem tiOk149 : TiOk Tryd.prog 149 ti149 := ⟨⟨_, Tryd.type149, rfl, rfl, _, rfl, rfl⟩, ⟨_, Tryd.underlying149, by first | exact rfl | exact trivial | (refine ⟨rfl, rfl⟩)⟩⟩
theorem tiOk150 : TiOk Tryd.prog 150 ti150 := ⟨⟨_, Tryd.type150, rfl, rfl, _, rfl, rfl⟩, ⟨_, Tryd.underlying150, by first | exact rfl | exact trivial | (refine ⟨rfl, rfl⟩)⟩⟩
theorem tiOk152 : TiOk Tryd.prog 152 ti152 := ⟨⟨_, Tryd.type152, rfl, rfl, _, rfl, rfl⟩, ⟨_, Tryd.underlying152, by first | exact rfl | exact trivial | (refine ⟨rfl, rfl⟩)⟩⟩
theorem tiOk153 : TiOk Tryd.prog 153 ti153 := ⟨⟨_, Tryd.type153, rfl, rfl, _, rfl, rfl⟩, ⟨_, Tryd.underlying153, by first | exact rfl | exact trivial | (refine ⟨rfl, rfl⟩)⟩⟩
theorem tiOk154 : TiOk Tryd.prog 154 ti154 := ⟨⟨_, Tryd.type154, rfl, rfl, _, rfl, rfl⟩, ⟨_, Tryd.underlying154, by first | exact rfl | exact trivial | (refine ⟨rfl, rfl⟩)⟩⟩
theorem tiOk156 : TiOk Tryd.prog 156 ti156 := ⟨⟨_, Tryd.type156, rfl, rfl, _, rfl, rfl⟩, ⟨_, Tryd.underlying156, by first | exact rfl | exact trivial | (refine ⟨rfl, rfl⟩)⟩⟩
theorem tiOk157 : TiOk Tryd.prog 157 ti157 := ⟨⟨_, Tryd.type157, rfl, rfl, _, rfl, rfl⟩, ⟨_, Tryd.underlying157, by first | exact rfl | exact trivial | (refine ⟨rfl, rfl⟩)⟩⟩
theorem tiOk159 : TiOk Tryd.prog 159 ti159 := ⟨⟨_, Tryd.type159, rfl, rfl, _, rfl, rfl⟩, ⟨_, Tryd.underlying159, by first | exact rfl | exact trivial | (refine ⟨rfl, rfl⟩)⟩⟩
theorem lk_forall {p : Nat → TI → Prop} : ∀ (l : List (Nat × TI)), (∀ q, q ∈ l → p q.1 q.2) → ∀ t i, lk l t = some i → p t i := by
  intro l
  induction l with
  | nil => intro _ t i h; simp [lk] at h
  | cons q l ih =>
    obtain ⟨d, v⟩ := q
    intro hl t i h
    simp only [lk] at h
    cases hd : (d == t) with
    | true => rw [hd] at h; simp only [cond_true, Option.some.injEq] at h; simp only [beq_iff_eq] at hd; subst hd; subst h; exact hl _ List.mem_cons_self
    | false => rw [hd] at h; exact ih (fun q hq => hl q (List.mem_cons_of_mem _ hq)) t i h
theorem tabOk : TabOk (EE gl).P (EE gl).T := by
  refine lk_forall (p := fun t i => TiOk Tryd.prog t i) tabTypes ?_
  unfold tabTypes
  simp only [List.forall_mem_cons]
  exact ⟨tiOk2, tiOk3, tiOk4, tiOk5, tiOk6, tiOk8, tiOk9, tiOk10, tiOk11, tiOk12, tiOk14, tiOk19, tiOk21, tiOk23, tiOk26, tiOk29, tiOk36, tiOk39, tiOk43, tiOk48, tiOk51, tiOk55, tiOk69, tiOk87, tiOk89, tiOk107, tiOk109, tiOk110, tiOk118, tiOk120, tiOk121, tiOk122, tiOk125, tiOk132, tiOk133, tiOk139, tiOk145, tiOk146, tiOk147, tiOk149, tiOk150, tiOk152, tiOk153, tiOk154, tiOk156, tiOk157, tiOk159, fun _ h => nomatch h⟩
theorem mixed : (EE gl).P.follows .mixedOrders = true := by kernel_rfl
end Go.Ax
end

section
namespace Go.Ax
open Go Go.Proofs
variable {gl : Gl}

abbrev vI (x : Int) : D := .v (.int .i64 x)
abbrev vB (x : Bool) : D := .v (.bool x)
abbrev vS (x : ByteArray) : D := .v (.string x)
abbrev iA (x : Int) : Arg := .one (vI x)
abbrev bA (x : Bool) : Arg := .one (vB x)
abbrev sA (x : ByteArray) : Arg := .one (vS x)
abbrev iR (x : Int) : R1 := .one (.fz (vI x))
abbrev bR (x : Bool) : R1 := .one (.fz (vB x))
abbrev sR (x : ByteArray) : R1 := .one (.fz (vS x))
def dp0 : Nat → Bool := fun _ => false

def Det (gl : Gl) (f : FuncId) (args : List Arg) (r : Res) (u : List Arg) : Prop := ACall (EE gl) f args fun r' u' => r' = r ∧ u' = u

def bodyOf (fn : Func) : Code := match fn.body with | some c => c | none => .skip

theorem wrapI {x : Int} (h1 : -9223372036854775808 ≤ x) (h2 : x ≤ 9223372036854775807) : IntKind.i64.wrap x = x := by
  have e1 : (2 : Int) ^ 64 = 18446744073709551616 := by decide
  have e2 : (2 : Int) ^ (64 - 1) = 9223372036854775808 := by decide
  simp only [IntKind.wrap, IntKind.bits, IntKind.signed, e1, e2, Bool.true_and, decide_eq_true_eq]
  split <;> omega

theorem wrapN {n : Nat} (h : n < 4611686018427387904) : IntKind.i64.wrap ((n : Int) + 1) = ((n + 1 : Nat) : Int) := by
  rw [wrapI (by omega) (by omega)]; omega

theorem wrap_u8 {x : Int} (h1 : 0 ≤ x) (h2 : x < 256) : IntKind.u8.wrap x = x := by
  have e1 : (2 : Int) ^ 8 = 256 := by decide
  simp only [IntKind.wrap, IntKind.bits, IntKind.signed, e1, Bool.false_and, Bool.false_eq_true, if_false]
  omega

def rowsF {α : Type} (enc : α → List D) (l : List α) : Nat → List D := fun i => match l[i]? with | some x => enc x | none => []

theorem rowsF_some {α : Type} {enc : α → List D} {l : List α} {i : Nat} {x : α} (h : l[i]? = some x) : rowsF enc l i = enc x := by simp [rowsF, h]

def IsRow {α : Type} (enc : α → List D) (l : List α) (n : Nat) (row : Nat → List D) : Prop := n = l.length ∧ ∀ i x, l[i]? = some x → row i = enc x

theorem isRow_F {α : Type} (enc : α → List D) (l : List α) : IsRow enc l l.length (rowsF enc l) := ⟨rfl, fun _ _ h => rowsF_some h⟩
theorem isRow_nil {α : Type} (enc : α → List D) (row : Nat → List D) : IsRow enc [] 0 row := ⟨rfl, fun _ _ h => by simp at h⟩
theorem IsRow.same {α : Type} {enc : α → List D} {l : List α} {n : Nat} {row : Nat → List D} (h : IsRow enc l n row) : sameRow n row (rowsF enc l) := fun i hi => by
  have : l[i]? = some (l[i]'(by have := h.1; omega)) := by simp
  rw [h.2 i _ this, rowsF_some this]

theorem IsRow.app {α : Type} {enc : α → List D} {l : List α} {n : Nat} {row : Nat → List D} (h : IsRow enc l n row) (x : α) {row' : Nat → List D} (hx : row' 0 = enc x) : IsRow enc (l ++ [x]) (n + 1) (catRow n row row') := by
  obtain ⟨rfl, h2⟩ := h
  refine ⟨by simp, fun i y hi => ?_⟩
  unfold catRow
  by_cases hlt : i < l.length
  · rw [List.getElem?_append_left hlt] at hi
    simp only [hlt, decide_true, cond_true]; exact h2 i y hi
  · have hge : l.length ≤ i := by omega
    rw [List.getElem?_append_right hge] at hi
    simp only [hlt, decide_false, cond_false]
    have h0 : i - l.length = 0 := by
      rcases Nat.eq_zero_or_pos (i - l.length) with h | h
      · exact h
      · rw [List.getElem?_eq_none (by simp; omega)] at hi; cases hi
    rw [h0] at hi ⊢
    simp at hi; subst hi; exact hx

end Go.Ax
end

section
set_option maxRecDepth 4000
namespace Go.Ax
open Go Go.Proofs
variable {gl : Gl}

def inB (x lo hi : Int) : Bool := decide (lo ≤ x) && decide (x ≤ hi)

theorem c20 (x lo hi : Int) : Det gl 20 [iA x, iA lo, iA hi] [bR (inB x lo hi)] [iA x, iA lo, iA hi] := by
  refine acallD (c := bodyOf Tryd.f20) (nt := 15) (rvs := [.tmp 6]) tabOk ⟨Tryd.f20, Tryd.func20, rfl, rfl, rfl, rfl⟩ rfl ?_
  unfold bodyOf Tryd.f20
  dsimp only
  simp only [go_sem, seval]
  refine gt tabOk dp0 [] [0, 1, 2] rfl ?_; simp only [go_sem, seval]
  refine gt tabOk dp0 [] [6] rfl ?_; simp only [go_sem, seval]
  refine ⟨fun h => ?_, fun h => ?_⟩ <;> (refine awp_ret ?_; simp only [go_sem, seval, inB, h])

theorem c33 (x lo hi : Int) : Det gl 33 [iA x, iA lo, iA hi] [bR (inB x lo hi)] [iA x, iA lo, iA hi] := by
  refine acallD (c := bodyOf Tryd.f33) (nt := 15) (rvs := [.tmp 6]) tabOk ⟨Tryd.f33, Tryd.func33, rfl, rfl, rfl, rfl⟩ rfl ?_
  unfold bodyOf Tryd.f33
  dsimp only
  simp only [go_sem, seval]
  refine gt tabOk dp0 [] [0, 1, 2] rfl ?_; simp only [go_sem, seval]
  refine gt tabOk dp0 [] [6] rfl ?_; simp only [go_sem, seval]
  refine ⟨fun h => ?_, fun h => ?_⟩ <;> (refine awp_ret ?_; simp only [go_sem, seval, inB, h])

theorem c74 (x : Int) : Det gl 74 [iA x] [bR (inB x (-9999) 9999)] [iA x] := by
  refine acallD (c := bodyOf Tryd.f74) (nt := 5) (rvs := [.tmp 2]) tabOk ⟨Tryd.f74, Tryd.func74, rfl, rfl, rfl, rfl⟩ rfl ?_
  unfold bodyOf Tryd.f74
  dsimp only
  simp only [go_sem, seval]
  refine gt tabOk dp0 [] [0] rfl ?_; simp only [go_sem, seval]
  refine gt tabOk dp0 [] [2] rfl ?_; simp only [go_sem, seval]
  refine good_call (c20 ..) ?_; simp only [go_sem, seval]
  refine awp_ret ?_; simp only [go_sem, seval]

def encS (x : ByteArray) : List D := [vS x]

def bidx (w : ByteArray) : List ByteArray → Nat → Int
  | [], _ => -1
  | x :: l, i => if w = x then (i : Int) else bidx w l (i + 1)

theorem bidx_drop {w : ByteArray} {l : List ByteArray} {i : Nat} {x : ByteArray} (h : l[i]? = some x) : bidx w (l.drop i) i = if w = x then (i : Int) else bidx w (l.drop (i + 1)) (i + 1) := by
  have : l.drop i = x :: l.drop (i + 1) := by
    obtain ⟨hlt, rfl⟩ := List.getElem?_eq_some_iff.1 h
    exact (List.drop_eq_getElem_cons hlt)
  rw [this, bidx]

theorem c72 {l : List ByteArray} {n : Nat} {row : Nat → List D} (hl : IsRow encS l n row) (hn : n < 1000000000000) (w : ByteArray) : Det gl 72 [.one (.sl 1 n row), sA w] [iR (bidx w l 0)] [.one (.sl 1 n row), sA w] := by
  refine acallD (c := bodyOf Tryd.f72) (nt := 19) (rvs := [.tmp 4]) tabOk ⟨Tryd.f72, Tryd.func72, rfl, rfl, rfl, rfl⟩ rfl ?_
  unfold bodyOf Tryd.f72
  dsimp only
  simp only [go_sem, seval]
  refine gt tabOk dp0 [] [0, 1] rfl ?_; simp only [go_sem, seval]
  refine awp_seq ?_
  refine gt tabOk dp0 [] [0, 1, 7, 8] rfl ?_; simp only [go_sem, seval]
  refine gloop1 (fun i : Nat => St.m 19 [(0, .c (.dat (.sl 1 n row))), (1, .val (.string w)), (7, .int n), (8, .int i)] []) (fun i => i ≤ n ∧ bidx w l 0 = bidx w (l.drop i) i) (fun i => n - i) 0 (sub_eq rfl) ⟨by omega, rfl⟩ ?_
  intro i ⟨hi, hb⟩
  simp only [go_sem, seval]
  refine gt tabOk dp0 [] [0, 1, 7, 8, 9] rfl ?_; simp only [go_sem, seval]
  refine gif2 rfl (fun hc => ?_) (fun hc => ?_)
  rotate_left
  ·
    simp only [go_sem, seval]
    refine gt tabOk dp0 [] [4] rfl ?_; simp only [go_sem, seval]
    have : bidx w l 0 = -1 := by
      have h1 := hl.1
      simp only [decide_eq_false_iff_not] at hc
      rw [hb, List.drop_eq_nil_of_le (by omega)]; rfl
    refine awp_ret ?_; simp only [go_sem, seval, this]
  have hlt : i < n := by simpa using hc
  obtain ⟨x, hx⟩ : ∃ x, l[i]? = some x := ⟨l[i]'(by have := hl.1; omega), by simp⟩
  have hrow := hl.2 i x hx
  refine gblk ?_
  refine gt tabOk dp0 [] [0, 1, 5, 7, 8] rfl ?_; simp only [go_sem, seval]
  refine gt tabOk dp0 [] [0, 1, 5, 7, 8, 16] rfl ?_; simp only [go_sem, seval, Int.toNat_natCast, hrow, encS]
  refine ⟨by omega, ?_⟩
  refine awp_cond rfl (fun hc => ?_) (fun hc => ?_)
  ·
    refine gt tabOk dp0 [] [4] rfl ?_; simp only [go_sem, seval]
    have : bidx w l 0 = i := by rw [hb, bidx_drop hx, if_pos (by simpa using hc)]
    refine awp_ret ?_; simp only [go_sem, seval, this]
  ·
    refine awp_skip ?_; simp only [go_sem, seval]
    refine gt1 tabOk dp0 [] [0, 1, 7, 8] rfl ?_; simp only [go_sem, seval]
    rw [wrapN (by omega)]
    exact ⟨_, ⟨hlt, by rw [hb, bidx_drop hx, if_neg (by simpa using hc)]⟩, by omega, sub_eq rfl⟩

attribute [irreducible] inB bidx
end Go.Ax
end

section
set_option maxRecDepth 4000
namespace Go.Ax
open Go Go.Proofs
variable {gl : Gl}

instance decBA (a b : ByteArray) : Decidable (a = b) := inferInstance
def memB (w : ByteArray) (l : List ByteArray) : Bool := decide (0 ≤ bidx w l 0)

theorem bidx_mem (w : ByteArray) : ∀ (l : List ByteArray) (i : Nat), (0 ≤ bidx w l i ↔ w ∈ l) := by
  intro l
  induction l with
  | nil => intro i; simp [bidx]
  | cons x l ih =>
    intro i
    simp only [bidx, List.mem_cons]
    by_cases h : w = x
    · rw [if_pos h]; simp [h]
    · rw [if_neg h, ih]; simp [h]

theorem c56 {l : List ByteArray} {n : Nat} {row : Nat → List D} (hl : IsRow encS l n row) (hn : n < 1000000000000) (w : ByteArray) : Det gl 56 [.one (.sl 1 n row), sA w] [bR (memB w l)] [.one (.sl 1 n row), sA w] := by
  refine acallD (c := bodyOf Tryd.f56) (nt := 9) (rvs := [.tmp 4]) tabOk ⟨Tryd.f56, Tryd.func56, rfl, rfl, rfl, rfl⟩ rfl ?_
  unfold bodyOf Tryd.f56
  dsimp only
  simp only [go_sem, seval]
  refine gt tabOk dp0 [] [0, 1] rfl ?_; simp only [go_sem, seval]
  refine gt tabOk dp0 [] [4] rfl ?_; simp only [go_sem, seval]
  refine good_call (c72 hl hn w) ?_; simp only [go_sem, seval]
  refine awp_ret ?_; simp only [go_sem, seval, memB]

theorem c7 (x y w h : Int) : Det gl 7 [.agg [vI x, vI y, vI w, vI h]] [.agg [.fz (vI x), .fz (vI y), .fz (vI w), .fz (vI h)]] [.agg [vI x, vI y, vI w, vI h]] := by
  refine acallD (c := bodyOf Tryd.f7) (nt := 17) (rvs := [.cell 2 26]) tabOk ⟨Tryd.f7, Tryd.func7, rfl, rfl, rfl, rfl⟩ rfl ?_
  unfold bodyOf Tryd.f7
  dsimp only
  simp only [go_sem, seval]
  refine gt tabOk dp0 [((1, 0), (1, 0)), ((2, 0), (2, 0))] [1, 2] rfl ?_; simp only [go_sem, seval]
  refine gt tabOk dp0 [((1, 0), (1, 0)), ((2, 0), (2, 0)), ((3, 0), (3, 0))] [1, 2, 3] rfl ?_; simp only [go_sem, seval]
  refine gt tabOk dp0 [((1, 0), (1, 0)), ((2, 0), (2, 0)), ((3, 0), (3, 0))] [1, 2, 3] rfl ?_; simp only [go_sem, seval]
  refine gt tabOk dp0 [((1, 0), (1, 0)), ((2, 0), (2, 0)), ((3, 0), (3, 0))] [1, 2, 3] rfl ?_; simp only [go_sem, seval]
  refine gt tabOk dp0 [((1, 0), (1, 0)), ((2, 0), (2, 0)), ((3, 0), (3, 0))] [1, 2, 3] rfl ?_; simp only [go_sem, seval]
  refine gt tabOk dp0 [((2, 0), (2, 0)), ((3, 0), (3, 0))] [2, 3] rfl ?_; simp only [go_sem, seval]
  refine gt tabOk dp0 [((2, 0), (2, 0))] [2] rfl ?_; simp only [go_sem, seval]
  refine awp_ret ?_; simp only [go_sem, seval]

def goodWin (x y w h : Int) : Bool := inB x (-20) 20 && inB y (-20) 20 && inB w 1 8 && inB h 1 8

theorem c17 (x y w h : Int) : Det gl 17 [.agg [vI x, vI y, vI w, vI h]] [bR (goodWin x y w h)] [.agg [vI x, vI y, vI w, vI h]] := by
  refine acallD (c := bodyOf Tryd.f17) (nt := 21) (rvs := [.tmp 2]) tabOk ⟨Tryd.f17, Tryd.func17, rfl, rfl, rfl, rfl⟩ rfl ?_
  unfold bodyOf Tryd.f17
  dsimp only
  simp only [go_sem, seval]
  refine gt tabOk dp0 [((1, 0), (1, 0))] [1] rfl ?_; simp only [go_sem, seval]
  refine gt tabOk dp0 [] [2] rfl ?_; simp only [go_sem, seval]
  refine good_call (c33 ..) ?_; simp only [go_sem, seval]
  refine ⟨fun h1 => ?_, fun h1 => ?_⟩
  · refine good_call (c33 ..) ?_; simp only [go_sem, seval]
    refine ⟨fun h2 => ?_, fun h2 => ?_⟩
    · refine good_call (c33 ..) ?_; simp only [go_sem, seval]
      refine ⟨fun h3 => ?_, fun h3 => ?_⟩
      · refine good_call (c33 ..) ?_; simp only [go_sem, seval]
        refine awp_ret ?_; simp only [go_sem, seval, goodWin, h1, h2, h3]
      · refine awp_ret ?_; simp only [go_sem, seval, goodWin, h1, h2, h3]
    · refine awp_ret ?_; simp only [go_sem, seval, goodWin, h1, h2]
  · refine awp_ret ?_; simp only [go_sem, seval, goodWin, h1]

theorem c19 (x y w h : Int) : Det gl 19 [.agg [vI x, vI y, vI w, vI h]] [bR (goodWin x y w h)] [.agg [vI x, vI y, vI w, vI h]] := by
  refine acallD (c := bodyOf Tryd.f19) (nt := 21) (rvs := [.tmp 2]) tabOk ⟨Tryd.f19, Tryd.func19, rfl, rfl, rfl, rfl⟩ rfl ?_
  unfold bodyOf Tryd.f19
  dsimp only
  simp only [go_sem, seval]
  refine gt tabOk dp0 [((1, 0), (1, 0))] [1] rfl ?_; simp only [go_sem, seval]
  refine gt tabOk dp0 [] [2] rfl ?_; simp only [go_sem, seval]
  refine good_call (c20 ..) ?_; simp only [go_sem, seval]
  refine ⟨fun h1 => ?_, fun h1 => ?_⟩
  · refine good_call (c20 ..) ?_; simp only [go_sem, seval]
    refine ⟨fun h2 => ?_, fun h2 => ?_⟩
    · refine good_call (c20 ..) ?_; simp only [go_sem, seval]
      refine ⟨fun h3 => ?_, fun h3 => ?_⟩
      · refine good_call (c20 ..) ?_; simp only [go_sem, seval]
        refine awp_ret ?_; simp only [go_sem, seval, goodWin, h1, h2, h3]
      · refine awp_ret ?_; simp only [go_sem, seval, goodWin, h1, h2, h3]
    · refine awp_ret ?_; simp only [go_sem, seval, goodWin, h1, h2]
  · refine awp_ret ?_; simp only [go_sem, seval, goodWin, h1]

def goodPt (x y : Int) : Bool := inB x (-1000) 1000 && inB y (-1000) 1000

theorem c30 (x y : Int) : Det gl 30 [.agg [vI x, vI y]] [bR (goodPt x y)] [.agg [vI x, vI y]] := by
  refine acallD (c := bodyOf Tryd.f30) (nt := 11) (rvs := [.tmp 2]) tabOk ⟨Tryd.f30, Tryd.func30, rfl, rfl, rfl, rfl⟩ rfl ?_
  unfold bodyOf Tryd.f30
  dsimp only
  simp only [go_sem, seval]
  refine gt tabOk dp0 [((1, 0), (1, 0))] [1] rfl ?_; simp only [go_sem, seval]
  refine gt tabOk dp0 [] [2] rfl ?_; simp only [go_sem, seval]
  refine good_call (c20 ..) ?_; simp only [go_sem, seval]
  refine ⟨fun h1 => ?_, fun h1 => ?_⟩
  · refine good_call (c20 ..) ?_; simp only [go_sem, seval]
    refine awp_ret ?_; simp only [go_sem, seval, goodPt, h1]
  · refine awp_ret ?_; simp only [go_sem, seval, goodPt, h1]

theorem c43 (x y : Int) : Det gl 43 [.agg [vI x, vI y]] [bR (goodPt x y)] [.agg [vI x, vI y]] := by
  refine acallD (c := bodyOf Tryd.f43) (nt := 11) (rvs := [.tmp 2]) tabOk ⟨Tryd.f43, Tryd.func43, rfl, rfl, rfl, rfl⟩ rfl ?_
  unfold bodyOf Tryd.f43
  dsimp only
  simp only [go_sem, seval]
  refine gt tabOk dp0 [((1, 0), (1, 0))] [1] rfl ?_; simp only [go_sem, seval]
  refine gt tabOk dp0 [] [2] rfl ?_; simp only [go_sem, seval]
  refine good_call (c33 ..) ?_; simp only [go_sem, seval]
  refine ⟨fun h1 => ?_, fun h1 => ?_⟩
  · refine good_call (c33 ..) ?_; simp only [go_sem, seval]
    refine awp_ret ?_; simp only [go_sem, seval, goodPt, h1]
  · refine awp_ret ?_; simp only [go_sem, seval, goodPt, h1]

def bt (s : ByteArray) (i : Nat) : Int := ((s.data.getD i 0).toNat : Int)

theorem bt_def (s : ByteArray) (i : Nat) : bt s i = ((s.data.getD i 0).toNat : Int) := rfl
theorem bt_pos (s : ByteArray) (i : Nat) : 0 ≤ bt s i := by simp [bt]
theorem bt_lt (s : ByteArray) (i : Nat) : bt s i < 256 := by
  have := (s.data.getD i 0).toNat_lt; simp only [bt]; omega

def isDig (s : ByteArray) (k : Nat) : Bool := decide (k < s.size) && (decide (48 ≤ bt s k) && decide (bt s k ≤ 57))

def rd (s : ByteArray) : Nat → Nat → Int → Int × Nat
  | 0, k, n => (n, k)
  | j + 1, k, n => bif isDig s k then rd s j (k + 1) (10 * n + (bt s k - 48)) else (n, k)

def l15 (s : ByteArray) (a : Nat) : Int × Nat :=
  let r := rd s 4 a 0
  bif decide (r.2 = a) || (decide (bt s a = 48) && decide (a + 1 < r.2)) then (-1, a) else r

theorem c67 (s : ByteArray) (a : Nat) (ha : a < 1000000000000) (hs : s.size < 1000000000000) : Det gl 67 [sA s, iA a] [iR (l15 s a).1, iR (l15 s a).2] [sA s, iA a] := by
  refine acallD (c := bodyOf Tryd.f67) (nt := 59) (rvs := [.tmp 4, .tmp 5]) tabOk ⟨Tryd.f67, Tryd.func67, rfl, rfl, rfl, rfl⟩ rfl ?_
  unfold bodyOf Tryd.f67
  dsimp only
  simp only [go_sem, seval]
  refine gt tabOk dp0 [] [0, 1] rfl ?_; simp only [go_sem, seval]
  refine gt tabOk dp0 [] [0, 1, 6] rfl ?_; simp only [go_sem, seval]
  refine gt tabOk dp0 [] [0, 1, 6, 7] rfl ?_; simp only [go_sem, seval]
  refine gloop (fun i : Int × Nat => St.m 59 [(0, .val (.string s)), (1, .int a), (6, .int i.1), (7, .int i.2)] [])
    (fun i => a ≤ i.2 ∧ i.2 ≤ a + 4 ∧ 0 ≤ i.1 ∧ i.1 < 10 ^ (i.2 - a) ∧ rd s 4 a 0 = rd s (a + 4 - i.2) i.2 i.1 ∧ (a < i.2 → a < s.size)) (fun i => a + 4 - i.2) (0, a) (sub_eq rfl) ⟨by simp, by simp, by simp, by simp, by simp, by simp⟩ ?_
  rintro ⟨n, k⟩ ⟨h1, h2, h3, h4, h5, h6⟩
  simp only [go_sem, seval]
  refine awp_seq ?_
  have wa : IntKind.i64.wrap ((a : Int) + 4) = ((a + 4 : Nat) : Int) := by rw [wrapI (by omega) (by omega)]; omega
  refine gtc (ι := Bool) tabOk dp0 (fun b => St.m 59 [(0, .val (.string s)), (1, .int a), (6, .int n), (7, .int k), (30, .bool b)] []) (fun b => b = (decide (k < a + 4) && isDig s k)) [] [0, 1, 6, 7, 30] rfl ?_ ?_
  · simp only [go_sem, seval, wa, Int.toNat_natCast]
    have hbk : ((s.data.getD k 0).toNat : Int) = bt s k := rfl
    simp only [hbk]
    refine ⟨fun e1 => ⟨fun e2 => ⟨?_, fun e3 => ⟨?_, _, ?_, rfl⟩, fun e3 => ⟨_, ?_, rfl⟩⟩, fun e2 => ⟨_, ?_, rfl⟩⟩, fun e1 => ⟨_, ?_, rfl⟩⟩
    · simp only [decide_eq_true_eq] at e1 e2; omega
    · simp only [decide_eq_true_eq] at e1 e2; omega
    · simp only [decide_eq_true_eq] at e1 e2 e3
      simp only [isDig, e3, show k < s.size by omega, show k < a + 4 by omega, decide_true, Bool.true_and]
    · simp only [decide_eq_false_iff_not] at e3
      simp only [isDig, e3, decide_false, Bool.false_and, Bool.and_false]
    · simp only [decide_eq_false_iff_not] at e2
      simp only [show ¬ k < a + 4 by omega, decide_false, Bool.false_and]
    · simp only [decide_eq_false_iff_not] at e1
      simp only [isDig, show ¬ k < s.size by omega, decide_false, Bool.false_and, Bool.and_false]
  rintro b rfl
  refine awp_cond rfl (fun hc => ?_) (fun hc => ?_)
  ·
    have hk4 : k < a + 4 := by simp at hc; exact hc.1
    have hd : isDig s k = true := by simp at hc; exact hc.2
    have hks : k < s.size := by simp [isDig] at hd; exact hd.1
    have hb1 : 48 ≤ bt s k := by simp [isDig] at hd; exact hd.2.1
    have hb2 : bt s k ≤ 57 := by simp [isDig] at hd; exact hd.2.2
    simp only at h1 h2 h3 h4 h5 h6
    have hpow : (10 : Int) ^ (k - a) ≤ 1000 := by
      have : k - a ≤ 3 := by omega
      rcases (show k - a = 0 ∨ k - a = 1 ∨ k - a = 2 ∨ k - a = 3 by omega) with e | e | e | e <;> rw [e] <;> decide
    have hbt : ((s.data.getD k 0).toNat : Int) = bt s k := rfl
    refine awp_skip ?_; simp only [go_sem, seval]
    refine awp_block ?_
    refine gt tabOk dp0 [] [0, 1, 6, 7] rfl ?_; simp only [go_sem, seval, Int.toNat_natCast, hbt]
    refine ⟨by omega, ?_⟩
    rw [wrap_u8 (by omega) (by omega), wrapI (x := 10 * n) (by omega) (by omega), wrapI (x := bt s k - 48) (by omega) (by omega), wrapI (by omega) (by omega)]
    refine gt1 tabOk dp0 [] [0, 1, 6, 7] rfl ?_; simp only [go_sem, seval]
    rw [wrapN (by omega)]
    refine ⟨(_, _), ⟨?_, ?_, ?_, ?_, ?_, ?_⟩, ?_, sub_eq rfl⟩
    · simp only; omega
    · simp only; omega
    · simp only; omega
    · simp only
      rw [show k + 1 - a = k - a + 1 by omega, Int.pow_succ]; omega
    · simp only
      rw [h5, show a + 4 - k = (a + 4 - (k + 1)) + 1 by omega, rd, hd]; rfl
    · simp only; omega
    · simp only; omega
  ·
    have hrd : rd s 4 a 0 = (n, k) := by
      rw [h5]
      simp only at h2 ⊢
      by_cases hk4 : k < a + 4
      · have hd : isDig s k = false := by simpa [hk4] using hc
        rw [show a + 4 - k = (a + 4 - (k + 1)) + 1 by omega, rd, hd]; rfl
      · rw [show a + 4 - k = 0 by omega, rd]
    clear h5
    simp only at h1 h2 h3 h4 h6
    refine awp_exit ?_; simp only [go_sem, seval]
    refine awp_seq ?_
    have wa1 : IntKind.i64.wrap ((a : Int) + 1) = ((a + 1 : Nat) : Int) := by rw [wrapI (by omega) (by omega)]; omega
    have hbt : ((s.data.getD a 0).toNat : Int) = bt s a := rfl
    refine gtc (ι := Bool) tabOk dp0 (fun b => St.m 59 [(1, .int a), (6, .int n), (7, .int k), (55, .bool b)] []) (fun b => b = (decide (k = a) || (decide (bt s a = 48) && decide (a + 1 < k)))) [] [1, 6, 7, 55] rfl ?_ ?_
    · simp only [go_sem, seval, wa1, Int.toNat_natCast, hbt]
      refine ⟨fun e1 => ⟨?_, fun e2 => ⟨_, ?_, rfl⟩, fun e2 => ⟨_, ?_, rfl⟩⟩, fun e1 => ⟨_, ?_, rfl⟩⟩
      · simp only [decide_eq_false_iff_not] at e1; omega
      · simp only [decide_eq_false_iff_not, decide_eq_true_eq] at e1 e2
        simp only [show ¬ k = a by omega, e2, decide_false, Bool.false_or, decide_true, Bool.true_and, decide_eq_decide]; omega
      · simp only [decide_eq_false_iff_not] at e1 e2
        simp only [show ¬ k = a by omega, e2, decide_false, Bool.false_or, Bool.false_and]
      · simp only [decide_eq_true_eq] at e1
        simp only [show k = a by omega, decide_true, Bool.true_or]
    rintro b rfl
    refine awp_cond rfl (fun hc => ?_) (fun hc => ?_)
    ·
      refine gt tabOk dp0 [] [4, 5] rfl ?_; simp only [go_sem, seval]
      refine awp_ret ?_; simp only [go_sem, seval, l15, hrd, hc]
    ·
      refine awp_skip ?_; simp only [go_sem, seval]
      refine gt tabOk dp0 [] [4, 5] rfl ?_; simp only [go_sem, seval]
      refine awp_ret ?_; simp only [go_sem, seval, l15, hrd, hc]

attribute [irreducible] memB goodWin goodPt bt isDig rd l15
end Go.Ax
end

section
set_option maxRecDepth 4000
namespace Go.Ax
open Go Go.Proofs
variable {gl : Gl}

def negB (s : ByteArray) : Bool := decide (0 < s.size) && decide (bt s 0 = 45)
def tailB (s : ByteArray) : ByteArray := bif negB s then s.extract 1 s.size else s
def badB (s : ByteArray) : Bool := decide ((l15 (tailB s) 0).1 < 0) || (decide ((l15 (tailB s) 0).2 < (tailB s).size) || (negB s && decide ((l15 (tailB s) 0).1 = 0)))

def readNum (s : ByteArray) : Int × Bool := bif badB s then (0, false) else (bif negB s then -(l15 (tailB s) 0).1 else (l15 (tailB s) 0).1, true)

theorem rd_bound (s : ByteArray) : ∀ (j k : Nat) (n b : Int), 0 ≤ n → n < b → 0 ≤ (rd s j k n).1 ∧ (rd s j k n).1 < b * 10 ^ j ∧ k ≤ (rd s j k n).2 ∧ (rd s j k n).2 ≤ k + j := by
  intro j
  induction j with
  | zero => intro k n b h0 h1; simp only [rd]; refine ⟨h0, by omega, by omega, by omega⟩
  | succ j ih =>
    intro k n b h0 h1
    simp only [rd]
    cases hd : isDig s k with
    | true =>
      simp only [isDig, Bool.and_eq_true, decide_eq_true_eq] at hd
      obtain ⟨a1, a2, a3, a4⟩ := ih (k + 1) (10 * n + (bt s k - 48)) (b * 10) (by omega) (by omega)
      simp only [cond_true]
      refine ⟨a1, ?_, by omega, by omega⟩
      rw [Int.pow_succ, show b * (10 ^ j * 10) = b * 10 * 10 ^ j by rw [Int.mul_comm ((10 : Int) ^ j) 10, Int.mul_assoc]]; exact a2
    | false =>
      simp only [cond_false]
      refine ⟨h0, ?_, by omega, by omega⟩
      have : (1 : Int) ≤ 10 ^ (j + 1) := by
        have := Int.pow_pos (n := 10) (m := j + 1) (by decide)
        omega
      have h2 : b * 1 ≤ b * 10 ^ (j + 1) := Int.mul_le_mul_of_nonneg_left this (by omega)
      omega

theorem l15_bound (s : ByteArray) : -1 ≤ (l15 s 0).1 ∧ (l15 s 0).1 < 10000 ∧ (l15 s 0).2 ≤ 4 := by
  have h := rd_bound s 4 0 0 1 (by decide) (by decide)
  simp only [l15]
  cases (decide ((rd s 4 0 0).2 = 0) || (decide (bt s 0 = 48) && decide (0 + 1 < (rd s 4 0 0).2))) with
  | true => simp
  | false =>
    simp only [cond_false]
    have : (1 : Int) * 10 ^ 4 = 10000 := by decide
    omega

theorem size_tailB (s : ByteArray) : (tailB s).size ≤ s.size := by
  unfold tailB
  cases negB s <;> simp [ByteArray.size_extract]

theorem c52 (s : ByteArray) (hs : s.size < 1000000000000) : Det gl 52 [sA s] [iR (readNum s).1, bR (readNum s).2] [sA s] := by
  refine acallD (c := bodyOf Tryd.f52) (nt := 44) (rvs := [.tmp 2, .tmp 3]) tabOk ⟨Tryd.f52, Tryd.func52, rfl, rfl, rfl, rfl⟩ rfl ?_
  unfold bodyOf Tryd.f52
  dsimp only
  simp only [go_sem, seval]
  have hbt : ((s.data.getD 0 0).toNat : Int) = bt s 0 := (bt_def s 0).symm
  refine gt tabOk dp0 [] [0] rfl ?_; simp only [go_sem, seval]
  refine gtc0 tabOk dp0 (St.m 44 [(0, .val (.string s)), (4, .bool (negB s))] []) [] [0, 4] rfl ?_ ?_
  · simp only [go_sem, seval, Int.toNat_zero, hbt]
    refine ⟨fun e1 => ⟨?_, ?_⟩, fun e1 => ?_⟩
    · simpa using e1
    · simp only [negB, show 0 < s.size by simpa using e1, decide_true, Bool.true_and]
    · simp only [negB, show ¬ 0 < s.size by simpa using e1, decide_false, Bool.false_and]
  refine gt tabOk dp0 [] [0, 4, 5] rfl ?_; simp only [go_sem, seval]
  refine gcut0 (St.m 44 [(4, .bool (negB s)), (5, .val (.string (tailB s)))] []) ?_ ?_
  · refine gt tabOk dp0 [] [0, 4, 5, 17] rfl ?_; simp only [go_sem, seval]
    refine awp_cond rfl (fun hc => ?_) (fun hc => ?_)
    · refine gt1 tabOk dp0 [] [4, 5] rfl ?_; simp only [go_sem, seval, Int.toNat_natCast, Int.reduceToNat]
      have : 0 < s.size := by simp [negB] at hc; exact hc.1
      refine ⟨by omega, sub_eq ?_⟩
      simp only [tailB, hc, cond_true]
    · have e : tailB s = s := by simp only [tailB, hc, cond_false]
      refine awp_skip ?_
      simp only [go_sem, seval, e]
      exact sub_fine (ren := []) (keep := [4, 5]) rfl
  simp only [go_sem, seval]
  have ht := size_tailB s
  have hc67 := c67 (gl := gl) (tailB s) 0 (by omega) (by omega)
  have hb := l15_bound (tailB s)
  generalize hr : l15 (tailB s) 0 = r at hc67 hb
  obtain ⟨n, k⟩ := r
  simp only at hb
  refine gt tabOk dp0 [] [4, 5, 6, 7] rfl ?_; simp only [go_sem, seval]
  refine good_call hc67 ?_; simp only [go_sem, seval]
  refine awp_seq ?_
  refine gtc0 tabOk dp0 (St.m 44 [(4, .bool (negB s)), (6, .int n), (39, .bool (badB s))] []) [] [4, 6, 39] rfl ?_ ?_
  · simp only [go_sem, seval]
    have hbad : badB s = (decide (n < 0) || (decide (k < (tailB s).size) || (negB s && decide (n = 0)))) := by simp only [badB, hr]
    refine ⟨fun e1 => ⟨fun e2 => ⟨fun e3 => ?_, fun e3 => ?_⟩, fun e2 => ?_⟩, fun e1 => ?_⟩
    · simp only [decide_eq_false_iff_not] at e1 e2
      rw [hbad, e3]; simp only [e1, show ¬ k < (tailB s).size by omega, decide_false, Bool.false_or, Bool.true_and]
    · simp only [decide_eq_false_iff_not] at e1 e2
      rw [hbad, e3]; simp only [e1, show ¬ k < (tailB s).size by omega, decide_false, Bool.false_or, Bool.false_and]
    · simp only [decide_eq_true_eq] at e2
      rw [hbad]; simp only [show k < (tailB s).size by omega, decide_true, Bool.true_or, Bool.or_true]
    · rw [hbad]; simp only [e1, Bool.true_or]
  refine awp_cond rfl (fun hc => ?_) (fun hc => ?_)
  · refine gt tabOk dp0 [] [2, 3] rfl ?_; simp only [go_sem, seval]
    refine awp_ret ?_; simp only [go_sem, seval, readNum, hc]
  · refine awp_skip ?_; simp only [go_sem, seval]
    refine awp_seq ?_
    refine gt tabOk dp0 [] [6, 40] rfl ?_; simp only [go_sem, seval]
    refine awp_cond rfl (fun hc2 => ?_) (fun hc2 => ?_)
    · refine gt tabOk dp0 [] [2, 3] rfl ?_; simp only [go_sem, seval]
      rw [wrapI (by omega) (by omega)]
      refine awp_ret ?_; simp only [go_sem, seval, readNum, hc, hc2, hr, Int.zero_sub]
    · refine awp_skip ?_; simp only [go_sem, seval]
      refine gt tabOk dp0 [] [2, 3] rfl ?_; simp only [go_sem, seval]
      refine awp_ret ?_; simp only [go_sem, seval, readNum, hc, hc2, hr]

theorem readNum_bound (s : ByteArray) : -10000 ≤ (readNum s).1 ∧ (readNum s).1 ≤ 10000 := by
  have h := l15_bound (tailB s)
  unfold readNum
  cases badB s with
  | true => simp
  | false => cases negB s <;> simp <;> omega

attribute [irreducible] badB tailB negB readNum
end Go.Ax
end

section
namespace Go.Ax
open Go Go.Proofs

def sw (s : ByteArray) : Nat → Nat → Nat → List ByteArray → List ByteArray
  | 0, _, a, acc => acc ++ [s.extract a s.size]
  | k + 1, i, a, acc => bif decide (bt s i = 32) then sw s k (i + 1) (i + 1) (acc ++ [s.extract a i]) else sw s k (i + 1) a acc

def words (s : ByteArray) : List ByteArray := sw s s.size 0 0 []

theorem sw_len (s : ByteArray) : ∀ (k i a : Nat) (acc : List ByteArray), acc.length + 1 ≤ (sw s k i a acc).length ∧ (sw s k i a acc).length ≤ acc.length + k + 1 := by
  intro k
  induction k with
  | zero => intro i a acc; simp [sw]
  | succ k ih =>
    intro i a acc
    simp only [sw]
    cases decide (bt s i = 32) with
    | true =>
      simp only [cond_true]
      have := ih (i + 1) (i + 1) (acc ++ [s.extract a i])
      simp only [List.length_append, List.length_cons, List.length_nil] at this
      omega
    | false => simp only [cond_false]; have := ih (i + 1) a acc; omega

theorem words_len (s : ByteArray) : 1 ≤ (words s).length ∧ (words s).length ≤ s.size + 1 := by
  have := sw_len s s.size 0 0 []
  simp only [List.length_nil] at this
  unfold words
  omega

theorem sw_size (s : ByteArray) : ∀ (k i a : Nat) (acc : List ByteArray), (∀ w, w ∈ acc → w.size ≤ s.size) → ∀ w, w ∈ sw s k i a acc → w.size ≤ s.size := by
  intro k
  induction k with
  | zero =>
    intro i a acc h w hw
    simp only [sw, List.mem_append, List.mem_singleton] at hw
    rcases hw with hw | rfl
    · exact h w hw
    · simp only [ByteArray.size_extract]; omega
  | succ k ih =>
    intro i a acc h w hw
    simp only [sw] at hw
    cases hb : decide (bt s i = 32) with
    | true =>
      rw [hb] at hw
      refine ih (i + 1) (i + 1) _ (fun v hv => ?_) w hw
      simp only [List.mem_append, List.mem_singleton] at hv
      rcases hv with hv | rfl
      · exact h v hv
      · simp only [ByteArray.size_extract]; omega
    | false => rw [hb] at hw; exact ih (i + 1) a acc h w hw

theorem words_size (s w : ByteArray) (h : w ∈ words s) : w.size ≤ s.size := sw_size s s.size 0 0 [] (by simp) w h
attribute [irreducible] words sw
end Go.Ax
end
