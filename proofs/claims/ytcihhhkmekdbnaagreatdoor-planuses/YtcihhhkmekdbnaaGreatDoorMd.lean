/-
  The rows: a function a row; no condition.
-/
import Derived.Test.YtcihhhkmekdbnaaGreatDoorMLim
import Derived.Test.YtcihhhkmekdbnaaGreatDoorProg
namespace Go.AM
open Go Go.Proofs
set_option maxRecDepth 100000
def bodyOf (f : Func) : Code := match f.body with
  | some c => c
  | none => .skip
def Θ0 : Tab := [(1, ⟨.other, 1, 8, [.nilFunc], none⟩),
  (2, ⟨.int .i64, 1, 8, [.int .i64 0], some (.i .i64)⟩),
  (3, ⟨.int .i64, 1, 8, [.int .i64 0], some (.i .i64)⟩),
  (4, ⟨.bool, 1, 1, [.bool false], some .bool⟩),
  (5, ⟨.int .u8, 1, 1, [.int .u8 0], some (.i .u8)⟩),
  (6, ⟨.int .u8, 1, 1, [.int .u8 0], some (.i .u8)⟩),
  (7, ⟨.struct [(0, 2), (1, 3), (2, 4), (3, 6)], 4, 24, [.int .i64 0, .int .i64 0, .bool false, .int .u8 0], none⟩),
  (8, ⟨.struct [(0, 2), (1, 3), (2, 4), (3, 6)], 4, 24, [.int .i64 0, .int .i64 0, .bool false, .int .u8 0], none⟩),
  (9, ⟨.str, 1, 16, [.string zeroS], some .str⟩),
  (20, ⟨.other, 1, 16, [.nilIface], none⟩),
  (21, ⟨.int .i32, 1, 4, [.int .i32 0], some (.i .i32)⟩),
  (22, ⟨.slice 3, 1, 24, [.slice none 0 0], some (.list (.i .i64))⟩),
  (24, ⟨.struct [(0, 3), (1, 3)], 2, 16, [.int .i64 0, .int .i64 0], some .frac⟩),
  (25, ⟨.slice 80, 1, 24, [.slice none 0 0], some (.list .matcher)⟩),
  (26, ⟨.slice 9, 1, 24, [.slice none 0 0], some (.list .str)⟩),
  (27, ⟨.slice 29, 1, 24, [.slice none 0 0], some (.list .expr)⟩),
  (29, ⟨.struct [(0, 3), (1, 3), (2, 3), (3, 3), (4, 3), (5, 24), (7, 9), (8, 25), (9, 26), (10, 27)], 11, 144, [.int .i64 0, .int .i64 0, .int .i64 0, .int .i64 0, .int .i64 0, .int .i64 0, .int .i64 0, .string zeroS, .slice none 0 0, .slice none 0 0, .slice none 0 0], some .expr⟩),
  (31, ⟨.other, 1, 8, [.nilFunc], none⟩),
  (36, ⟨.slice 45, 1, 24, [.slice none 0 0], some (.list .ins)⟩),
  (37, ⟨.int .i64, 1, 8, [.int .i64 0], some (.i .i64)⟩),
  (45, ⟨.struct [(0, 3), (1, 3), (2, 3), (3, 3), (4, 3), (5, 24), (7, 9), (8, 25), (9, 26)], 10, 120, [.int .i64 0, .int .i64 0, .int .i64 0, .int .i64 0, .int .i64 0, .int .i64 0, .int .i64 0, .string zeroS, .slice none 0 0, .slice none 0 0], some .ins⟩),
  (54, ⟨.slice 97, 1, 24, [.slice none 0 0], some (.list .decl)⟩),
  (59, ⟨.slice 5, 1, 24, [.slice none 0 0], some (.list (.i .u8))⟩),
  (69, ⟨.other, 1, 8, [.nilFunc], none⟩),
  (80, ⟨.struct [(0, 9), (1, 3), (2, 9)], 3, 40, [.string zeroS, .int .i64 0, .string zeroS], some .matcher⟩),
  (81, ⟨.other, 1, 8, [.pointer none], none⟩),
  (83, ⟨.struct [(0, 22), (1, 3), (2, 26), (3, 3)], 4, 64, [.slice none 0 0, .int .i64 0, .slice none 0 0, .int .i64 0], none⟩),
  (85, ⟨.other, 1, 8, [.nilFunc], none⟩),
  (86, ⟨.other, 1, 8, [.nilFunc], none⟩),
  (91, ⟨.arr 3 3, 3, 24, [.int .i64 0, .int .i64 0, .int .i64 0], some .unit⟩),
  (92, ⟨.slice 91, 1, 24, [.slice none 0 0], some (.list .unit)⟩),
  (94, ⟨.slice 136, 1, 24, [.slice none 0 0], some (.list .label)⟩),
  (97, ⟨.struct [(0, 9), (1, 94), (2, 91), (5, 3), (6, 3), (7, 3), (8, 3), (9, 3), (10, 3), (11, 3)], 12, 120, [.string zeroS, .slice none 0 0, .int .i64 0, .int .i64 0, .int .i64 0, .int .i64 0, .int .i64 0, .int .i64 0, .int .i64 0, .int .i64 0, .int .i64 0, .int .i64 0], some .decl⟩),
  (104, ⟨.struct [(0, 59)], 1, 24, [.slice none 0 0], none⟩),
  (106, ⟨.other, 1, 8, [.pointer none], none⟩),
  (109, ⟨.other, 1, 8, [.pointer none], none⟩),
  (120, ⟨.slice 157, 1, 24, [.slice none 0 0], some (.list .tok)⟩),
  (124, ⟨.struct [(0, 3), (1, 37)], 2, 16, [.int .i64 0, .int .i64 0], none⟩),
  (126, ⟨.other, 1, 8, [.pointer none], none⟩),
  (128, ⟨.struct [(0, 120), (1, 3)], 2, 32, [.slice none 0 0, .int .i64 0], none⟩),
  (136, ⟨.struct [(0, 9), (1, 9)], 2, 32, [.string zeroS, .string zeroS], some .label⟩),
  (141, ⟨.other, 1, 8, [.pointer none], none⟩),
  (143, ⟨.struct [(0, 59), (1, 37)], 2, 32, [.slice none 0 0, .int .i64 0], none⟩),
  (147, ⟨.int .u64, 1, 8, [.int .u64 0], some (.i .u64)⟩),
  (149, ⟨.struct [(0, 59), (1, 37)], 2, 32, [.slice none 0 0, .int .i64 0], none⟩),
  (152, ⟨.other, 1, 8, [.pointer none], none⟩),
  (154, ⟨.struct [(0, 9), (1, 3), (2, 37)], 3, 32, [.string zeroS, .int .i64 0, .int .i64 0], none⟩),
  (155, ⟨.other, 1, 8, [.nilFunc], none⟩),
  (157, ⟨.struct [(0, 3), (1, 9), (2, 3), (3, 3)], 4, 40, [.int .i64 0, .string zeroS, .int .i64 0, .int .i64 0], some .tok⟩),
  (164, ⟨.int .u64, 1, 8, [.int .u64 0], some (.i .u64)⟩),
  (165, ⟨.other, 1, 8, [.nilFunc], none⟩),
  (167, ⟨.other, 1, 8, [.nilFunc], none⟩),
  (175, ⟨.arr 5 9, 5, 80, [.string zeroS, .string zeroS, .string zeroS, .string zeroS, .string zeroS], none⟩),
  (179, ⟨.arr 256 4, 256, 256, List.replicate 256 (.bool false), none⟩),
  (183, ⟨.other, 1, 8, [.pointer none], none⟩),
  (198, ⟨.other, 1, 8, [.pointer none], none⟩),
  (200, ⟨.arr 8 9, 8, 128, [.string zeroS, .string zeroS, .string zeroS, .string zeroS, .string zeroS, .string zeroS, .string zeroS, .string zeroS], none⟩)]
def wGroups : List ByteArray := [⟨#[115, 117, 109]⟩, ⟨#[109, 105, 110]⟩, ⟨#[109, 97, 120]⟩, ⟨#[99, 111, 117, 110, 116]⟩, ⟨#[107, 116, 104]⟩]
def wFuncs : List ByteArray := [⟨#[108, 97, 115, 116]⟩, ⟨#[108, 101, 97, 115, 116]⟩, ⟨#[103, 114, 101, 97, 116, 101, 115, 116]⟩, ⟨#[116, 111, 116, 97, 108]⟩, ⟨#[109, 101, 97, 110]⟩, ⟨#[105, 110, 99, 114, 101, 97, 115, 101]⟩, ⟨#[114, 97, 116, 101]⟩, ⟨#[107, 116, 104]⟩]
def glob0 : List (Nat × AV) := [(0, .pr .str wGroups), (1, .pr .str wFuncs)]
/-- What the library's functions compute. -/
def trimLeftF (s cut : ByteArray) : Option ByteArray :=
  if cut.data.toList.all (fun b => decide (b.toNat < 128)) && decide (cut.size < 4294967281) then some ⟨(s.data.toList.dropWhile fun b => cut.data.toList.contains b).toArray⟩ else none
def indexL (c : Int) : List UInt8 → Int → Int
  | [], _ => -1
  | b :: r, i => if (b.toNat : Int) = c then i else indexL c r (i + 1)
def indexByteF (s : ByteArray) (c : Int) : Option Int := some (indexL c s.data.toList 0)
def containsRuneF (s : ByteArray) (r : Int) : Option Bool := if 0 ≤ r ∧ r < 128 then some (s.data.toList.any fun b => (b.toNat : Int) == r) else none
def hasPrefixF (s p : ByteArray) : Option Bool := some (p.data.toList.isPrefixOf s.data.toList)
def base_TrimLeft (x : ByteArray × ByteArray) : Option ByteArray := trimLeftF x.1 x.2
def base_IndexByte (x : ByteArray × Int) : Option Int := indexByteF x.1 x.2
def base_ContainsRune (x : ByteArray × Int) : Option Bool := containsRuneF x.1 x.2
def base_HasPrefix (x : ByteArray × ByteArray) : Option Bool := hasPrefixF x.1 x.2
def yiOf (fn : Func) : YI := match ytabOf fn with
  | some y => y
  | none => ⟨#[], .skip, .skip, 0, []⟩
def regId : Code → Nat
  | .region id _ _ => id
  | .block id _ => id
  | _ => 0
def regOps : Code → Array Oper
  | .region _ ops _ => ops
  | _ => #[]
def regDraw : Code → Bool
  | .region _ _ d => d
  | _ => false
def inBlk : Code → Code
  | .block _ c => c
  | _ => .skip
noncomputable def y_plan_Compile : Yx := { key := 25, yi := yiOf Tryz.f25, p := (yiOf Tryz.f25).params.getD 0 0, id1 := regId (yiOf Tryz.f25).assign, ops1 := regOps (yiOf Tryz.f25).assign, bid := regId (yiOf Tryz.f25).body, id2 := regId (inBlk (yiOf Tryz.f25).body), ops2 := regOps (inBlk (yiOf Tryz.f25).body), dr := regDraw (inBlk (yiOf Tryz.f25).body), inp := ⟨[(0, .agg .expr), (1, .ptr 0 0)], [(0, .lp 25 [.ptr 1 0]), (1, .var 36 [.af 2]), (2, .arr 45 .ins)]⟩, robj := [(0, .lp 25 [.ptr 1 0]), (1, .var 36 [.af 3]), (2, .gone), (3, .arr 45 .ins)] }
noncomputable def y_lexer_Tokens : Yx := { key := 78, yi := yiOf Tryz.f78, p := (yiOf Tryz.f78).params.getD 0 0, id1 := regId (yiOf Tryz.f78).assign, ops1 := regOps (yiOf Tryz.f78).assign, bid := regId (yiOf Tryz.f78).body, id2 := regId (inBlk (yiOf Tryz.f78).body), ops2 := regOps (inBlk (yiOf Tryz.f78).body), dr := regDraw (inBlk (yiOf Tryz.f78).body), inp := ⟨[(0, .agg .tok), (1, .ptr 0 0)], [(0, .lp 78 [.ptr 1 0]), (1, .var 120 [.af 2]), (2, .arr 157 .tok)]⟩, robj := [(0, .lp 78 [.ptr 1 0]), (1, .var 120 [.af 3]), (2, .gone), (3, .arr 157 .tok)] }
noncomputable def r_law23_PlanCompile : Row := { X := { f := 3, fn := Tryz.f3, body := bodyOf Tryz.f3, inp := ⟨[(0, .list (.i .i64)), (1, .int .i64), (2, .int .i64), (3, .int .i64), (4, .agg .expr)], []⟩, res := [.bool], robj := [] } }
noncomputable def r_law23_PlanTree : Row := { X := { f := 4, fn := Tryz.f4, body := bodyOf Tryz.f4, inp := ⟨[(0, .list (.i .i64)), (1, .list .ins), (2, .int .i64), (3, .int .i64), (4, .int .i64)], []⟩, res := [.bool], robj := [] } }
noncomputable def q_law23_PlanLimits_0 : Pat := ⟨[(1, .int .i64), (5, .ptr 0 0), (6, .int .i64), (7, .af 1), (8, .int .i64)], [(0, .vagg 45 .ins), (1, .arr 45 .ins)]⟩
noncomputable def q_law23_PlanLimits_1 : Pat := ⟨[(5, .ptr 0 0), (6, .int .i64), (7, .af 1), (9, .af 2), (10, .int .i64)], [(0, .vagg 45 .ins), (1, .arr 45 .ins), (2, .arr 45 .ins)]⟩
noncomputable def r_law23_PlanLimits : Row := { X := { f := 5, fn := Tryz.f5, body := bodyOf Tryz.f5, inp := ⟨[(0, .int .i64), (1, .int .i64)], []⟩, res := [.bool], robj := [] }, pts := [([0, 0, 1, 0, 1, 1, 1, 1], q_law23_PlanLimits_0), ([0, 0, 1, 0, 1, 1, 1, 1, 1, 1], q_law23_PlanLimits_1)] }
noncomputable def q_law23_PlanReach_0 : Pat := ⟨[(15, .list .ins), (21, .int .i64), (22, .list .ins), (25, .int .i64), (26, .int .i64)], []⟩
noncomputable def r_law23_PlanReach : Row := { X := { f := 6, fn := Tryz.f6, body := bodyOf Tryz.f6, inp := ⟨[(0, .list (.i .i64)), (1, .list (.i .i64)), (2, .int .i64), (3, .int .i64), (4, .int .i64), (5, .int .i64)], []⟩, res := [.bool], robj := [] }, pts := [([0, 0, 1, 0, 1, 1, 1, 1, 1, 1, 1, 1, 1, 1, 1, 1], q_law23_PlanReach_0)] }
noncomputable def r_law23_PlanEncode : Row := { X := { f := 7, fn := Tryz.f7, body := bodyOf Tryz.f7, inp := ⟨[(0, .list (.i .i64)), (1, .int .i64), (2, .int .i64), (3, .int .i64)], []⟩, res := [.bool], robj := [] } }
noncomputable def r_law23_PlanUses : Row := { X := { f := 8, fn := Tryz.f8, body := bodyOf Tryz.f8, inp := ⟨[(0, .list (.i .i64)), (1, .list (.i .i64)), (2, .int .i64), (3, .int .i64), (4, .int .i64)], []⟩, res := [.bool], robj := [] } }
noncomputable def r_law23_PlanDecode : Row := { X := { f := 9, fn := Tryz.f9, body := bodyOf Tryz.f9, inp := ⟨[(0, .list (.i .i64)), (1, .list (.i .u8)), (2, .int .i64), (3, .int .u8)], []⟩, res := [.bool], robj := [] } }
noncomputable def r_law23_PlanRound : Row := { X := { f := 10, fn := Tryz.f10, body := bodyOf Tryz.f10, inp := ⟨[(0, .list (.i .i64)), (1, .list (.i .i64))], []⟩, res := [.bool], robj := [] } }
noncomputable def r_ref07_Expr : Row := { X := { f := 11, fn := Tryz.f11, body := bodyOf Tryz.f11, inp := ⟨[(0, .list (.i .i64))], []⟩, res := [.agg .expr], robj := [] } }
noncomputable def r_law23_compiles : Row := { X := { f := 12, fn := Tryz.f12, body := bodyOf Tryz.f12, inp := ⟨[(0, .agg .expr)], []⟩, res := [.bool], robj := [] } }
noncomputable def r_ref07_Spoilt : Row := { X := { f := 13, fn := Tryz.f13, body := bodyOf Tryz.f13, inp := ⟨[(0, .agg .expr), (1, .int .i64), (2, .int .i64), (3, .int .i64)], []⟩, res := [.agg .expr], robj := [] } }
noncomputable def q_ref07_Cut_0 : Pat := ⟨[(1, .int .i64), (2, .ptr 0 0), (4, .ptr 1 0), (5, .ptr 2 0), (6, .int .i64)], [(0, .vagg 29 .expr), (1, .var 29 [.int .i64, .int .i64, .int .i64, .int .i64, .int .i64, .int .i64, .int .i64, .str, .af 3, .af 4, .af 5]), (2, .var 29 [.int .i64, .int .i64, .int .i64, .int .i64, .int .i64, .int .i64, .int .i64, .str, .list .matcher, .list .str, .af 6]), (3, .arr 80 .matcher), (4, .arr 9 .str), (5, .arr 29 .expr), (6, .arr 29 .expr)]⟩
noncomputable def r_ref07_Cut : Row := { X := { f := 14, fn := Tryz.f14, body := bodyOf Tryz.f14, inp := ⟨[(0, .agg .expr), (1, .int .i64)], []⟩, res := [.agg .expr], robj := [] }, pts := [([0, 0, 1, 0, 1, 1, 1], q_ref07_Cut_0)] }
noncomputable def r_law23_lives : Row := { X := { f := 15, fn := Tryz.f15, body := bodyOf Tryz.f15, inp := ⟨[], []⟩, res := [.bool], robj := [] } }
noncomputable def r_ref23_Compile : Row := { X := { f := 16, fn := Tryz.f16, body := bodyOf Tryz.f16, inp := ⟨[(0, .agg .expr)], []⟩, res := [.list .ins, .int .i64], robj := [] } }
noncomputable def q_ref23_Few_0 : Pat := ⟨[(0, .list .ins), (3, .af 0), (4, .int .i64)], [(0, .arr 45 .ins)]⟩
noncomputable def q_ref23_Few_1 : Pat := ⟨[(0, .list .ins), (3, .af 2), (4, .int .i64), (5, .ptr 0 0), (6, .int .i64)], [(0, .var 45 [.int .i64, .int .i64, .int .i64, .int .i64, .int .i64, .int .i64, .int .i64, .str, .af 1, .list .str]), (1, .arr 80 .matcher), (2, .arr 45 .ins)]⟩
noncomputable def q_ref23_Few_2 : Pat := ⟨[(0, .list .ins), (3, .af 3), (4, .int .i64), (5, .ptr 0 0), (7, .int .i64)], [(0, .var 45 [.int .i64, .int .i64, .int .i64, .int .i64, .int .i64, .int .i64, .int .i64, .str, .af 1, .af 2]), (1, .arr 80 .matcher), (2, .arr 9 .str), (3, .arr 45 .ins)]⟩
noncomputable def r_ref23_Few : Row := { X := { f := 17, fn := Tryz.f17, body := bodyOf Tryz.f17, inp := ⟨[(0, .list .ins)], []⟩, res := [.list .ins], robj := [] }, pts := [([0, 0, 1, 0, 1, 1], q_ref23_Few_0), ([0, 0, 1, 0, 1, 1, 1, 0, 0, 1, 0, 0, 1, 0, 1, 1], q_ref23_Few_1), ([0, 0, 1, 0, 1, 1, 1, 1, 1, 0, 0, 1, 0, 0, 1, 0, 1, 1], q_ref23_Few_2)] }
noncomputable def r_ref23_Changed : Row := { X := { f := 18, fn := Tryz.f18, body := bodyOf Tryz.f18, inp := ⟨[(0, .list .ins), (1, .int .i64), (2, .int .i64), (3, .int .i64)], []⟩, res := [.list .ins], robj := [] } }
noncomputable def r_law23_rebuilds : Row := { X := { f := 19, fn := Tryz.f19, body := bodyOf Tryz.f19, inp := ⟨[(0, .list .ins)], []⟩, res := [.bool], robj := [] } }
noncomputable def r_ref01_Around : Row := { X := { f := 20, fn := Tryz.f20, body := bodyOf Tryz.f20, inp := ⟨[(0, .int .i64), (1, .int .i64)], []⟩, res := [.int .i64], robj := [] } }
noncomputable def r_law23_balanced : Row := { X := { f := 21, fn := Tryz.f21, body := bodyOf Tryz.f21, inp := ⟨[(0, .int .i64)], []⟩, res := [.af 0], robj := [(0, .arr 45 .ins)] } }
noncomputable def r_plan_Check : Row := { X := { f := 22, fn := Tryz.f22, body := bodyOf Tryz.f22, inp := ⟨[(0, .list .ins)], []⟩, res := [.int .i64], robj := [] } }
noncomputable def r_ref23_Check : Row := { X := { f := 23, fn := Tryz.f23, body := bodyOf Tryz.f23, inp := ⟨[(0, .list .ins)], []⟩, res := [.int .i64], robj := [] } }
noncomputable def r_ref07_Make : Row := { X := { f := 24, fn := Tryz.f24, body := bodyOf Tryz.f24, inp := ⟨[(0, .list (.i .i64)), (1, .list .str), (2, .int .i64)], []⟩, res := [.agg .expr], robj := [] } }
noncomputable def r_plan_Compile : Row := { X := { f := 25, fn := Tryz.f25, body := bodyOf Tryz.f25, inp := ⟨[(0, .agg .expr)], []⟩, res := [.list .ins, .int .i64], robj := [] } }
noncomputable def q_ref23_Shifted_0 : Pat := ⟨[(1, .int .i64), (2, .ptr 0 0), (4, .ptr 1 0), (5, .af 5), (6, .int .i64)], [(0, .vagg 29 .expr), (1, .var 29 [.int .i64, .int .i64, .int .i64, .int .i64, .int .i64, .int .i64, .int .i64, .str, .af 2, .af 3, .af 4]), (2, .arr 80 .matcher), (3, .arr 9 .str), (4, .arr 29 .expr), (5, .arr 29 .expr)]⟩
noncomputable def r_ref23_Shifted : Row := { X := { f := 26, fn := Tryz.f26, body := bodyOf Tryz.f26, inp := ⟨[(0, .agg .expr), (1, .int .i64)], []⟩, res := [.agg .expr], robj := [] }, pts := [([0, 0, 1, 0, 1, 1, 1], q_ref23_Shifted_0)] }
noncomputable def q_plan_Reach_0 : Pat := ⟨[(3, .int .i64), (10, .list .ins), (11, .int .i64), (12, .int .i64)], []⟩
noncomputable def r_plan_Reach : Row := { X := { f := 27, fn := Tryz.f27, body := bodyOf Tryz.f27, inp := ⟨[(0, .list .ins)], []⟩, res := [.int .i64], robj := [] }, pts := [([0, 0, 1, 0, 1, 1, 1], q_plan_Reach_0)] }
noncomputable def q_ref23_Reach_0 : Pat := ⟨[(0, .list .ins), (3, .int .i64), (4, .int .i64)], []⟩
noncomputable def r_ref23_Reach : Row := { X := { f := 28, fn := Tryz.f28, body := bodyOf Tryz.f28, inp := ⟨[(0, .list .ins)], []⟩, res := [.int .i64], robj := [] }, pts := [([0, 0, 1, 0, 1, 1, 1], q_ref23_Reach_0)] }
noncomputable def r_law23_encodes : Row := { X := { f := 29, fn := Tryz.f29, body := bodyOf Tryz.f29, inp := ⟨[(0, .list .ins)], []⟩, res := [.bool], robj := [] } }
noncomputable def q_ref08_Decls_0 : Pat := ⟨[(0, .list (.i .i64)), (3, .af 0), (4, .af 1), (5, .af 2), (6, .int .i64)], [(0, .arr 9 .str), (1, .arr 91 .unit), (2, .arr 97 .decl)]⟩
noncomputable def r_ref08_Decls : Row := { X := { f := 30, fn := Tryz.f30, body := bodyOf Tryz.f30, inp := ⟨[(0, .list (.i .i64))], []⟩, res := [.list .decl], robj := [] }, pts := [([0, 0, 1, 0, 1, 1, 1, 1], q_ref08_Decls_0)] }
noncomputable def r_ref08_Query : Row := { X := { f := 31, fn := Tryz.f31, body := bodyOf Tryz.f31, inp := ⟨[(0, .list (.i .i64))], []⟩, res := [.agg .expr], robj := [] } }
noncomputable def q_ref01_SameInts_0 : Pat := ⟨[(0, .list (.i .i64)), (1, .list (.i .i64)), (5, .int .i64)], []⟩
noncomputable def r_ref01_SameInts : Row := { X := { f := 32, fn := Tryz.f32, body := bodyOf Tryz.f32, inp := ⟨[(0, .list (.i .i64)), (1, .list (.i .i64))], []⟩, res := [.bool], robj := [] }, pts := [([0, 0, 1, 0, 1, 1], q_ref01_SameInts_0)] }
noncomputable def q_plan_Uses_0 : Pat := ⟨[(1, .list .decl), (5, .af 0), (16, .list .ins), (17, .int .i64), (18, .int .i64)], [(0, .arr 3 (.i .i64))]⟩
noncomputable def q_plan_Uses_1 : Pat := ⟨[(1, .list .decl), (5, .af 1), (7, .ptr 0 0), (16, .list .ins), (17, .int .i64), (18, .int .i64), (22, .list .decl), (23, .int .i64), (24, .int .i64)], [(0, .vagg 45 .ins), (1, .arr 3 (.i .i64))]⟩
noncomputable def r_plan_Uses : Row := { X := { f := 33, fn := Tryz.f33, body := bodyOf Tryz.f33, inp := ⟨[(0, .list .ins), (1, .list .decl)], []⟩, res := [.list (.i .i64)], robj := [] }, pts := [([0, 0, 1, 0, 1, 1, 1], q_plan_Uses_0), ([0, 0, 1, 1, 0, 0, 1, 1, 0, 0, 1, 0, 1, 1, 1], q_plan_Uses_1)] }
noncomputable def q_ref23_Uses_0 : Pat := ⟨[(0, .list .ins), (1, .list .decl), (5, .af 0), (6, .int .i64)], [(0, .arr 3 (.i .i64))]⟩
noncomputable def q_ref23_Uses_1 : Pat := ⟨[(0, .list .ins), (1, .list .decl), (5, .af 0), (6, .int .i64), (7, .int .i64), (8, .int .i64)], [(0, .arr 3 (.i .i64))]⟩
noncomputable def r_ref23_Uses : Row := { X := { f := 34, fn := Tryz.f34, body := bodyOf Tryz.f34, inp := ⟨[(0, .list .ins), (1, .list .decl)], []⟩, res := [.list (.i .i64)], robj := [] }, pts := [([0, 0, 1, 0, 1, 1, 1], q_ref23_Uses_0), ([0, 0, 1, 0, 1, 0, 0, 1, 0, 0, 1, 0, 1, 1, 1], q_ref23_Uses_1)] }
noncomputable def r_ref23_Encode : Row := { X := { f := 35, fn := Tryz.f35, body := bodyOf Tryz.f35, inp := ⟨[(0, .list .ins)], []⟩, res := [.list (.i .u8), .int .i64], robj := [] } }
noncomputable def r_law23_mustCompile : Row := { X := { f := 36, fn := Tryz.f36, body := bodyOf Tryz.f36, inp := ⟨[(0, .list (.i .i64))], []⟩, res := [.list .ins], robj := [] } }
noncomputable def r_ref01_Few : Row := { X := { f := 37, fn := Tryz.f37, body := bodyOf Tryz.f37, inp := ⟨[(0, .list (.i .u8)), (1, .int .i64)], []⟩, res := [.af 0], robj := [(0, .arr 5 (.i .u8))] } }
noncomputable def r_law23_decodes : Row := { X := { f := 38, fn := Tryz.f38, body := bodyOf Tryz.f38, inp := ⟨[(0, .list (.i .u8))], []⟩, res := [.bool], robj := [] } }
noncomputable def q_plan_Tree_0 : Pat := ⟨[(2, .ptr 0 0), (4, .af 4), (15, .list .ins), (16, .int .i64), (17, .int .i64)], [(0, .var 29 [.int .i64, .int .i64, .int .i64, .int .i64, .int .i64, .int .i64, .int .i64, .str, .af 1, .af 2, .af 3]), (1, .arr 80 .matcher), (2, .arr 9 .str), (3, .arr 29 .expr), (4, .arr 29 .expr)]⟩
noncomputable def r_plan_Tree : Row := { X := { f := 39, fn := Tryz.f39, body := bodyOf Tryz.f39, inp := ⟨[(0, .list .ins)], []⟩, res := [.agg .expr, .int .i64], robj := [] }, pts := [([0, 0, 1, 0, 1, 1, 1], q_plan_Tree_0)] }
noncomputable def q_plan_Encode_0 : Pat := ⟨[(5, .ptr 0 0), (21, .list .ins), (22, .int .i64), (23, .int .i64)], [(0, .var 104 [.af 1]), (1, .arr 5 (.i .u8))]⟩
noncomputable def q_plan_Encode_1 : Pat := ⟨[(5, .ptr 0 0), (7, .ptr 1 0), (21, .list .ins), (22, .int .i64), (23, .int .i64), (54, .list .matcher), (55, .int .i64), (56, .int .i64)], [(0, .var 104 [.af 2]), (1, .vagg 45 .ins), (2, .arr 5 (.i .u8))]⟩
noncomputable def q_plan_Encode_2 : Pat := ⟨[(5, .ptr 0 0), (21, .list .ins), (22, .int .i64), (23, .int .i64), (77, .list .str), (78, .int .i64), (79, .int .i64)], [(0, .var 104 [.af 1]), (1, .arr 5 (.i .u8))]⟩
noncomputable def r_plan_Encode : Row := { X := { f := 40, fn := Tryz.f40, body := bodyOf Tryz.f40, inp := ⟨[(0, .list .ins)], []⟩, res := [.list (.i .u8), .int .i64], robj := [] }, pts := [([0, 0, 1, 0, 1, 1, 1, 1], q_plan_Encode_0), ([0, 0, 1, 0, 1, 1, 1, 1, 0, 0, 1, 1, 0, 0, 1, 0, 1, 1, 1, 1], q_plan_Encode_1), ([0, 0, 1, 1, 1, 1, 1, 1, 1, 0, 0, 1, 1, 0, 0, 1, 0, 1, 1, 1, 1], q_plan_Encode_2)] }
noncomputable def r_parser_Equal : Row := { X := { f := 42, fn := Tryz.f42, body := bodyOf Tryz.f42, inp := ⟨[(0, .agg .expr), (1, .agg .expr)], []⟩, res := [.bool], robj := [] } }
noncomputable def q_parser_Nodes_0 : Pat := ⟨[(3, .int .i64), (7, .list .expr), (8, .int .i64), (9, .int .i64)], []⟩
noncomputable def r_parser_Nodes : Row := { X := { f := 43, fn := Tryz.f43, body := bodyOf Tryz.f43, inp := ⟨[(0, .agg .expr)], []⟩, res := [.int .i64], robj := [] }, pts := [([0, 0, 1, 0, 1, 1], q_parser_Nodes_0)] }
noncomputable def q_ref23_Same_0 : Pat := ⟨[(0, .list .ins), (1, .list .ins), (5, .int .i64)], []⟩
noncomputable def r_ref23_Same : Row := { X := { f := 44, fn := Tryz.f44, body := bodyOf Tryz.f44, inp := ⟨[(0, .list .ins), (1, .list .ins)], []⟩, res := [.bool], robj := [] }, pts := [([0, 0, 1, 0, 1, 1], q_ref23_Same_0)] }
noncomputable def q_ref01_SameBytes_0 : Pat := ⟨[(0, .list (.i .u8)), (1, .list (.i .u8)), (5, .int .i64)], []⟩
noncomputable def r_ref01_SameBytes : Row := { X := { f := 45, fn := Tryz.f45, body := bodyOf Tryz.f45, inp := ⟨[(0, .list (.i .u8)), (1, .list (.i .u8))], []⟩, res := [.bool], robj := [] }, pts := [([0, 0, 1, 0, 1, 1], q_ref01_SameBytes_0)] }
noncomputable def q_ref07_changed_0 : Pat := ⟨[(3, .ptr 0 0), (6, .ptr 1 0), (7, .int .i64)], [(0, .vagg 29 .expr), (1, .var 29 [.int .i64, .int .i64, .int .i64, .int .i64, .int .i64, .int .i64, .int .i64, .str, .af 2, .af 3, .af 4]), (2, .arr 80 .matcher), (3, .arr 9 .str), (4, .arr 29 .expr)]⟩
noncomputable def r_ref07_changed : Row := { X := { f := 46, fn := Tryz.f46, body := bodyOf Tryz.f46, inp := ⟨[(0, .agg .expr), (1, .int .i64), (2, .int .i64)], []⟩, res := [.agg .expr], robj := [] }, pts := [([0, 0, 1, 0, 1, 1, 1, 1, 1, 1, 1, 1, 1, 1, 1, 1, 1, 1, 1, 1, 1, 0, 1, 0, 1], q_ref07_changed_0)] }
noncomputable def r_parser_Parse : Row := { X := { f := 47, fn := Tryz.f47, body := bodyOf Tryz.f47, inp := ⟨[(0, .str)], []⟩, res := [.agg .expr, .int .i64, .int .i64], robj := [] } }
noncomputable def r_ref07_Valid : Row := { X := { f := 48, fn := Tryz.f48, body := bodyOf Tryz.f48, inp := ⟨[(0, .agg .expr)], []⟩, res := [.int .i64], robj := [] } }
noncomputable def q_ref23_postfix_0 : Pat := ⟨[(1, .ptr 0 0), (3, .af 1), (4, .int .i64)], [(0, .vagg 29 .expr), (1, .arr 45 .ins)]⟩
noncomputable def r_ref23_postfix : Row := { X := { f := 49, fn := Tryz.f49, body := bodyOf Tryz.f49, inp := ⟨[(0, .agg .expr)], []⟩, res := [.list .ins], robj := [] }, pts := [([0, 0, 1, 0, 1, 1], q_ref23_postfix_0)] }
noncomputable def r_ref01_Short : Row := { X := { f := 50, fn := Tryz.f50, body := bodyOf Tryz.f50, inp := ⟨[(0, .str), (1, .int .i64)], []⟩, res := [.str], robj := [] } }
noncomputable def q_ref23_Tree_0 : Pat := ⟨[(0, .list .ins), (2, .ptr 0 0), (4, .af 4), (5, .int .i64)], [(0, .var 29 [.int .i64, .int .i64, .int .i64, .int .i64, .int .i64, .int .i64, .int .i64, .str, .af 1, .af 2, .af 3]), (1, .arr 80 .matcher), (2, .arr 9 .str), (3, .arr 29 .expr), (4, .arr 29 .expr)]⟩
noncomputable def r_ref23_Tree : Row := { X := { f := 51, fn := Tryz.f51, body := bodyOf Tryz.f51, inp := ⟨[(0, .list .ins)], []⟩, res := [.agg .expr, .int .i64], robj := [] }, pts := [([0, 0, 1, 0, 1, 1, 1], q_ref23_Tree_0)] }
noncomputable def q_ref07_Equal_0 : Pat := ⟨[(2, .ptr 0 0), (3, .ptr 1 0), (5, .int .i64)], [(0, .vagg 29 .expr), (1, .vagg 29 .expr)]⟩
noncomputable def r_ref07_Equal : Row := { X := { f := 52, fn := Tryz.f52, body := bodyOf Tryz.f52, inp := ⟨[(0, .agg .expr), (1, .agg .expr)], []⟩, res := [.bool], robj := [] }, pts := [([0, 0, 1, 0, 1, 1, 1], q_ref07_Equal_0)] }
noncomputable def r_ref07_G_expr : Row := { X := { f := 53, fn := Tryz.f53, body := bodyOf Tryz.f53, inp := ⟨[(0, .ptr 0 0), (1, .int .i64)], [(0, .var 83 [.list (.i .i64), .int .i64, .list .str, .int .i64])]⟩, res := [.agg .expr], robj := [(0, .var 83 [.list (.i .i64), .int .i64, .list .str, .int .i64])] } }
noncomputable def r_parser_Valid : Row := { X := { f := 54, fn := Tryz.f54, body := bodyOf Tryz.f54, inp := ⟨[(0, .agg .expr)], []⟩, res := [.int .i64], robj := [] } }
noncomputable def r_plan_postfix : Row := { X := { f := 55, fn := Tryz.f55, body := bodyOf Tryz.f55, inp := ⟨[(0, .agg .expr)], []⟩, res := [.fn 93 [0]], robj := [(0, .vagg 29 .expr)] } }
noncomputable def r_ref01_Pick : Row := { X := { f := 58, fn := Tryz.f58, body := bodyOf Tryz.f58, inp := ⟨[(0, .list (.i .i64)), (1, .int .i64), (2, .int .i64)], []⟩, res := [.int .i64], robj := [] } }
noncomputable def q_ref05_Set_0 : Pat := ⟨[(0, .list (.i .i64)), (3, .list .str), (4, .af 0), (5, .int .i64), (6, .af 1), (7, .int .i64)], [(0, .arr 9 .str), (1, .arr 136 .label)]⟩
noncomputable def r_ref05_Set : Row := { X := { f := 59, fn := Tryz.f59, body := bodyOf Tryz.f59, inp := ⟨[(0, .list (.i .i64))], []⟩, res := [.list .label], robj := [] }, pts := [([0, 0, 1, 0, 1, 1, 1, 1, 1], q_ref05_Set_0)] }
noncomputable def q_labels_Match_0 : Pat := ⟨[(0, .list .label), (9, .list .matcher), (10, .int .i64), (11, .int .i64)], []⟩
noncomputable def r_labels_Match : Row := { X := { f := 60, fn := Tryz.f60, body := bodyOf Tryz.f60, inp := ⟨[(0, .list .label), (1, .list .matcher)], []⟩, res := [.bool], robj := [] }, pts := [([0, 0, 1, 0, 1], q_labels_Match_0)] }
noncomputable def r_ref08_Selects : Row := { X := { f := 61, fn := Tryz.f61, body := bodyOf Tryz.f61, inp := ⟨[(0, .agg .expr), (1, .agg .decl)], []⟩, res := [.bool], robj := [] } }
noncomputable def r_ref23_node : Row := { X := { f := 62, fn := Tryz.f62, body := bodyOf Tryz.f62, inp := ⟨[(0, .agg .ins)], []⟩, res := [.aggN .ins], robj := [] } }
noncomputable def q_ref23_write_0 : Pat := ⟨[(0, .list .ins), (3, .af 0), (4, .int .i64)], [(0, .arr 5 (.i .u8))]⟩
noncomputable def q_ref23_write_1 : Pat := ⟨[(0, .list .ins), (3, .af 0), (4, .int .i64), (5, .af 1), (6, .int .i64)], [(0, .arr 5 (.i .u8)), (1, .arr 3 (.i .i64))]⟩
noncomputable def q_ref23_write_2 : Pat := ⟨[(0, .list .ins), (3, .af 0), (4, .int .i64), (7, .int .i64)], [(0, .arr 5 (.i .u8))]⟩
noncomputable def q_ref23_write_3 : Pat := ⟨[(0, .list .ins), (3, .af 0), (4, .int .i64), (9, .int .i64)], [(0, .arr 5 (.i .u8))]⟩
noncomputable def r_ref23_write : Row := { X := { f := 63, fn := Tryz.f63, body := bodyOf Tryz.f63, inp := ⟨[(0, .list .ins)], []⟩, res := [.list (.i .u8)], robj := [] }, pts := [([0, 0, 1, 0, 1, 1], q_ref23_write_0), ([0, 0, 1, 0, 1, 0, 0, 1, 0, 0, 1, 0, 1, 1], q_ref23_write_1), ([0, 0, 1, 0, 1, 1, 1, 1, 0, 0, 1, 0, 0, 1, 0, 1, 1], q_ref23_write_2), ([0, 0, 1, 1, 1, 1, 1, 1, 1, 0, 0, 1, 0, 0, 1, 0, 1, 1], q_ref23_write_3)] }
noncomputable def q_ref23_Decode_0 : Pat := ⟨[(0, .list (.i .u8)), (4, .ptr 0 0), (5, .int .i64), (6, .af 1), (7, .int .i64)], [(0, .var 143 [.list (.i .u8), .int .i64]), (1, .arr 45 .ins)]⟩
noncomputable def r_ref23_Decode : Row := { X := { f := 64, fn := Tryz.f64, body := bodyOf Tryz.f64, inp := ⟨[(0, .list (.i .u8))], []⟩, res := [.list .ins, .int .i64], robj := [] }, pts := [([0, 0, 1, 0, 1, 1, 1, 1], q_ref23_Decode_0)] }
noncomputable def q_plan_ints_0 : Pat := ⟨[(0, .ptr 0 0), (6, .list (.i .i64)), (7, .int .i64), (8, .int .i64)], [(0, .var 104 [.af 2]), (1, .gone), (2, .arr 5 (.i .u8))]⟩
noncomputable def r_plan_ints : Row := { X := { f := 66, fn := Tryz.f66, body := bodyOf Tryz.f66, inp := ⟨[(0, .ptr 0 0), (1, .list (.i .i64))], [(0, .var 104 [.af 1]), (1, .arr 5 (.i .u8))]⟩, res := [], robj := [(0, .var 104 [.af 2]), (1, .gone), (2, .arr 5 (.i .u8))] }, pts := [([0, 0, 1], q_plan_ints_0)] }
noncomputable def r_wire_Writer_Text : Row := { X := { f := 67, fn := Tryz.f67, body := bodyOf Tryz.f67, inp := ⟨[(0, .ptr 0 0), (1, .str)], [(0, .var 104 [.af 1]), (1, .arr 5 (.i .u8))]⟩, res := [], robj := [(0, .var 104 [.af 2]), (1, .gone), (2, .arr 5 (.i .u8))] } }
noncomputable def r_wire_Writer_Done : Row := { X := { f := 68, fn := Tryz.f68, body := bodyOf Tryz.f68, inp := ⟨[(0, .ptr 0 0)], [(0, .var 104 [.af 1]), (1, .arr 5 (.i .u8))]⟩, res := [.list (.i .u8)], robj := [(0, .var 104 [.af 2]), (1, .gone), (2, .arr 5 (.i .u8))] } }
noncomputable def r_wire_Read : Row := { X := { f := 69, fn := Tryz.f69, body := bodyOf Tryz.f69, inp := ⟨[(0, .list (.i .u8))], []⟩, res := [.ptr 0 0], robj := [(0, .var 149 [.list (.i .u8), .int .i64])] } }
noncomputable def r_plan_count : Row := { X := { f := 70, fn := Tryz.f70, body := bodyOf Tryz.f70, inp := ⟨[(0, .ptr 0 0), (1, .int .i64)], [(0, .var 149 [.list (.i .u8), .int .i64])]⟩, res := [.int .i64], robj := [(0, .var 149 [.list (.i .u8), .int .i64])] } }
noncomputable def r_wire_Reader_Int : Row := { X := { f := 71, fn := Tryz.f71, body := bodyOf Tryz.f71, inp := ⟨[(0, .ptr 0 0)], [(0, .var 149 [.list (.i .u8), .int .i64])]⟩, res := [.int .i64], robj := [(0, .var 149 [.list (.i .u8), .int .i64])] } }
noncomputable def r_wire_Reader_Text : Row := { X := { f := 72, fn := Tryz.f72, body := bodyOf Tryz.f72, inp := ⟨[(0, .ptr 0 0)], [(0, .var 149 [.list (.i .u8), .int .i64])]⟩, res := [.str], robj := [(0, .var 149 [.list (.i .u8), .int .i64])] } }
noncomputable def r_bytes_Equal : Row := { X := { f := 73, fn := Tryz.f73, body := bodyOf Tryz.f73, inp := ⟨[(0, .list (.i .u8)), (1, .list (.i .u8))], []⟩, res := [.bool], robj := [] } }
noncomputable def q_slices_Equal_Matcher_0 : Pat := ⟨[(0, .list .matcher), (1, .list .matcher), (12, .int .i64), (13, .int .i64)], []⟩
noncomputable def r_slices_Equal_Matcher : Row := { X := { f := 74, fn := Tryz.f74, body := bodyOf Tryz.f74, inp := ⟨[(0, .list .matcher), (1, .list .matcher)], []⟩, res := [.bool], robj := [] }, pts := [([0, 0, 1, 0, 1, 1], q_slices_Equal_Matcher_0)] }
noncomputable def q_slices_Equal_string_0 : Pat := ⟨[(0, .list .str), (1, .list .str), (12, .int .i64), (13, .int .i64)], []⟩
noncomputable def r_slices_Equal_string : Row := { X := { f := 75, fn := Tryz.f75, body := bodyOf Tryz.f75, inp := ⟨[(0, .list .str), (1, .list .str)], []⟩, res := [.bool], robj := [] }, pts := [([0, 0, 1, 0, 1, 1], q_slices_Equal_string_0)] }
noncomputable def q_slices_EqualFunc_Expr_0 : Pat := ⟨[(1, .list .expr), (2, .fn 42 []), (15, .list .expr), (16, .int .i64), (17, .int .i64)], []⟩
noncomputable def r_slices_EqualFunc_Expr : Row := { X := { f := 76, fn := Tryz.f76, body := bodyOf Tryz.f76, inp := ⟨[(0, .list .expr), (1, .list .expr), (2, .fn 42 [])], []⟩, res := [.bool], robj := [] }, pts := [([0, 0, 1, 0, 1, 1], q_slices_EqualFunc_Expr_0)] }
noncomputable def r_ref23_SameIns : Row := { X := { f := 77, fn := Tryz.f77, body := bodyOf Tryz.f77, inp := ⟨[(0, .agg .ins), (1, .agg .ins)], []⟩, res := [.bool], robj := [] } }
noncomputable def r_lexer_Tokens : Row := { X := { f := 78, fn := Tryz.f78, body := bodyOf Tryz.f78, inp := ⟨[(0, .str)], []⟩, res := [.list .tok, .int .i64, .int .i64], robj := [] } }
noncomputable def q_parser_reader_expression_0 : Pat := ⟨[(0, .ptr 0 0), (2, .ptr 1 0), (3, .ptr 2 0)], [(0, .var 128 [.list .tok, .int .i64]), (1, .var 29 [.int .i64, .int .i64, .int .i64, .int .i64, .int .i64, .int .i64, .int .i64, .str, .af 3, .af 4, .af 5]), (2, .vagg 29 .expr), (3, .arr 80 .matcher), (4, .arr 9 .str), (5, .arr 29 .expr)]⟩
noncomputable def r_parser_reader_expression : Row := { X := { f := 80, fn := Tryz.f80, body := bodyOf Tryz.f80, inp := ⟨[(0, .ptr 0 0)], [(0, .var 128 [.list .tok, .int .i64])]⟩, res := [.agg .expr], robj := [(0, .var 128 [.list .tok, .int .i64])] }, exc := some (.ifc 124 (.agg .frac)), pts := [([0, 0, 1, 1], q_parser_reader_expression_0)] }
noncomputable def r_parser_reader_fail : Row := { X := { f := 81, fn := Tryz.f81, body := bodyOf Tryz.f81, inp := ⟨[(0, .ptr 0 0), (1, .int .i64)], [(0, .var 128 [.list .tok, .int .i64])]⟩, res := [], robj := [(0, .var 128 [.list .tok, .int .i64])] }, exc := some (.ifc 124 (.agg .frac)) }
noncomputable def r_parser_tooLarge : Row := { X := { f := 82, fn := Tryz.f82, body := bodyOf Tryz.f82, inp := ⟨[(0, .agg .expr)], []⟩, res := [.bool], robj := [] } }
noncomputable def q_ref07_Depth_0 : Pat := ⟨[(1, .ptr 0 0), (3, .int .i64), (4, .int .i64)], [(0, .vagg 29 .expr)]⟩
noncomputable def r_ref07_Depth : Row := { X := { f := 83, fn := Tryz.f83, body := bodyOf Tryz.f83, inp := ⟨[(0, .agg .expr)], []⟩, res := [.int .i64], robj := [] }, pts := [([0, 0, 1, 0, 1, 1], q_ref07_Depth_0)] }
noncomputable def q_ref07_Nodes_0 : Pat := ⟨[(1, .ptr 0 0), (3, .int .i64), (4, .int .i64)], [(0, .vagg 29 .expr)]⟩
noncomputable def r_ref07_Nodes : Row := { X := { f := 84, fn := Tryz.f84, body := bodyOf Tryz.f84, inp := ⟨[(0, .agg .expr)], []⟩, res := [.int .i64], robj := [] }, pts := [([0, 0, 1, 0, 1, 1], q_ref07_Nodes_0)] }
noncomputable def q_ref07_valid_0 : Pat := ⟨[(1, .ptr 0 0), (3, .int .i64)], [(0, .vagg 29 .expr)]⟩
noncomputable def r_ref07_valid : Row := { X := { f := 85, fn := Tryz.f85, body := bodyOf Tryz.f85, inp := ⟨[(0, .agg .expr)], []⟩, res := [.int .i64], robj := [] }, pts := [([0, 0, 1, 0, 1, 1, 1, 1, 1], q_ref07_valid_0)] }
noncomputable def r_ref23_Ins : Row := { X := { f := 86, fn := Tryz.f86, body := bodyOf Tryz.f86, inp := ⟨[(0, .agg .expr)], []⟩, res := [.agg .ins], robj := [] } }
noncomputable def q_ref07_sameMatchers_0 : Pat := ⟨[(0, .list .matcher), (1, .list .matcher), (5, .int .i64)], []⟩
noncomputable def r_ref07_sameMatchers : Row := { X := { f := 87, fn := Tryz.f87, body := bodyOf Tryz.f87, inp := ⟨[(0, .list .matcher), (1, .list .matcher)], []⟩, res := [.bool], robj := [] }, pts := [([0, 0, 1, 0, 1, 1], q_ref07_sameMatchers_0)] }
noncomputable def q_ref01_SameTexts_0 : Pat := ⟨[(0, .list .str), (1, .list .str), (5, .int .i64)], []⟩
noncomputable def r_ref01_SameTexts : Row := { X := { f := 88, fn := Tryz.f88, body := bodyOf Tryz.f88, inp := ⟨[(0, .list .str), (1, .list .str)], []⟩, res := [.bool], robj := [] }, pts := [([0, 0, 1, 0, 1, 1], q_ref01_SameTexts_0)] }
noncomputable def r_ref07_G_next : Row := { X := { f := 89, fn := Tryz.f89, body := bodyOf Tryz.f89, inp := ⟨[(0, .ptr 0 0), (1, .int .i64)], [(0, .var 83 [.list (.i .i64), .int .i64, .list .str, .int .i64])]⟩, res := [.int .i64], robj := [(0, .var 83 [.list (.i .i64), .int .i64, .list .str, .int .i64])] } }
noncomputable def q_ref07_G_selection_0 : Pat := ⟨[(0, .ptr 0 0), (2, .ptr 1 0), (3, .ptr 2 0), (4, .af 9), (5, .int .i64)], [(0, .var 83 [.list (.i .i64), .int .i64, .list .str, .int .i64]), (1, .var 29 [.int .i64, .int .i64, .int .i64, .int .i64, .int .i64, .int .i64, .int .i64, .str, .af 3, .af 4, .af 5]), (2, .var 29 [.int .i64, .int .i64, .int .i64, .int .i64, .int .i64, .int .i64, .int .i64, .str, .af 6, .af 7, .af 8]), (3, .arr 80 .matcher), (4, .arr 9 .str), (5, .arr 29 .expr), (6, .arr 80 .matcher), (7, .arr 9 .str), (8, .arr 29 .expr), (9, .arr 3 (.i .i64))]⟩
noncomputable def r_ref07_G_selection : Row := { X := { f := 90, fn := Tryz.f90, body := bodyOf Tryz.f90, inp := ⟨[(0, .ptr 0 0)], [(0, .var 83 [.list (.i .i64), .int .i64, .list .str, .int .i64])]⟩, res := [.agg .expr], robj := [(0, .var 83 [.list (.i .i64), .int .i64, .list .str, .int .i64])] }, pts := [([0, 0, 1, 0, 1, 0, 1, 0, 1, 1, 1, 1, 1], q_ref07_G_selection_0)] }
noncomputable def q_ref07_G_group_0 : Pat := ⟨[(0, .ptr 0 0), (1, .int .i64), (4, .ptr 1 0), (5, .ptr 2 0), (6, .list .str), (7, .int .i64), (8, .int .i64)], [(0, .var 83 [.list (.i .i64), .int .i64, .list .str, .int .i64]), (1, .var 29 [.int .i64, .int .i64, .int .i64, .int .i64, .int .i64, .int .i64, .int .i64, .str, .af 3, .af 4, .af 5]), (2, .var 29 [.int .i64, .int .i64, .int .i64, .int .i64, .int .i64, .int .i64, .int .i64, .str, .af 6, .af 7, .af 8]), (3, .arr 80 .matcher), (4, .arr 9 .str), (5, .arr 29 .expr), (6, .arr 80 .matcher), (7, .arr 9 .str), (8, .arr 29 .expr)]⟩
noncomputable def r_ref07_G_group : Row := { X := { f := 91, fn := Tryz.f91, body := bodyOf Tryz.f91, inp := ⟨[(0, .ptr 0 0), (1, .int .i64)], [(0, .var 83 [.list (.i .i64), .int .i64, .list .str, .int .i64])]⟩, res := [.agg .expr], robj := [(0, .var 83 [.list (.i .i64), .int .i64, .list .str, .int .i64])] }, pts := [([0, 0, 1, 0, 1, 1, 1, 1, 1], q_ref07_G_group_0)] }
noncomputable def q_parser_valid_0 : Pat := ⟨[(30, .list .expr), (31, .int .i64), (32, .int .i64)], []⟩
noncomputable def r_parser_valid : Row := { X := { f := 92, fn := Tryz.f92, body := bodyOf Tryz.f92, inp := ⟨[(0, .agg .expr)], []⟩, res := [.int .i64], robj := [] }, pts := [([0, 0, 1, 0, 1, 1], q_parser_valid_0)] }
noncomputable def r_plan_postfix_1 : Row := { X := { f := 93, fn := Tryz.f93, body := bodyOf Tryz.f93, inp := ⟨[(0, .fn 2000025 [0]), (1, .ptr 3 0)], [(0, .lp 25 [.ptr 1 0]), (1, .var 36 [.af 2]), (2, .arr 45 .ins), (3, .vagg 29 .expr)]⟩, res := [], robj := [(0, .lp 25 [.ptr 1 0]), (1, .var 36 [.af 4]), (2, .gone), (3, .vagg 29 .expr), (4, .arr 45 .ins)] } }
noncomputable def q_plan_visit_0 : Pat := ⟨[(1, .fn 2000025 [0]), (2, .ptr 3 0), (8, .list .expr), (9, .int .i64), (10, .int .i64)], [(0, .lp 25 [.ptr 1 0]), (1, .var 36 [.af 4]), (2, .gone), (3, .vagg 29 .expr), (4, .arr 45 .ins)]⟩
noncomputable def r_plan_visit : Row := { X := { f := 94, fn := Tryz.f94, body := bodyOf Tryz.f94, inp := ⟨[(0, .agg .expr), (1, .fn 2000025 [0])], [(0, .lp 25 [.ptr 1 0]), (1, .var 36 [.af 2]), (2, .arr 45 .ins)]⟩, res := [.bool], robj := [(0, .lp 25 [.ptr 1 0]), (1, .var 36 [.af 3]), (2, .gone), (3, .arr 45 .ins)] }, pts := [([0, 0, 1, 0, 1], q_plan_visit_0)] }
noncomputable def r_ref05_Names : Row := { X := { f := 95, fn := Tryz.f95, body := bodyOf Tryz.f95, inp := ⟨[], []⟩, res := [.list .str], robj := [] } }
noncomputable def r_ref05_values : Row := { X := { f := 96, fn := Tryz.f96, body := bodyOf Tryz.f96, inp := ⟨[], []⟩, res := [.af 0], robj := [(0, .arr 9 .str)] } }
noncomputable def q_labels_Get_0 : Pat := ⟨[(1, .str), (7, .list .label), (8, .int .i64), (9, .int .i64)], []⟩
noncomputable def r_labels_Get : Row := { X := { f := 97, fn := Tryz.f97, body := bodyOf Tryz.f97, inp := ⟨[(0, .list .label), (1, .str)], []⟩, res := [.str], robj := [] }, pts := [([0, 0, 1, 0, 1], q_labels_Get_0)] }
noncomputable def q_ref05_Match_0 : Pat := ⟨[(0, .list .label), (1, .list .matcher), (5, .int .i64)], []⟩
noncomputable def r_ref05_Match : Row := { X := { f := 99, fn := Tryz.f99, body := bodyOf Tryz.f99, inp := ⟨[(0, .list .label), (1, .list .matcher)], []⟩, res := [.bool], robj := [] }, pts := [([0, 0, 1, 0, 1], q_ref05_Match_0)] }
noncomputable def r_ref02_Int : Row := { X := { f := 100, fn := Tryz.f100, body := bodyOf Tryz.f100, inp := ⟨[(0, .int .i64)], []⟩, res := [.af 0], robj := [(0, .arr 5 (.i .u8))] } }
noncomputable def r_ref02_Raw : Row := { X := { f := 101, fn := Tryz.f101, body := bodyOf Tryz.f101, inp := ⟨[(0, .list (.i .u8))], []⟩, res := [.af 0], robj := [(0, .arr 5 (.i .u8))] } }
noncomputable def r_ref02_Reader_Int : Row := { X := { f := 102, fn := Tryz.f102, body := bodyOf Tryz.f102, inp := ⟨[(0, .ptr 0 0)], [(0, .var 143 [.list (.i .u8), .int .i64])]⟩, res := [.int .i64], robj := [(0, .var 143 [.list (.i .u8), .int .i64])] } }
noncomputable def q_ref23_read_0 : Pat := ⟨[(0, .ptr 0 0), (2, .ptr 1 0), (3, .ptr 2 0), (4, .int .i64), (5, .int .i64)], [(0, .var 143 [.list (.i .u8), .int .i64]), (1, .var 45 [.int .i64, .int .i64, .int .i64, .int .i64, .int .i64, .int .i64, .int .i64, .str, .af 3, .af 4]), (2, .var 45 [.int .i64, .int .i64, .int .i64, .int .i64, .int .i64, .int .i64, .int .i64, .str, .af 5, .af 6]), (3, .arr 80 .matcher), (4, .arr 9 .str), (5, .arr 80 .matcher), (6, .arr 9 .str)]⟩
noncomputable def q_ref23_read_1 : Pat := ⟨[(0, .ptr 0 0), (2, .ptr 1 0), (3, .ptr 2 0), (4, .int .i64), (7, .int .i64)], [(0, .var 143 [.list (.i .u8), .int .i64]), (1, .var 45 [.int .i64, .int .i64, .int .i64, .int .i64, .int .i64, .int .i64, .int .i64, .str, .af 3, .af 4]), (2, .var 45 [.int .i64, .int .i64, .int .i64, .int .i64, .int .i64, .int .i64, .int .i64, .str, .af 5, .af 6]), (3, .arr 80 .matcher), (4, .arr 9 .str), (5, .arr 80 .matcher), (6, .arr 9 .str)]⟩
noncomputable def r_ref23_read : Row := { X := { f := 103, fn := Tryz.f103, body := bodyOf Tryz.f103, inp := ⟨[(0, .ptr 0 0)], [(0, .var 143 [.list (.i .u8), .int .i64])]⟩, res := [.agg .ins], robj := [(0, .var 143 [.list (.i .u8), .int .i64])] }, pts := [([0, 0, 1, 0, 1, 1, 1, 1, 1, 1, 1, 1, 1, 1, 1], q_ref23_read_0), ([0, 0, 1, 0, 1, 1, 1, 1, 1, 1, 1, 1, 1, 1, 1, 1, 1], q_ref23_read_1)] }
noncomputable def r_wire_Writer_Int : Row := { X := { f := 104, fn := Tryz.f104, body := bodyOf Tryz.f104, inp := ⟨[(0, .ptr 0 0), (1, .int .i64)], [(0, .var 104 [.af 1]), (1, .arr 5 (.i .u8))]⟩, res := [], robj := [(0, .var 104 [.af 2]), (1, .gone), (2, .arr 5 (.i .u8))] } }
noncomputable def q_wire_Writer_Uint_0 : Pat := ⟨[(0, .ptr 0 0), (1, .int .u64)], [(0, .var 104 [.af 2]), (1, .gone), (2, .arr 5 (.i .u8))]⟩
noncomputable def r_wire_Writer_Uint : Row := { X := { f := 105, fn := Tryz.f105, body := bodyOf Tryz.f105, inp := ⟨[(0, .ptr 0 0), (1, .int .u64)], [(0, .var 104 [.af 1]), (1, .arr 5 (.i .u8))]⟩, res := [], robj := [(0, .var 104 [.af 2]), (1, .gone), (2, .arr 5 (.i .u8))] }, pts := [([0, 0, 0], q_wire_Writer_Uint_0)] }
noncomputable def r_wire_unzigzag : Row := { X := { f := 107, fn := Tryz.f107, body := bodyOf Tryz.f107, inp := ⟨[(0, .int .u64)], []⟩, res := [.int .i64], robj := [] } }
noncomputable def q_wire_Reader_Uint_0 : Pat := ⟨[(0, .ptr 0 0), (3, .int .u64), (4, .int .i64)], [(0, .var 149 [.list (.i .u8), .int .i64])]⟩
noncomputable def r_wire_Reader_Uint : Row := { X := { f := 108, fn := Tryz.f108, body := bodyOf Tryz.f108, inp := ⟨[(0, .ptr 0 0)], [(0, .var 149 [.list (.i .u8), .int .i64])]⟩, res := [.int .u64], robj := [(0, .var 149 [.list (.i .u8), .int .i64])] }, pts := [([0, 0, 1, 0, 1, 1], q_wire_Reader_Uint_0)] }
noncomputable def r_wire_Reader_Raw : Row := { X := { f := 109, fn := Tryz.f109, body := bodyOf Tryz.f109, inp := ⟨[(0, .ptr 0 0)], [(0, .var 149 [.list (.i .u8), .int .i64])]⟩, res := [.list (.i .u8)], robj := [(0, .var 149 [.list (.i .u8), .int .i64])] } }
noncomputable def q_lexer_scanner_all_0 : Pat := ⟨[(0, .ptr 0 0), (1, .fn 2000078 [1])], [(0, .var 154 [.str, .int .i64, .int .i64]), (1, .lp 78 [.ptr 2 0]), (2, .var 120 [.af 4]), (3, .gone), (4, .arr 157 .tok)]⟩
noncomputable def r_lexer_scanner_all : Row := { X := { f := 110, fn := Tryz.f110, body := bodyOf Tryz.f110, inp := ⟨[(0, .ptr 0 0), (1, .fn 2000078 [1])], [(0, .var 154 [.str, .int .i64, .int .i64]), (1, .lp 78 [.ptr 2 0]), (2, .var 120 [.af 3]), (3, .arr 157 .tok)]⟩, res := [], robj := [(0, .var 154 [.str, .int .i64, .int .i64]), (1, .lp 78 [.ptr 2 0]), (2, .var 120 [.af 4]), (3, .gone), (4, .arr 157 .tok)] }, pts := [([0, 0], q_lexer_scanner_all_0)] }
noncomputable def q_parser_reader_term_0 : Pat := ⟨[(0, .ptr 0 0), (2, .ptr 1 0), (3, .ptr 2 0)], [(0, .var 128 [.list .tok, .int .i64]), (1, .var 29 [.int .i64, .int .i64, .int .i64, .int .i64, .int .i64, .int .i64, .int .i64, .str, .af 3, .af 4, .af 5]), (2, .vagg 29 .expr), (3, .arr 80 .matcher), (4, .arr 9 .str), (5, .arr 29 .expr)]⟩
noncomputable def r_parser_reader_term : Row := { X := { f := 111, fn := Tryz.f111, body := bodyOf Tryz.f111, inp := ⟨[(0, .ptr 0 0)], [(0, .var 128 [.list .tok, .int .i64])]⟩, res := [.agg .expr], robj := [(0, .var 128 [.list .tok, .int .i64])] }, exc := some (.ifc 124 (.agg .frac)), pts := [([0, 0, 1, 1], q_parser_reader_term_0)] }
noncomputable def r_parser_reader_accept : Row := { X := { f := 112, fn := Tryz.f112, body := bodyOf Tryz.f112, inp := ⟨[(0, .ptr 0 0), (1, .str)], [(0, .var 128 [.list .tok, .int .i64])]⟩, res := [.bool], robj := [(0, .var 128 [.list .tok, .int .i64])] } }
noncomputable def r_parser_binary : Row := { X := { f := 113, fn := Tryz.f113, body := bodyOf Tryz.f113, inp := ⟨[(0, .int .i64), (1, .agg .expr), (2, .agg .expr)], []⟩, res := [.agg .expr], robj := [] } }
noncomputable def q_parser_Depth_0 : Pat := ⟨[(3, .int .i64), (7, .list .expr), (8, .int .i64), (9, .int .i64)], []⟩
noncomputable def r_parser_Depth : Row := { X := { f := 114, fn := Tryz.f114, body := bodyOf Tryz.f114, inp := ⟨[(0, .agg .expr)], []⟩, res := [.int .i64], robj := [] }, pts := [([0, 0, 1, 0, 1, 1], q_parser_Depth_0)] }
noncomputable def r_ref07_shaped : Row := { X := { f := 115, fn := Tryz.f115, body := bodyOf Tryz.f115, inp := ⟨[(0, .agg .expr)], []⟩, res := [.bool], robj := [] } }
noncomputable def q_ref07_named_0 : Pat := ⟨[(1, .ptr 0 0), (3, .int .i64)], [(0, .vagg 29 .expr)]⟩
noncomputable def q_ref07_named_1 : Pat := ⟨[(1, .ptr 0 0), (4, .int .i64)], [(0, .vagg 29 .expr)]⟩
noncomputable def r_ref07_named : Row := { X := { f := 116, fn := Tryz.f116, body := bodyOf Tryz.f116, inp := ⟨[(0, .agg .expr)], []⟩, res := [.bool], robj := [] }, pts := [([0, 0, 1, 0, 1, 1], q_ref07_named_0), ([0, 0, 1, 0, 1, 1, 1], q_ref07_named_1)] }
noncomputable def r_ref07_within : Row := { X := { f := 117, fn := Tryz.f117, body := bodyOf Tryz.f117, inp := ⟨[(0, .agg .expr)], []⟩, res := [.bool], robj := [] } }
noncomputable def q_ref05_Matchers_0 : Pat := ⟨[(0, .list (.i .i64)), (3, .list .str), (4, .af 0), (5, .af 1), (6, .int .i64)], [(0, .arr 9 .str), (1, .arr 80 .matcher)]⟩
noncomputable def r_ref05_Matchers : Row := { X := { f := 118, fn := Tryz.f118, body := bodyOf Tryz.f118, inp := ⟨[(0, .list (.i .i64))], []⟩, res := [.list .matcher], robj := [] }, pts := [([0, 0, 1, 0, 1, 1, 1, 1], q_ref05_Matchers_0)] }
noncomputable def r_parser_shaped : Row := { X := { f := 119, fn := Tryz.f119, body := bodyOf Tryz.f119, inp := ⟨[(0, .agg .expr)], []⟩, res := [.bool], robj := [] } }
noncomputable def q_parser_named_0 : Pat := ⟨[(1, .ptr 0 0), (23, .list .matcher), (24, .int .i64), (25, .int .i64)], [(0, .vagg 29 .expr)]⟩
noncomputable def q_parser_named_1 : Pat := ⟨[(1, .ptr 0 0), (34, .list .str), (35, .int .i64), (36, .int .i64)], [(0, .vagg 29 .expr)]⟩
noncomputable def r_parser_named : Row := { X := { f := 120, fn := Tryz.f120, body := bodyOf Tryz.f120, inp := ⟨[(0, .agg .expr)], []⟩, res := [.bool], robj := [] }, pts := [([0, 0, 1, 0, 1, 1], q_parser_named_0), ([0, 0, 1, 0, 1, 1, 1], q_parser_named_1)] }
noncomputable def r_parser_ranged : Row := { X := { f := 121, fn := Tryz.f121, body := bodyOf Tryz.f121, inp := ⟨[(0, .agg .expr)], []⟩, res := [.bool], robj := [] } }
noncomputable def r_ref05_holds : Row := { X := { f := 123, fn := Tryz.f123, body := bodyOf Tryz.f123, inp := ⟨[(0, .agg .matcher), (1, .str)], []⟩, res := [.bool], robj := [] } }
noncomputable def q_ref05_Get_0 : Pat := ⟨[(0, .list .label), (1, .str), (5, .int .i64)], []⟩
noncomputable def r_ref05_Get : Row := { X := { f := 124, fn := Tryz.f124, body := bodyOf Tryz.f124, inp := ⟨[(0, .list .label), (1, .str)], []⟩, res := [.str], robj := [] }, pts := [([0, 0, 1, 0, 1], q_ref05_Get_0)] }
noncomputable def q_ref02_Uint_0 : Pat := ⟨[(0, .int .u64), (3, .af 0)], [(0, .arr 5 (.i .u8))]⟩
noncomputable def r_ref02_Uint : Row := { X := { f := 125, fn := Tryz.f125, body := bodyOf Tryz.f125, inp := ⟨[(0, .int .u64)], []⟩, res := [.af 0], robj := [(0, .arr 5 (.i .u8))] }, pts := [([0, 0, 0, 1, 1], q_ref02_Uint_0)] }
noncomputable def r_ref02_Zigzag : Row := { X := { f := 126, fn := Tryz.f126, body := bodyOf Tryz.f126, inp := ⟨[(0, .int .i64)], []⟩, res := [.int .u64], robj := [] } }
noncomputable def r_ref02_Back : Row := { X := { f := 127, fn := Tryz.f127, body := bodyOf Tryz.f127, inp := ⟨[(0, .int .u64)], []⟩, res := [.int .i64], robj := [] } }
noncomputable def q_ref02_Reader_Uint_0 : Pat := ⟨[(0, .ptr 0 0), (3, .int .u64), (4, .int .u64), (5, .int .i64)], [(0, .var 143 [.list (.i .u8), .int .i64])]⟩
noncomputable def r_ref02_Reader_Uint : Row := { X := { f := 128, fn := Tryz.f128, body := bodyOf Tryz.f128, inp := ⟨[(0, .ptr 0 0)], [(0, .var 143 [.list (.i .u8), .int .i64])]⟩, res := [.int .u64], robj := [(0, .var 143 [.list (.i .u8), .int .i64])] }, pts := [([0, 0, 1, 0, 1, 1, 1], q_ref02_Reader_Uint_0)] }
noncomputable def r_ref02_Reader_Raw : Row := { X := { f := 129, fn := Tryz.f129, body := bodyOf Tryz.f129, inp := ⟨[(0, .ptr 0 0)], [(0, .var 143 [.list (.i .u8), .int .i64])]⟩, res := [.list (.i .u8)], robj := [(0, .var 143 [.list (.i .u8), .int .i64])] } }
noncomputable def r_wire_zigzag : Row := { X := { f := 130, fn := Tryz.f130, body := bodyOf Tryz.f130, inp := ⟨[(0, .int .i64)], []⟩, res := [.int .u64], robj := [] } }
noncomputable def r_wire_Reader_next : Row := { X := { f := 131, fn := Tryz.f131, body := bodyOf Tryz.f131, inp := ⟨[(0, .ptr 0 0)], [(0, .var 149 [.list (.i .u8), .int .i64])]⟩, res := [.int .u8], robj := [(0, .var 149 [.list (.i .u8), .int .i64])] } }
noncomputable def r_wire_Reader_fail : Row := { X := { f := 132, fn := Tryz.f132, body := bodyOf Tryz.f132, inp := ⟨[(0, .ptr 0 0), (1, .int .i64)], [(0, .var 149 [.list (.i .u8), .int .i64])]⟩, res := [], robj := [(0, .var 149 [.list (.i .u8), .int .i64])] } }
noncomputable def q_wire_list_byte_0 : Pat := ⟨[(0, .ptr 0 0), (1, .fn 1000131 [0]), (5, .int .u64), (6, .af 1), (7, .int .u64)], [(0, .var 149 [.list (.i .u8), .int .i64]), (1, .arr 5 (.i .u8))]⟩
noncomputable def r_wire_list_byte : Row := { X := { f := 133, fn := Tryz.f133, body := bodyOf Tryz.f133, inp := ⟨[(0, .ptr 0 0), (1, .fn 1000131 [0])], [(0, .var 149 [.list (.i .u8), .int .i64])]⟩, res := [.list (.i .u8)], robj := [(0, .var 149 [.list (.i .u8), .int .i64])] }, pts := [([0, 0, 1, 0, 1, 1, 1, 1], q_wire_list_byte_0)] }
noncomputable def r_lexer_token : Row := { X := { f := 135, fn := Tryz.f135, body := bodyOf Tryz.f135, inp := ⟨[(0, .str)], []⟩, res := [.agg .tok, .int .i64, .int .i64], robj := [] } }
noncomputable def r_parser_reader_factor : Row := { X := { f := 136, fn := Tryz.f136, body := bodyOf Tryz.f136, inp := ⟨[(0, .ptr 0 0)], [(0, .var 128 [.list .tok, .int .i64])]⟩, res := [.agg .expr], robj := [(0, .var 128 [.list .tok, .int .i64])] }, exc := some (.ifc 124 (.agg .frac)) }
noncomputable def r_parser_reader_is : Row := { X := { f := 137, fn := Tryz.f137, body := bodyOf Tryz.f137, inp := ⟨[(0, .ptr 0 0), (1, .str)], [(0, .var 128 [.list .tok, .int .i64])]⟩, res := [.bool], robj := [(0, .var 128 [.list .tok, .int .i64])] } }
noncomputable def r_ref03_Valid : Row := { X := { f := 138, fn := Tryz.f138, body := bodyOf Tryz.f138, inp := ⟨[(0, .agg .frac)], []⟩, res := [.bool], robj := [] } }
noncomputable def q_ref05_Name_0 : Pat := ⟨[(0, .str), (3, .int .i64)], []⟩
noncomputable def r_ref05_Name : Row := { X := { f := 139, fn := Tryz.f139, body := bodyOf Tryz.f139, inp := ⟨[(0, .str)], []⟩, res := [.bool], robj := [] }, pts := [([0, 0, 1, 0, 1, 1], q_ref05_Name_0)] }
noncomputable def q_ref07_find_0 : Pat := ⟨[(0, .list .str), (1, .str), (5, .int .i64)], []⟩
noncomputable def r_ref07_find : Row := { X := { f := 140, fn := Tryz.f140, body := bodyOf Tryz.f140, inp := ⟨[(0, .list .str), (1, .str)], []⟩, res := [.int .i64], robj := [] }, pts := [([0, 0, 1, 0, 1], q_ref07_find_0)] }
noncomputable def r_ref07_Groups : Row := { X := { f := 141, fn := Tryz.f141, body := bodyOf Tryz.f141, inp := ⟨[], []⟩, res := [.list .str], robj := [] } }
noncomputable def r_ref05_ValidMatcher : Row := { X := { f := 142, fn := Tryz.f142, body := bodyOf Tryz.f142, inp := ⟨[(0, .agg .matcher)], []⟩, res := [.bool], robj := [] } }
noncomputable def r_frac_Valid : Row := { X := { f := 143, fn := Tryz.f143, body := bodyOf Tryz.f143, inp := ⟨[(0, .agg .frac)], []⟩, res := [.bool], robj := [] } }
noncomputable def q_labels_Name_0 : Pat := ⟨[(15, .ptr 0 0)], [(0, .iter)]⟩
noncomputable def r_labels_Name : Row := { X := { f := 144, fn := Tryz.f144, body := bodyOf Tryz.f144, inp := ⟨[(0, .str)], []⟩, res := [.bool], robj := [] }, pts := [([0, 0, 1, 0, 1, 1], q_labels_Name_0)] }
noncomputable def r_slices_Contains_string : Row := { X := { f := 145, fn := Tryz.f145, body := bodyOf Tryz.f145, inp := ⟨[(0, .list .str), (1, .str)], []⟩, res := [.bool], robj := [] } }
noncomputable def r_labels_ValidMatcher : Row := { X := { f := 146, fn := Tryz.f146, body := bodyOf Tryz.f146, inp := ⟨[(0, .agg .matcher)], []⟩, res := [.bool], robj := [] } }
noncomputable def r_parser_between : Row := { X := { f := 147, fn := Tryz.f147, body := bodyOf Tryz.f147, inp := ⟨[(0, .int .i64), (1, .int .i64), (2, .int .i64)], []⟩, res := [.bool], robj := [] } }
noncomputable def r_ref02_Reader_length : Row := { X := { f := 148, fn := Tryz.f148, body := bodyOf Tryz.f148, inp := ⟨[(0, .ptr 0 0)], [(0, .var 143 [.list (.i .u8), .int .i64])]⟩, res := [.int .i64], robj := [(0, .var 143 [.list (.i .u8), .int .i64])] } }
noncomputable def q_lexer_prefix_0 : Pat := ⟨[(0, .str), (1, .str), (5, .int .i64)], []⟩
noncomputable def r_lexer_prefix : Row := { X := { f := 154, fn := Tryz.f154, body := bodyOf Tryz.f154, inp := ⟨[(0, .str), (1, .str)], []⟩, res := [.str], robj := [] }, pts := [([0, 0, 0, 1, 1], q_lexer_prefix_0)] }
noncomputable def q_lexer_number_0 : Pat := ⟨[(0, .str), (2, .ptr 0 0), (5, .int .i64), (9, .ptr 1 0)], [(0, .vagg 157 .tok), (1, .iter)]⟩
noncomputable def r_lexer_number : Row := { X := { f := 155, fn := Tryz.f155, body := bodyOf Tryz.f155, inp := ⟨[(0, .str)], []⟩, res := [.agg .tok, .int .i64, .int .i64], robj := [] }, pts := [([0, 0, 1, 0, 1, 1], q_lexer_number_0)] }
noncomputable def q_lexer_quoted_0 : Pat := ⟨[(2, .ptr 0 0), (5, .str), (19, .int .i64), (20, .int .i64)], [(0, .vagg 157 .tok)]⟩
noncomputable def r_lexer_quoted : Row := { X := { f := 156, fn := Tryz.f156, body := bodyOf Tryz.f156, inp := ⟨[(0, .str)], []⟩, res := [.agg .tok, .int .i64, .int .i64], robj := [] }, pts := [([0, 0, 1, 0, 1, 1, 1], q_lexer_quoted_0)] }
noncomputable def r_parser_reader_expect : Row := { X := { f := 157, fn := Tryz.f157, body := bodyOf Tryz.f157, inp := ⟨[(0, .ptr 0 0), (1, .str)], [(0, .var 128 [.list .tok, .int .i64])]⟩, res := [], robj := [(0, .var 128 [.list .tok, .int .i64])] }, exc := some (.ifc 124 (.agg .frac)) }
noncomputable def r_parser_reader_number : Row := { X := { f := 158, fn := Tryz.f158, body := bodyOf Tryz.f158, inp := ⟨[(0, .ptr 0 0), (1, .int .i64), (2, .int .i64)], [(0, .var 128 [.list .tok, .int .i64])]⟩, res := [.int .i64], robj := [(0, .var 128 [.list .tok, .int .i64])] }, exc := some (.ifc 124 (.agg .frac)) }
noncomputable def r_parser_reader_peek : Row := { X := { f := 159, fn := Tryz.f159, body := bodyOf Tryz.f159, inp := ⟨[(0, .ptr 0 0), (1, .int .i64)], [(0, .var 128 [.list .tok, .int .i64])]⟩, res := [.agg .tok], robj := [(0, .var 128 [.list .tok, .int .i64])] }, exc := some (.ifc 124 (.agg .frac)) }
noncomputable def r_parser_reader_group : Row := { X := { f := 160, fn := Tryz.f160, body := bodyOf Tryz.f160, inp := ⟨[(0, .ptr 0 0)], [(0, .var 128 [.list .tok, .int .i64])]⟩, res := [.agg .expr], robj := [(0, .var 128 [.list .tok, .int .i64])] }, exc := some (.ifc 124 (.agg .frac)) }
noncomputable def r_parser_reader_selection : Row := { X := { f := 161, fn := Tryz.f161, body := bodyOf Tryz.f161, inp := ⟨[(0, .ptr 0 0)], [(0, .var 128 [.list .tok, .int .i64])]⟩, res := [.agg .expr], robj := [(0, .var 128 [.list .tok, .int .i64])] }, exc := some (.ifc 124 (.agg .frac)) }
noncomputable def r_ref03_New : Row := { X := { f := 162, fn := Tryz.f162, body := bodyOf Tryz.f162, inp := ⟨[(0, .int .i64), (1, .int .i64)], []⟩, res := [.agg .frac, .int .i64], robj := [] } }
noncomputable def r_ref05_letter : Row := { X := { f := 163, fn := Tryz.f163, body := bodyOf Tryz.f163, inp := ⟨[(0, .int .u8)], []⟩, res := [.bool], robj := [] } }
noncomputable def q_ref05_Value_0 : Pat := ⟨[(0, .str), (3, .int .i64)], []⟩
noncomputable def r_ref05_Value : Row := { X := { f := 164, fn := Tryz.f164, body := bodyOf Tryz.f164, inp := ⟨[(0, .str)], []⟩, res := [.bool], robj := [] }, pts := [([0, 0, 1, 0, 1, 1], q_ref05_Value_0)] }
noncomputable def r_frac_size : Row := { X := { f := 165, fn := Tryz.f165, body := bodyOf Tryz.f165, inp := ⟨[(0, .int .i64)], []⟩, res := [.int .u64], robj := [] } }
noncomputable def q_frac_gcd_uint64_0 : Pat := ⟨[(0, .int .u64), (1, .int .u64)], []⟩
noncomputable def r_frac_gcd_uint64 : Row := { X := { f := 166, fn := Tryz.f166, body := bodyOf Tryz.f166, inp := ⟨[(0, .int .u64), (1, .int .u64)], []⟩, res := [.int .u64], robj := [] }, pts := [([0, 0, 0, 1], q_frac_gcd_uint64_0)] }
noncomputable def q_slices_Index_string_0 : Pat := ⟨[(0, .list .str), (1, .str), (7, .int .i64), (8, .int .i64)], []⟩
noncomputable def r_slices_Index_string : Row := { X := { f := 167, fn := Tryz.f167, body := bodyOf Tryz.f167, inp := ⟨[(0, .list .str), (1, .str)], []⟩, res := [.int .i64], robj := [] }, pts := [([0, 0, 1, 0, 1], q_slices_Index_string_0)] }
noncomputable def q_labels_Value_0 : Pat := ⟨[(9, .ptr 0 0)], [(0, .iter)]⟩
noncomputable def r_labels_Value : Row := { X := { f := 168, fn := Tryz.f168, body := bodyOf Tryz.f168, inp := ⟨[(0, .str)], []⟩, res := [.bool], robj := [] }, pts := [([0, 0, 1, 0, 1, 1], q_labels_Value_0)] }
noncomputable def r_strings_Cut : Row := { X := { f := 173, fn := Tryz.f173, body := bodyOf Tryz.f173, inp := ⟨[(0, .str), (1, .str)], []⟩, res := [.str, .str, .bool], robj := [] } }
noncomputable def r_parser_reader_take : Row := { X := { f := 174, fn := Tryz.f174, body := bodyOf Tryz.f174, inp := ⟨[(0, .ptr 0 0), (1, .int .i64)], [(0, .var 128 [.list .tok, .int .i64])]⟩, res := [.agg .tok], robj := [(0, .var 128 [.list .tok, .int .i64])] }, exc := some (.ifc 124 (.agg .frac)) }
noncomputable def r_parser_reader_matcher : Row := { X := { f := 178, fn := Tryz.f178, body := bodyOf Tryz.f178, inp := ⟨[(0, .ptr 0 0)], [(0, .var 128 [.list .tok, .int .i64])]⟩, res := [.agg .matcher], robj := [(0, .var 128 [.list .tok, .int .i64])] }, exc := some (.ifc 124 (.agg .frac)) }
noncomputable def r_parser_reader_function : Row := { X := { f := 179, fn := Tryz.f179, body := bodyOf Tryz.f179, inp := ⟨[(0, .ptr 0 0), (1, .ptr 1 0)], [(0, .var 128 [.list .tok, .int .i64]), (1, .vagg 29 .expr)]⟩, res := [], robj := [(0, .var 128 [.list .tok, .int .i64]), (1, .vagg 29 .expr)] }, exc := some (.ifc 124 (.agg .frac)) }
noncomputable def r_ref03_Size : Row := { X := { f := 180, fn := Tryz.f180, body := bodyOf Tryz.f180, inp := ⟨[(0, .int .i64)], []⟩, res := [.int .u64], robj := [] } }
noncomputable def q_ref03_common_0 : Pat := ⟨[(0, .int .u64), (1, .int .u64)], []⟩
noncomputable def r_ref03_common : Row := { X := { f := 181, fn := Tryz.f181, body := bodyOf Tryz.f181, inp := ⟨[(0, .int .u64), (1, .int .u64)], []⟩, res := [.int .u64], robj := [] }, pts := [([0, 0, 0, 1], q_ref03_common_0)] }
noncomputable def r_stringslite_Cut : Row := { X := { f := 185, fn := Tryz.f185, body := bodyOf Tryz.f185, inp := ⟨[(0, .str), (1, .str)], []⟩, res := [.str, .str, .bool], robj := [] } }
noncomputable def r_stringslite_Index : Row := { X := { f := 189, fn := Tryz.f189, body := bodyOf Tryz.f189, inp := ⟨[(0, .str), (1, .str)], []⟩, res := [.int .i64], robj := [] } }
def base0 : List (FuncId × CSpec) := [(134, ⟨⟨[(0, .str), (1, .str)], []⟩, [.str], [], .plain (base_TrimLeft)⟩),
  (153, ⟨⟨[(0, .str), (1, .int .u8)], []⟩, [.int .i64], [], .plain (base_IndexByte)⟩),
  (172, ⟨⟨[(0, .str), (1, .int .u8)], []⟩, [.int .i64], [], .plain (base_IndexByte)⟩),
  (171, ⟨⟨[(0, .str), (1, .int .i32)], []⟩, [.bool], [], .plain (base_ContainsRune)⟩),
  (98, ⟨⟨[(0, .str), (1, .str)], []⟩, [.bool], [], .plain (base_HasPrefix)⟩)]
noncomputable def rows0 : List Row := [r_law23_PlanCompile, r_law23_PlanTree, r_law23_PlanLimits, r_law23_PlanReach, r_law23_PlanEncode, r_law23_PlanUses, r_law23_PlanDecode, r_law23_PlanRound, r_ref07_Expr, r_law23_compiles, r_ref07_Spoilt, r_ref07_Cut, r_law23_lives, r_ref23_Compile, r_ref23_Few, r_ref23_Changed, r_law23_rebuilds, r_ref01_Around, r_law23_balanced, r_plan_Check, r_ref23_Check, r_ref07_Make, r_plan_Compile, r_ref23_Shifted, r_plan_Reach, r_ref23_Reach, r_law23_encodes, r_ref08_Decls, r_ref08_Query, r_ref01_SameInts, r_plan_Uses, r_ref23_Uses, r_ref23_Encode, r_law23_mustCompile, r_ref01_Few, r_law23_decodes, r_plan_Tree, r_plan_Encode, r_parser_Equal, r_parser_Nodes, r_ref23_Same, r_ref01_SameBytes, r_ref07_changed, r_parser_Parse, r_ref07_Valid, r_ref23_postfix, r_ref01_Short, r_ref23_Tree, r_ref07_Equal, r_ref07_G_expr, r_parser_Valid, r_plan_postfix, r_ref01_Pick, r_ref05_Set, r_labels_Match, r_ref08_Selects, r_ref23_node, r_ref23_write, r_ref23_Decode, r_plan_ints, r_wire_Writer_Text, r_wire_Writer_Done, r_wire_Read, r_plan_count, r_wire_Reader_Int, r_wire_Reader_Text, r_bytes_Equal, r_slices_Equal_Matcher, r_slices_Equal_string, r_slices_EqualFunc_Expr, r_ref23_SameIns, r_lexer_Tokens, r_parser_reader_expression, r_parser_reader_fail, r_parser_tooLarge, r_ref07_Depth, r_ref07_Nodes, r_ref07_valid, r_ref23_Ins, r_ref07_sameMatchers, r_ref01_SameTexts, r_ref07_G_next, r_ref07_G_selection, r_ref07_G_group, r_parser_valid, r_plan_postfix_1, r_plan_visit, r_ref05_Names, r_ref05_values, r_labels_Get, r_ref05_Match, r_ref02_Int, r_ref02_Raw, r_ref02_Reader_Int, r_ref23_read, r_wire_Writer_Int, r_wire_Writer_Uint, r_wire_unzigzag, r_wire_Reader_Uint, r_wire_Reader_Raw, r_lexer_scanner_all, r_parser_reader_term, r_parser_reader_accept, r_parser_binary, r_parser_Depth, r_ref07_shaped, r_ref07_named, r_ref07_within, r_ref05_Matchers, r_parser_shaped, r_parser_named, r_parser_ranged, r_ref05_holds, r_ref05_Get, r_ref02_Uint, r_ref02_Zigzag, r_ref02_Back, r_ref02_Reader_Uint, r_ref02_Reader_Raw, r_wire_zigzag, r_wire_Reader_next, r_wire_Reader_fail, r_wire_list_byte, r_lexer_token, r_parser_reader_factor, r_parser_reader_is, r_ref03_Valid, r_ref05_Name, r_ref07_find, r_ref07_Groups, r_ref05_ValidMatcher, r_frac_Valid, r_labels_Name, r_slices_Contains_string, r_labels_ValidMatcher, r_parser_between, r_ref02_Reader_length, r_lexer_prefix, r_lexer_number, r_lexer_quoted, r_parser_reader_expect, r_parser_reader_number, r_parser_reader_peek, r_parser_reader_group, r_parser_reader_selection, r_ref03_New, r_ref05_letter, r_ref05_Value, r_frac_size, r_frac_gcd_uint64, r_slices_Index_string, r_labels_Value, r_strings_Cut, r_parser_reader_take, r_parser_reader_matcher, r_parser_reader_function, r_ref03_Size, r_ref03_common, r_stringslite_Cut, r_stringslite_Index]
noncomputable def prg0 : Prg := { G := { Θ := Θ0, eqs := [(24, [0, 0]), (80, [1, 0, 1])], glob := glob0, bodied := [93, 110], clones := [(56, (80, .matcher)), (57, (9, .str)), (65, (29, .expr)), (106, (5, (.i .u8)))], dcalls := [(79, ⟨⟨[(0, .ptr 0 0), (1, .ptr 1 0), (2, .ptr 2 0)], [(0, .vagg 29 .expr), (1, .var 3 [.int .i64]), (2, .var 37 [.int .i64])]⟩, [], [(0, .vagg 29 .expr), (1, .var 3 [.int .i64]), (2, .var 37 [.int .i64])], .plain fun x => some x⟩)] }, base := base0, yields := [y_plan_Compile, y_lexer_Tokens], rows := rows0, N := 100000 }
end Go.AM
/-
  Names for what the functions of the program compute.
-/
namespace Go.AM
open Go
noncomputable def S_law23_PlanCompile (L : Lvl) (x : ((List Int) × (Int × (Int × (Int × DExpr))))) : Option Bool := L.S r_law23_PlanCompile x
noncomputable def S_law23_PlanTree (L : Lvl) (x : ((List Int) × ((List DIns) × (Int × (Int × Int))))) : Option Bool := L.S r_law23_PlanTree x
noncomputable def S_law23_PlanLimits (L : Lvl) (x : (Int × Int)) : Option Bool := L.S r_law23_PlanLimits x
noncomputable def P_law23_PlanLimits_0 (L : Lvl) (x : ((Int × (Int × Int)) × (DIns × (List DIns)))) : Option Bool := L.P r_law23_PlanLimits q_law23_PlanLimits_0 [0, 0, 1, 0, 1, 1, 1, 1] x
noncomputable def P_law23_PlanLimits_1 (L : Lvl) (x : ((Int × Int) × (DIns × ((List DIns) × (List DIns))))) : Option Bool := L.P r_law23_PlanLimits q_law23_PlanLimits_1 [0, 0, 1, 0, 1, 1, 1, 1, 1, 1] x
noncomputable def S_law23_PlanReach (L : Lvl) (x : ((List Int) × ((List Int) × (Int × (Int × (Int × Int)))))) : Option Bool := L.S r_law23_PlanReach x
noncomputable def P_law23_PlanReach_0 (L : Lvl) (x : ((List DIns) × (Int × ((List DIns) × (Int × Int))))) : Option Bool := L.P r_law23_PlanReach q_law23_PlanReach_0 [0, 0, 1, 0, 1, 1, 1, 1, 1, 1, 1, 1, 1, 1, 1, 1] x
noncomputable def S_law23_PlanEncode (L : Lvl) (x : ((List Int) × (Int × (Int × Int)))) : Option Bool := L.S r_law23_PlanEncode x
noncomputable def S_law23_PlanUses (L : Lvl) (x : ((List Int) × ((List Int) × (Int × (Int × Int))))) : Option Bool := L.S r_law23_PlanUses x
noncomputable def S_law23_PlanDecode (L : Lvl) (x : ((List Int) × ((List Int) × (Int × Int)))) : Option Bool := L.S r_law23_PlanDecode x
noncomputable def S_law23_PlanRound (L : Lvl) (x : ((List Int) × (List Int))) : Option Bool := L.S r_law23_PlanRound x
noncomputable def S_ref07_Expr (L : Lvl) (x : (List Int)) : Option DExpr := L.S r_ref07_Expr x
noncomputable def S_law23_compiles (L : Lvl) (x : DExpr) : Option Bool := L.S r_law23_compiles x
noncomputable def S_ref07_Spoilt (L : Lvl) (x : (DExpr × (Int × (Int × Int)))) : Option DExpr := L.S r_ref07_Spoilt x
noncomputable def S_ref07_Cut (L : Lvl) (x : (DExpr × Int)) : Option DExpr := L.S r_ref07_Cut x
noncomputable def P_ref07_Cut_0 (L : Lvl) (x : ((Int × Int) × (DExpr × ((Int × (Int × (Int × (Int × (Int × (Int × (Int × ByteArray))))))) × ((Int × (Int × (Int × (Int × (Int × (Int × (Int × (ByteArray × ((List DMatcher) × (List ByteArray)))))))))) × ((List DMatcher) × ((List ByteArray) × ((List DExpr) × (List DExpr))))))))) : Option DExpr := L.P r_ref07_Cut q_ref07_Cut_0 [0, 0, 1, 0, 1, 1, 1] x
noncomputable def S_law23_lives (L : Lvl) (x : Unit) : Option Bool := L.S r_law23_lives x
noncomputable def S_ref23_Compile (L : Lvl) (x : DExpr) : Option ((List DIns) × Int) := L.S r_ref23_Compile x
noncomputable def S_ref23_Few (L : Lvl) (x : (List DIns)) : Option (List DIns) := L.S r_ref23_Few x
noncomputable def P_ref23_Few_0 (L : Lvl) (x : (((List DIns) × Int) × (List DIns))) : Option (List DIns) := L.P r_ref23_Few q_ref23_Few_0 [0, 0, 1, 0, 1, 1] x
noncomputable def P_ref23_Few_1 (L : Lvl) (x : (((List DIns) × (Int × Int)) × ((Int × (Int × (Int × (Int × (Int × (Int × (Int × (ByteArray × (List ByteArray))))))))) × ((List DMatcher) × (List DIns))))) : Option (List DIns) := L.P r_ref23_Few q_ref23_Few_1 [0, 0, 1, 0, 1, 1, 1, 0, 0, 1, 0, 0, 1, 0, 1, 1] x
noncomputable def P_ref23_Few_2 (L : Lvl) (x : (((List DIns) × (Int × Int)) × ((Int × (Int × (Int × (Int × (Int × (Int × (Int × ByteArray))))))) × ((List DMatcher) × ((List ByteArray) × (List DIns)))))) : Option (List DIns) := L.P r_ref23_Few q_ref23_Few_2 [0, 0, 1, 0, 1, 1, 1, 1, 1, 0, 0, 1, 0, 0, 1, 0, 1, 1] x
noncomputable def S_ref23_Changed (L : Lvl) (x : ((List DIns) × (Int × (Int × Int)))) : Option (List DIns) := L.S r_ref23_Changed x
noncomputable def S_law23_rebuilds (L : Lvl) (x : (List DIns)) : Option Bool := L.S r_law23_rebuilds x
noncomputable def S_ref01_Around (L : Lvl) (x : (Int × Int)) : Option Int := L.S r_ref01_Around x
noncomputable def S_law23_balanced (L : Lvl) (x : Int) : Option (List DIns) := L.S r_law23_balanced x
noncomputable def S_plan_Check (L : Lvl) (x : (List DIns)) : Option Int := L.S r_plan_Check x
noncomputable def S_ref23_Check (L : Lvl) (x : (List DIns)) : Option Int := L.S r_ref23_Check x
noncomputable def S_ref07_Make (L : Lvl) (x : ((List Int) × ((List ByteArray) × Int))) : Option DExpr := L.S r_ref07_Make x
noncomputable def S_plan_Compile (L : Lvl) (x : DExpr) : Option ((List DIns) × Int) := L.S r_plan_Compile x
noncomputable def S_ref23_Shifted (L : Lvl) (x : (DExpr × Int)) : Option DExpr := L.S r_ref23_Shifted x
noncomputable def P_ref23_Shifted_0 (L : Lvl) (x : ((Int × Int) × (DExpr × ((Int × (Int × (Int × (Int × (Int × (Int × (Int × ByteArray))))))) × ((List DMatcher) × ((List ByteArray) × ((List DExpr) × (List DExpr)))))))) : Option DExpr := L.P r_ref23_Shifted q_ref23_Shifted_0 [0, 0, 1, 0, 1, 1, 1] x
noncomputable def S_plan_Reach (L : Lvl) (x : (List DIns)) : Option Int := L.S r_plan_Reach x
noncomputable def P_plan_Reach_0 (L : Lvl) (x : (Int × ((List DIns) × (Int × Int)))) : Option Int := L.P r_plan_Reach q_plan_Reach_0 [0, 0, 1, 0, 1, 1, 1] x
noncomputable def S_ref23_Reach (L : Lvl) (x : (List DIns)) : Option Int := L.S r_ref23_Reach x
noncomputable def P_ref23_Reach_0 (L : Lvl) (x : ((List DIns) × (Int × Int))) : Option Int := L.P r_ref23_Reach q_ref23_Reach_0 [0, 0, 1, 0, 1, 1, 1] x
noncomputable def S_law23_encodes (L : Lvl) (x : (List DIns)) : Option Bool := L.S r_law23_encodes x
noncomputable def S_ref08_Decls (L : Lvl) (x : (List Int)) : Option (List DDecl) := L.S r_ref08_Decls x
noncomputable def P_ref08_Decls_0 (L : Lvl) (x : (((List Int) × Int) × ((List ByteArray) × ((List DUnit) × (List DDecl))))) : Option (List DDecl) := L.P r_ref08_Decls q_ref08_Decls_0 [0, 0, 1, 0, 1, 1, 1, 1] x
noncomputable def S_ref08_Query (L : Lvl) (x : (List Int)) : Option DExpr := L.S r_ref08_Query x
noncomputable def S_ref01_SameInts (L : Lvl) (x : ((List Int) × (List Int))) : Option Bool := L.S r_ref01_SameInts x
noncomputable def P_ref01_SameInts_0 (L : Lvl) (x : ((List Int) × ((List Int) × Int))) : Option Bool := L.P r_ref01_SameInts q_ref01_SameInts_0 [0, 0, 1, 0, 1, 1] x
noncomputable def S_plan_Uses (L : Lvl) (x : ((List DIns) × (List DDecl))) : Option (List Int) := L.S r_plan_Uses x
noncomputable def P_plan_Uses_0 (L : Lvl) (x : (((List DDecl) × ((List DIns) × (Int × Int))) × (List Int))) : Option (List Int) := L.P r_plan_Uses q_plan_Uses_0 [0, 0, 1, 0, 1, 1, 1] x
noncomputable def P_plan_Uses_1 (L : Lvl) (x : (((List DDecl) × ((List DIns) × (Int × (Int × ((List DDecl) × (Int × Int)))))) × (DIns × (List Int)))) : Option (List Int) := L.P r_plan_Uses q_plan_Uses_1 [0, 0, 1, 1, 0, 0, 1, 1, 0, 0, 1, 0, 1, 1, 1] x
noncomputable def S_ref23_Uses (L : Lvl) (x : ((List DIns) × (List DDecl))) : Option (List Int) := L.S r_ref23_Uses x
noncomputable def P_ref23_Uses_0 (L : Lvl) (x : (((List DIns) × ((List DDecl) × Int)) × (List Int))) : Option (List Int) := L.P r_ref23_Uses q_ref23_Uses_0 [0, 0, 1, 0, 1, 1, 1] x
noncomputable def P_ref23_Uses_1 (L : Lvl) (x : (((List DIns) × ((List DDecl) × (Int × (Int × Int)))) × (List Int))) : Option (List Int) := L.P r_ref23_Uses q_ref23_Uses_1 [0, 0, 1, 0, 1, 0, 0, 1, 0, 0, 1, 0, 1, 1, 1] x
noncomputable def S_ref23_Encode (L : Lvl) (x : (List DIns)) : Option ((List Int) × Int) := L.S r_ref23_Encode x
noncomputable def S_law23_mustCompile (L : Lvl) (x : (List Int)) : Option (List DIns) := L.S r_law23_mustCompile x
noncomputable def S_ref01_Few (L : Lvl) (x : ((List Int) × Int)) : Option (List Int) := L.S r_ref01_Few x
noncomputable def S_law23_decodes (L : Lvl) (x : (List Int)) : Option Bool := L.S r_law23_decodes x
noncomputable def S_plan_Tree (L : Lvl) (x : (List DIns)) : Option (DExpr × Int) := L.S r_plan_Tree x
noncomputable def P_plan_Tree_0 (L : Lvl) (x : (((List DIns) × (Int × Int)) × ((Int × (Int × (Int × (Int × (Int × (Int × (Int × ByteArray))))))) × ((List DMatcher) × ((List ByteArray) × ((List DExpr) × (List DExpr))))))) : Option (DExpr × Int) := L.P r_plan_Tree q_plan_Tree_0 [0, 0, 1, 0, 1, 1, 1] x
noncomputable def S_plan_Encode (L : Lvl) (x : (List DIns)) : Option ((List Int) × Int) := L.S r_plan_Encode x
noncomputable def P_plan_Encode_0 (L : Lvl) (x : (((List DIns) × (Int × Int)) × (List Int))) : Option ((List Int) × Int) := L.P r_plan_Encode q_plan_Encode_0 [0, 0, 1, 0, 1, 1, 1, 1] x
noncomputable def P_plan_Encode_1 (L : Lvl) (x : (((List DIns) × (Int × (Int × ((List DMatcher) × (Int × Int))))) × (DIns × (List Int)))) : Option ((List Int) × Int) := L.P r_plan_Encode q_plan_Encode_1 [0, 0, 1, 0, 1, 1, 1, 1, 0, 0, 1, 1, 0, 0, 1, 0, 1, 1, 1, 1] x
noncomputable def P_plan_Encode_2 (L : Lvl) (x : (((List DIns) × (Int × (Int × ((List ByteArray) × (Int × Int))))) × (List Int))) : Option ((List Int) × Int) := L.P r_plan_Encode q_plan_Encode_2 [0, 0, 1, 1, 1, 1, 1, 1, 1, 0, 0, 1, 1, 0, 0, 1, 0, 1, 1, 1, 1] x
noncomputable def S_parser_Equal (L : Lvl) (x : (DExpr × DExpr)) : Option Bool := L.S r_parser_Equal x
noncomputable def S_parser_Nodes (L : Lvl) (x : DExpr) : Option Int := L.S r_parser_Nodes x
noncomputable def P_parser_Nodes_0 (L : Lvl) (x : (Int × ((List DExpr) × (Int × Int)))) : Option Int := L.P r_parser_Nodes q_parser_Nodes_0 [0, 0, 1, 0, 1, 1] x
noncomputable def S_ref23_Same (L : Lvl) (x : ((List DIns) × (List DIns))) : Option Bool := L.S r_ref23_Same x
noncomputable def P_ref23_Same_0 (L : Lvl) (x : ((List DIns) × ((List DIns) × Int))) : Option Bool := L.P r_ref23_Same q_ref23_Same_0 [0, 0, 1, 0, 1, 1] x
noncomputable def S_ref01_SameBytes (L : Lvl) (x : ((List Int) × (List Int))) : Option Bool := L.S r_ref01_SameBytes x
noncomputable def P_ref01_SameBytes_0 (L : Lvl) (x : ((List Int) × ((List Int) × Int))) : Option Bool := L.P r_ref01_SameBytes q_ref01_SameBytes_0 [0, 0, 1, 0, 1, 1] x
noncomputable def S_ref07_changed (L : Lvl) (x : (DExpr × (Int × Int))) : Option DExpr := L.S r_ref07_changed x
noncomputable def P_ref07_changed_0 (L : Lvl) (x : (Int × (DExpr × ((Int × (Int × (Int × (Int × (Int × (Int × (Int × ByteArray))))))) × ((List DMatcher) × ((List ByteArray) × (List DExpr))))))) : Option DExpr := L.P r_ref07_changed q_ref07_changed_0 [0, 0, 1, 0, 1, 1, 1, 1, 1, 1, 1, 1, 1, 1, 1, 1, 1, 1, 1, 1, 1, 0, 1, 0, 1] x
noncomputable def S_parser_Parse (L : Lvl) (x : ByteArray) : Option (DExpr × (Int × Int)) := L.S r_parser_Parse x
noncomputable def S_ref07_Valid (L : Lvl) (x : DExpr) : Option Int := L.S r_ref07_Valid x
noncomputable def S_ref23_postfix (L : Lvl) (x : DExpr) : Option (List DIns) := L.S r_ref23_postfix x
noncomputable def P_ref23_postfix_0 (L : Lvl) (x : (Int × (DExpr × (List DIns)))) : Option (List DIns) := L.P r_ref23_postfix q_ref23_postfix_0 [0, 0, 1, 0, 1, 1] x
noncomputable def S_ref01_Short (L : Lvl) (x : (ByteArray × Int)) : Option ByteArray := L.S r_ref01_Short x
noncomputable def S_ref23_Tree (L : Lvl) (x : (List DIns)) : Option (DExpr × Int) := L.S r_ref23_Tree x
noncomputable def P_ref23_Tree_0 (L : Lvl) (x : (((List DIns) × Int) × ((Int × (Int × (Int × (Int × (Int × (Int × (Int × ByteArray))))))) × ((List DMatcher) × ((List ByteArray) × ((List DExpr) × (List DExpr))))))) : Option (DExpr × Int) := L.P r_ref23_Tree q_ref23_Tree_0 [0, 0, 1, 0, 1, 1, 1] x
noncomputable def S_ref07_Equal (L : Lvl) (x : (DExpr × DExpr)) : Option Bool := L.S r_ref07_Equal x
noncomputable def P_ref07_Equal_0 (L : Lvl) (x : (Int × (DExpr × DExpr))) : Option Bool := L.P r_ref07_Equal q_ref07_Equal_0 [0, 0, 1, 0, 1, 1, 1] x
noncomputable def S_ref07_G_expr (L : Lvl) (x : (Int × ((List Int) × (Int × ((List ByteArray) × Int))))) : Option (DExpr × ((List Int) × (Int × ((List ByteArray) × Int)))) := L.S r_ref07_G_expr x
noncomputable def S_parser_Valid (L : Lvl) (x : DExpr) : Option Int := L.S r_parser_Valid x
noncomputable def S_plan_postfix (L : Lvl) (x : DExpr) : Option DExpr := L.S r_plan_postfix x
noncomputable def S_ref01_Pick (L : Lvl) (x : ((List Int) × (Int × Int))) : Option Int := L.S r_ref01_Pick x
noncomputable def S_ref05_Set (L : Lvl) (x : (List Int)) : Option (List DLabel) := L.S r_ref05_Set x
noncomputable def P_ref05_Set_0 (L : Lvl) (x : (((List Int) × ((List ByteArray) × (Int × Int))) × ((List ByteArray) × (List DLabel)))) : Option (List DLabel) := L.P r_ref05_Set q_ref05_Set_0 [0, 0, 1, 0, 1, 1, 1, 1, 1] x
noncomputable def S_labels_Match (L : Lvl) (x : ((List DLabel) × (List DMatcher))) : Option Bool := L.S r_labels_Match x
noncomputable def P_labels_Match_0 (L : Lvl) (x : ((List DLabel) × ((List DMatcher) × (Int × Int)))) : Option Bool := L.P r_labels_Match q_labels_Match_0 [0, 0, 1, 0, 1] x
noncomputable def S_ref08_Selects (L : Lvl) (x : (DExpr × DDecl)) : Option Bool := L.S r_ref08_Selects x
noncomputable def S_ref23_node (L : Lvl) (x : DIns) : Option DIns := L.S r_ref23_node x
noncomputable def S_ref23_write (L : Lvl) (x : (List DIns)) : Option (List Int) := L.S r_ref23_write x
noncomputable def P_ref23_write_0 (L : Lvl) (x : (((List DIns) × Int) × (List Int))) : Option (List Int) := L.P r_ref23_write q_ref23_write_0 [0, 0, 1, 0, 1, 1] x
noncomputable def P_ref23_write_1 (L : Lvl) (x : (((List DIns) × (Int × Int)) × ((List Int) × (List Int)))) : Option (List Int) := L.P r_ref23_write q_ref23_write_1 [0, 0, 1, 0, 1, 0, 0, 1, 0, 0, 1, 0, 1, 1] x
noncomputable def P_ref23_write_2 (L : Lvl) (x : (((List DIns) × (Int × Int)) × (List Int))) : Option (List Int) := L.P r_ref23_write q_ref23_write_2 [0, 0, 1, 0, 1, 1, 1, 1, 0, 0, 1, 0, 0, 1, 0, 1, 1] x
noncomputable def P_ref23_write_3 (L : Lvl) (x : (((List DIns) × (Int × Int)) × (List Int))) : Option (List Int) := L.P r_ref23_write q_ref23_write_3 [0, 0, 1, 1, 1, 1, 1, 1, 1, 0, 0, 1, 0, 0, 1, 0, 1, 1] x
noncomputable def S_ref23_Decode (L : Lvl) (x : (List Int)) : Option ((List DIns) × Int) := L.S r_ref23_Decode x
noncomputable def P_ref23_Decode_0 (L : Lvl) (x : (((List Int) × (Int × Int)) × (((List Int) × Int) × (List DIns)))) : Option ((List DIns) × Int) := L.P r_ref23_Decode q_ref23_Decode_0 [0, 0, 1, 0, 1, 1, 1, 1] x
noncomputable def S_plan_ints (L : Lvl) (x : ((List Int) × (List Int))) : Option (List Int) := L.S r_plan_ints x
noncomputable def P_plan_ints_0 (L : Lvl) (x : (((List Int) × (Int × Int)) × (List Int))) : Option (List Int) := L.P r_plan_ints q_plan_ints_0 [0, 0, 1] x
noncomputable def S_wire_Writer_Text (L : Lvl) (x : (ByteArray × (List Int))) : Option (List Int) := L.S r_wire_Writer_Text x
noncomputable def S_wire_Writer_Done (L : Lvl) (x : (List Int)) : Option ((List Int) × (List Int)) := L.S r_wire_Writer_Done x
noncomputable def S_wire_Read (L : Lvl) (x : (List Int)) : Option ((List Int) × Int) := L.S r_wire_Read x
noncomputable def S_plan_count (L : Lvl) (x : (Int × ((List Int) × Int))) : Option (Int × ((List Int) × Int)) := L.S r_plan_count x
noncomputable def S_wire_Reader_Int (L : Lvl) (x : ((List Int) × Int)) : Option (Int × ((List Int) × Int)) := L.S r_wire_Reader_Int x
noncomputable def S_wire_Reader_Text (L : Lvl) (x : ((List Int) × Int)) : Option (ByteArray × ((List Int) × Int)) := L.S r_wire_Reader_Text x
noncomputable def S_bytes_Equal (L : Lvl) (x : ((List Int) × (List Int))) : Option Bool := L.S r_bytes_Equal x
noncomputable def S_slices_Equal_Matcher (L : Lvl) (x : ((List DMatcher) × (List DMatcher))) : Option Bool := L.S r_slices_Equal_Matcher x
noncomputable def P_slices_Equal_Matcher_0 (L : Lvl) (x : ((List DMatcher) × ((List DMatcher) × (Int × Int)))) : Option Bool := L.P r_slices_Equal_Matcher q_slices_Equal_Matcher_0 [0, 0, 1, 0, 1, 1] x
noncomputable def S_slices_Equal_string (L : Lvl) (x : ((List ByteArray) × (List ByteArray))) : Option Bool := L.S r_slices_Equal_string x
noncomputable def P_slices_Equal_string_0 (L : Lvl) (x : ((List ByteArray) × ((List ByteArray) × (Int × Int)))) : Option Bool := L.P r_slices_Equal_string q_slices_Equal_string_0 [0, 0, 1, 0, 1, 1] x
noncomputable def S_slices_EqualFunc_Expr (L : Lvl) (x : ((List DExpr) × (List DExpr))) : Option Bool := L.S r_slices_EqualFunc_Expr x
noncomputable def P_slices_EqualFunc_Expr_0 (L : Lvl) (x : ((List DExpr) × ((List DExpr) × (Int × Int)))) : Option Bool := L.P r_slices_EqualFunc_Expr q_slices_EqualFunc_Expr_0 [0, 0, 1, 0, 1, 1] x
noncomputable def S_ref23_SameIns (L : Lvl) (x : (DIns × DIns)) : Option Bool := L.S r_ref23_SameIns x
noncomputable def S_lexer_Tokens (L : Lvl) (x : ByteArray) : Option ((List DTok) × (Int × Int)) := L.S r_lexer_Tokens x
noncomputable def S_parser_reader_expression (L : Lvl) (x : ((List DTok) × Int)) : Option (Except DFrac (DExpr × ((List DTok) × Int))) := L.S r_parser_reader_expression x
noncomputable def P_parser_reader_expression_0 (L : Lvl) (x : (((List DTok) × Int) × ((Int × (Int × (Int × (Int × (Int × (Int × (Int × ByteArray))))))) × (DExpr × ((List DMatcher) × ((List ByteArray) × (List DExpr))))))) : Option (Except DFrac (DExpr × ((List DTok) × Int))) := L.P r_parser_reader_expression q_parser_reader_expression_0 [0, 0, 1, 1] x
noncomputable def S_parser_reader_fail (L : Lvl) (x : (Int × ((List DTok) × Int))) : Option (Except DFrac ((List DTok) × Int)) := L.S r_parser_reader_fail x
noncomputable def S_parser_tooLarge (L : Lvl) (x : DExpr) : Option Bool := L.S r_parser_tooLarge x
noncomputable def S_ref07_Depth (L : Lvl) (x : DExpr) : Option Int := L.S r_ref07_Depth x
noncomputable def P_ref07_Depth_0 (L : Lvl) (x : ((Int × Int) × DExpr)) : Option Int := L.P r_ref07_Depth q_ref07_Depth_0 [0, 0, 1, 0, 1, 1] x
noncomputable def S_ref07_Nodes (L : Lvl) (x : DExpr) : Option Int := L.S r_ref07_Nodes x
noncomputable def P_ref07_Nodes_0 (L : Lvl) (x : ((Int × Int) × DExpr)) : Option Int := L.P r_ref07_Nodes q_ref07_Nodes_0 [0, 0, 1, 0, 1, 1] x
noncomputable def S_ref07_valid (L : Lvl) (x : DExpr) : Option Int := L.S r_ref07_valid x
noncomputable def P_ref07_valid_0 (L : Lvl) (x : (Int × DExpr)) : Option Int := L.P r_ref07_valid q_ref07_valid_0 [0, 0, 1, 0, 1, 1, 1, 1, 1] x
noncomputable def S_ref23_Ins (L : Lvl) (x : DExpr) : Option DIns := L.S r_ref23_Ins x
noncomputable def S_ref07_sameMatchers (L : Lvl) (x : ((List DMatcher) × (List DMatcher))) : Option Bool := L.S r_ref07_sameMatchers x
noncomputable def P_ref07_sameMatchers_0 (L : Lvl) (x : ((List DMatcher) × ((List DMatcher) × Int))) : Option Bool := L.P r_ref07_sameMatchers q_ref07_sameMatchers_0 [0, 0, 1, 0, 1, 1] x
noncomputable def S_ref01_SameTexts (L : Lvl) (x : ((List ByteArray) × (List ByteArray))) : Option Bool := L.S r_ref01_SameTexts x
noncomputable def P_ref01_SameTexts_0 (L : Lvl) (x : ((List ByteArray) × ((List ByteArray) × Int))) : Option Bool := L.P r_ref01_SameTexts q_ref01_SameTexts_0 [0, 0, 1, 0, 1, 1] x
noncomputable def S_ref07_G_next (L : Lvl) (x : (Int × ((List Int) × (Int × ((List ByteArray) × Int))))) : Option (Int × ((List Int) × (Int × ((List ByteArray) × Int)))) := L.S r_ref07_G_next x
noncomputable def S_ref07_G_selection (L : Lvl) (x : ((List Int) × (Int × ((List ByteArray) × Int)))) : Option (DExpr × ((List Int) × (Int × ((List ByteArray) × Int)))) := L.S r_ref07_G_selection x
noncomputable def P_ref07_G_selection_0 (L : Lvl) (x : (Int × (((List Int) × (Int × ((List ByteArray) × Int))) × ((Int × (Int × (Int × (Int × (Int × (Int × (Int × ByteArray))))))) × ((Int × (Int × (Int × (Int × (Int × (Int × (Int × ByteArray))))))) × ((List DMatcher) × ((List ByteArray) × ((List DExpr) × ((List DMatcher) × ((List ByteArray) × ((List DExpr) × (List Int)))))))))))) : Option (DExpr × ((List Int) × (Int × ((List ByteArray) × Int)))) := L.P r_ref07_G_selection q_ref07_G_selection_0 [0, 0, 1, 0, 1, 0, 1, 0, 1, 1, 1, 1, 1] x
noncomputable def S_ref07_G_group (L : Lvl) (x : (Int × ((List Int) × (Int × ((List ByteArray) × Int))))) : Option (DExpr × ((List Int) × (Int × ((List ByteArray) × Int)))) := L.S r_ref07_G_group x
noncomputable def P_ref07_G_group_0 (L : Lvl) (x : ((Int × ((List ByteArray) × (Int × Int))) × (((List Int) × (Int × ((List ByteArray) × Int))) × ((Int × (Int × (Int × (Int × (Int × (Int × (Int × ByteArray))))))) × ((Int × (Int × (Int × (Int × (Int × (Int × (Int × ByteArray))))))) × ((List DMatcher) × ((List ByteArray) × ((List DExpr) × ((List DMatcher) × ((List ByteArray) × (List DExpr))))))))))) : Option (DExpr × ((List Int) × (Int × ((List ByteArray) × Int)))) := L.P r_ref07_G_group q_ref07_G_group_0 [0, 0, 1, 0, 1, 1, 1, 1, 1] x
noncomputable def S_parser_valid (L : Lvl) (x : DExpr) : Option Int := L.S r_parser_valid x
noncomputable def P_parser_valid_0 (L : Lvl) (x : ((List DExpr) × (Int × Int))) : Option Int := L.P r_parser_valid q_parser_valid_0 [0, 0, 1, 0, 1, 1] x
noncomputable def S_plan_postfix_1 (L : Lvl) (x : ((List DIns) × DExpr)) : Option (DExpr × (List DIns)) := L.S r_plan_postfix_1 x
noncomputable def S_plan_visit (L : Lvl) (x : (DExpr × (List DIns))) : Option (Bool × (List DIns)) := L.S r_plan_visit x
noncomputable def P_plan_visit_0 (L : Lvl) (x : (((List DExpr) × (Int × Int)) × (DExpr × (List DIns)))) : Option (Bool × (List DIns)) := L.P r_plan_visit q_plan_visit_0 [0, 0, 1, 0, 1] x
noncomputable def S_ref05_Names (L : Lvl) (x : Unit) : Option (List ByteArray) := L.S r_ref05_Names x
noncomputable def S_ref05_values (L : Lvl) (x : Unit) : Option (List ByteArray) := L.S r_ref05_values x
noncomputable def S_labels_Get (L : Lvl) (x : ((List DLabel) × ByteArray)) : Option ByteArray := L.S r_labels_Get x
noncomputable def P_labels_Get_0 (L : Lvl) (x : (ByteArray × ((List DLabel) × (Int × Int)))) : Option ByteArray := L.P r_labels_Get q_labels_Get_0 [0, 0, 1, 0, 1] x
noncomputable def S_ref05_Match (L : Lvl) (x : ((List DLabel) × (List DMatcher))) : Option Bool := L.S r_ref05_Match x
noncomputable def P_ref05_Match_0 (L : Lvl) (x : ((List DLabel) × ((List DMatcher) × Int))) : Option Bool := L.P r_ref05_Match q_ref05_Match_0 [0, 0, 1, 0, 1] x
noncomputable def S_ref02_Int (L : Lvl) (x : Int) : Option (List Int) := L.S r_ref02_Int x
noncomputable def S_ref02_Raw (L : Lvl) (x : (List Int)) : Option (List Int) := L.S r_ref02_Raw x
noncomputable def S_ref02_Reader_Int (L : Lvl) (x : ((List Int) × Int)) : Option (Int × ((List Int) × Int)) := L.S r_ref02_Reader_Int x
noncomputable def S_ref23_read (L : Lvl) (x : ((List Int) × Int)) : Option (DIns × ((List Int) × Int)) := L.S r_ref23_read x
noncomputable def P_ref23_read_0 (L : Lvl) (x : ((Int × Int) × (((List Int) × Int) × ((Int × (Int × (Int × (Int × (Int × (Int × (Int × ByteArray))))))) × ((Int × (Int × (Int × (Int × (Int × (Int × (Int × ByteArray))))))) × ((List DMatcher) × ((List ByteArray) × ((List DMatcher) × (List ByteArray))))))))) : Option (DIns × ((List Int) × Int)) := L.P r_ref23_read q_ref23_read_0 [0, 0, 1, 0, 1, 1, 1, 1, 1, 1, 1, 1, 1, 1, 1] x
noncomputable def P_ref23_read_1 (L : Lvl) (x : ((Int × Int) × (((List Int) × Int) × ((Int × (Int × (Int × (Int × (Int × (Int × (Int × ByteArray))))))) × ((Int × (Int × (Int × (Int × (Int × (Int × (Int × ByteArray))))))) × ((List DMatcher) × ((List ByteArray) × ((List DMatcher) × (List ByteArray))))))))) : Option (DIns × ((List Int) × Int)) := L.P r_ref23_read q_ref23_read_1 [0, 0, 1, 0, 1, 1, 1, 1, 1, 1, 1, 1, 1, 1, 1, 1, 1] x
noncomputable def S_wire_Writer_Int (L : Lvl) (x : (Int × (List Int))) : Option (List Int) := L.S r_wire_Writer_Int x
noncomputable def S_wire_Writer_Uint (L : Lvl) (x : (Int × (List Int))) : Option (List Int) := L.S r_wire_Writer_Uint x
noncomputable def P_wire_Writer_Uint_0 (L : Lvl) (x : (Int × (List Int))) : Option (List Int) := L.P r_wire_Writer_Uint q_wire_Writer_Uint_0 [0, 0, 0] x
noncomputable def S_wire_unzigzag (L : Lvl) (x : Int) : Option Int := L.S r_wire_unzigzag x
noncomputable def S_wire_Reader_Uint (L : Lvl) (x : ((List Int) × Int)) : Option (Int × ((List Int) × Int)) := L.S r_wire_Reader_Uint x
noncomputable def P_wire_Reader_Uint_0 (L : Lvl) (x : ((Int × Int) × ((List Int) × Int))) : Option (Int × ((List Int) × Int)) := L.P r_wire_Reader_Uint q_wire_Reader_Uint_0 [0, 0, 1, 0, 1, 1] x
noncomputable def S_wire_Reader_Raw (L : Lvl) (x : ((List Int) × Int)) : Option ((List Int) × ((List Int) × Int)) := L.S r_wire_Reader_Raw x
noncomputable def S_lexer_scanner_all (L : Lvl) (x : ((ByteArray × (Int × Int)) × (List DTok))) : Option ((ByteArray × (Int × Int)) × (List DTok)) := L.S r_lexer_scanner_all x
noncomputable def P_lexer_scanner_all_0 (L : Lvl) (x : ((ByteArray × (Int × Int)) × (List DTok))) : Option ((ByteArray × (Int × Int)) × (List DTok)) := L.P r_lexer_scanner_all q_lexer_scanner_all_0 [0, 0] x
noncomputable def S_parser_reader_term (L : Lvl) (x : ((List DTok) × Int)) : Option (Except DFrac (DExpr × ((List DTok) × Int))) := L.S r_parser_reader_term x
noncomputable def P_parser_reader_term_0 (L : Lvl) (x : (((List DTok) × Int) × ((Int × (Int × (Int × (Int × (Int × (Int × (Int × ByteArray))))))) × (DExpr × ((List DMatcher) × ((List ByteArray) × (List DExpr))))))) : Option (Except DFrac (DExpr × ((List DTok) × Int))) := L.P r_parser_reader_term q_parser_reader_term_0 [0, 0, 1, 1] x
noncomputable def S_parser_reader_accept (L : Lvl) (x : (ByteArray × ((List DTok) × Int))) : Option (Bool × ((List DTok) × Int)) := L.S r_parser_reader_accept x
noncomputable def S_parser_binary (L : Lvl) (x : (Int × (DExpr × DExpr))) : Option DExpr := L.S r_parser_binary x
noncomputable def S_parser_Depth (L : Lvl) (x : DExpr) : Option Int := L.S r_parser_Depth x
noncomputable def P_parser_Depth_0 (L : Lvl) (x : (Int × ((List DExpr) × (Int × Int)))) : Option Int := L.P r_parser_Depth q_parser_Depth_0 [0, 0, 1, 0, 1, 1] x
noncomputable def S_ref07_shaped (L : Lvl) (x : DExpr) : Option Bool := L.S r_ref07_shaped x
noncomputable def S_ref07_named (L : Lvl) (x : DExpr) : Option Bool := L.S r_ref07_named x
noncomputable def P_ref07_named_0 (L : Lvl) (x : (Int × DExpr)) : Option Bool := L.P r_ref07_named q_ref07_named_0 [0, 0, 1, 0, 1, 1] x
noncomputable def P_ref07_named_1 (L : Lvl) (x : (Int × DExpr)) : Option Bool := L.P r_ref07_named q_ref07_named_1 [0, 0, 1, 0, 1, 1, 1] x
noncomputable def S_ref07_within (L : Lvl) (x : DExpr) : Option Bool := L.S r_ref07_within x
noncomputable def S_ref05_Matchers (L : Lvl) (x : (List Int)) : Option (List DMatcher) := L.S r_ref05_Matchers x
noncomputable def P_ref05_Matchers_0 (L : Lvl) (x : (((List Int) × ((List ByteArray) × Int)) × ((List ByteArray) × (List DMatcher)))) : Option (List DMatcher) := L.P r_ref05_Matchers q_ref05_Matchers_0 [0, 0, 1, 0, 1, 1, 1, 1] x
noncomputable def S_parser_shaped (L : Lvl) (x : DExpr) : Option Bool := L.S r_parser_shaped x
noncomputable def S_parser_named (L : Lvl) (x : DExpr) : Option Bool := L.S r_parser_named x
noncomputable def P_parser_named_0 (L : Lvl) (x : (((List DMatcher) × (Int × Int)) × DExpr)) : Option Bool := L.P r_parser_named q_parser_named_0 [0, 0, 1, 0, 1, 1] x
noncomputable def P_parser_named_1 (L : Lvl) (x : (((List ByteArray) × (Int × Int)) × DExpr)) : Option Bool := L.P r_parser_named q_parser_named_1 [0, 0, 1, 0, 1, 1, 1] x
noncomputable def S_parser_ranged (L : Lvl) (x : DExpr) : Option Bool := L.S r_parser_ranged x
noncomputable def S_ref05_holds (L : Lvl) (x : (DMatcher × ByteArray)) : Option Bool := L.S r_ref05_holds x
noncomputable def S_ref05_Get (L : Lvl) (x : ((List DLabel) × ByteArray)) : Option ByteArray := L.S r_ref05_Get x
noncomputable def P_ref05_Get_0 (L : Lvl) (x : ((List DLabel) × (ByteArray × Int))) : Option ByteArray := L.P r_ref05_Get q_ref05_Get_0 [0, 0, 1, 0, 1] x
noncomputable def S_ref02_Uint (L : Lvl) (x : Int) : Option (List Int) := L.S r_ref02_Uint x
noncomputable def P_ref02_Uint_0 (L : Lvl) (x : (Int × (List Int))) : Option (List Int) := L.P r_ref02_Uint q_ref02_Uint_0 [0, 0, 0, 1, 1] x
noncomputable def S_ref02_Zigzag (L : Lvl) (x : Int) : Option Int := L.S r_ref02_Zigzag x
noncomputable def S_ref02_Back (L : Lvl) (x : Int) : Option Int := L.S r_ref02_Back x
noncomputable def S_ref02_Reader_Uint (L : Lvl) (x : ((List Int) × Int)) : Option (Int × ((List Int) × Int)) := L.S r_ref02_Reader_Uint x
noncomputable def P_ref02_Reader_Uint_0 (L : Lvl) (x : ((Int × (Int × Int)) × ((List Int) × Int))) : Option (Int × ((List Int) × Int)) := L.P r_ref02_Reader_Uint q_ref02_Reader_Uint_0 [0, 0, 1, 0, 1, 1, 1] x
noncomputable def S_ref02_Reader_Raw (L : Lvl) (x : ((List Int) × Int)) : Option ((List Int) × ((List Int) × Int)) := L.S r_ref02_Reader_Raw x
noncomputable def S_wire_zigzag (L : Lvl) (x : Int) : Option Int := L.S r_wire_zigzag x
noncomputable def S_wire_Reader_next (L : Lvl) (x : ((List Int) × Int)) : Option (Int × ((List Int) × Int)) := L.S r_wire_Reader_next x
noncomputable def S_wire_Reader_fail (L : Lvl) (x : (Int × ((List Int) × Int))) : Option ((List Int) × Int) := L.S r_wire_Reader_fail x
noncomputable def S_wire_list_byte (L : Lvl) (x : ((List Int) × Int)) : Option ((List Int) × ((List Int) × Int)) := L.S r_wire_list_byte x
noncomputable def P_wire_list_byte_0 (L : Lvl) (x : ((Int × Int) × (((List Int) × Int) × (List Int)))) : Option ((List Int) × ((List Int) × Int)) := L.P r_wire_list_byte q_wire_list_byte_0 [0, 0, 1, 0, 1, 1, 1, 1] x
noncomputable def S_lexer_token (L : Lvl) (x : ByteArray) : Option (DTok × (Int × Int)) := L.S r_lexer_token x
noncomputable def S_parser_reader_factor (L : Lvl) (x : ((List DTok) × Int)) : Option (Except DFrac (DExpr × ((List DTok) × Int))) := L.S r_parser_reader_factor x
noncomputable def S_parser_reader_is (L : Lvl) (x : (ByteArray × ((List DTok) × Int))) : Option (Bool × ((List DTok) × Int)) := L.S r_parser_reader_is x
noncomputable def S_ref03_Valid (L : Lvl) (x : DFrac) : Option Bool := L.S r_ref03_Valid x
noncomputable def S_ref05_Name (L : Lvl) (x : ByteArray) : Option Bool := L.S r_ref05_Name x
noncomputable def P_ref05_Name_0 (L : Lvl) (x : (ByteArray × Int)) : Option Bool := L.P r_ref05_Name q_ref05_Name_0 [0, 0, 1, 0, 1, 1] x
noncomputable def S_ref07_find (L : Lvl) (x : ((List ByteArray) × ByteArray)) : Option Int := L.S r_ref07_find x
noncomputable def P_ref07_find_0 (L : Lvl) (x : ((List ByteArray) × (ByteArray × Int))) : Option Int := L.P r_ref07_find q_ref07_find_0 [0, 0, 1, 0, 1] x
noncomputable def S_ref07_Groups (L : Lvl) (x : Unit) : Option (List ByteArray) := L.S r_ref07_Groups x
noncomputable def S_ref05_ValidMatcher (L : Lvl) (x : DMatcher) : Option Bool := L.S r_ref05_ValidMatcher x
noncomputable def S_frac_Valid (L : Lvl) (x : DFrac) : Option Bool := L.S r_frac_Valid x
noncomputable def S_labels_Name (L : Lvl) (x : ByteArray) : Option Bool := L.S r_labels_Name x
noncomputable def P_labels_Name_0 (L : Lvl) (x : (ByteArray × Nat)) : Option Bool := L.P r_labels_Name q_labels_Name_0 [0, 0, 1, 0, 1, 1] x
noncomputable def S_slices_Contains_string (L : Lvl) (x : ((List ByteArray) × ByteArray)) : Option Bool := L.S r_slices_Contains_string x
noncomputable def S_labels_ValidMatcher (L : Lvl) (x : DMatcher) : Option Bool := L.S r_labels_ValidMatcher x
noncomputable def S_parser_between (L : Lvl) (x : (Int × (Int × Int))) : Option Bool := L.S r_parser_between x
noncomputable def S_ref02_Reader_length (L : Lvl) (x : ((List Int) × Int)) : Option (Int × ((List Int) × Int)) := L.S r_ref02_Reader_length x
noncomputable def S_lexer_prefix (L : Lvl) (x : (ByteArray × ByteArray)) : Option ByteArray := L.S r_lexer_prefix x
noncomputable def P_lexer_prefix_0 (L : Lvl) (x : (ByteArray × (ByteArray × Int))) : Option ByteArray := L.P r_lexer_prefix q_lexer_prefix_0 [0, 0, 0, 1, 1] x
noncomputable def S_lexer_number (L : Lvl) (x : ByteArray) : Option (DTok × (Int × Int)) := L.S r_lexer_number x
noncomputable def P_lexer_number_0 (L : Lvl) (x : ((ByteArray × Int) × (DTok × (ByteArray × Nat)))) : Option (DTok × (Int × Int)) := L.P r_lexer_number q_lexer_number_0 [0, 0, 1, 0, 1, 1] x
noncomputable def S_lexer_quoted (L : Lvl) (x : ByteArray) : Option (DTok × (Int × Int)) := L.S r_lexer_quoted x
noncomputable def P_lexer_quoted_0 (L : Lvl) (x : ((ByteArray × (Int × Int)) × DTok)) : Option (DTok × (Int × Int)) := L.P r_lexer_quoted q_lexer_quoted_0 [0, 0, 1, 0, 1, 1, 1] x
noncomputable def S_parser_reader_expect (L : Lvl) (x : (ByteArray × ((List DTok) × Int))) : Option (Except DFrac ((List DTok) × Int)) := L.S r_parser_reader_expect x
noncomputable def S_parser_reader_number (L : Lvl) (x : ((Int × Int) × ((List DTok) × Int))) : Option (Except DFrac (Int × ((List DTok) × Int))) := L.S r_parser_reader_number x
noncomputable def S_parser_reader_peek (L : Lvl) (x : (Int × ((List DTok) × Int))) : Option (Except DFrac (DTok × ((List DTok) × Int))) := L.S r_parser_reader_peek x
noncomputable def S_parser_reader_group (L : Lvl) (x : ((List DTok) × Int)) : Option (Except DFrac (DExpr × ((List DTok) × Int))) := L.S r_parser_reader_group x
noncomputable def S_parser_reader_selection (L : Lvl) (x : ((List DTok) × Int)) : Option (Except DFrac (DExpr × ((List DTok) × Int))) := L.S r_parser_reader_selection x
noncomputable def S_ref03_New (L : Lvl) (x : (Int × Int)) : Option (DFrac × Int) := L.S r_ref03_New x
noncomputable def S_ref05_letter (L : Lvl) (x : Int) : Option Bool := L.S r_ref05_letter x
noncomputable def S_ref05_Value (L : Lvl) (x : ByteArray) : Option Bool := L.S r_ref05_Value x
noncomputable def P_ref05_Value_0 (L : Lvl) (x : (ByteArray × Int)) : Option Bool := L.P r_ref05_Value q_ref05_Value_0 [0, 0, 1, 0, 1, 1] x
noncomputable def S_frac_size (L : Lvl) (x : Int) : Option Int := L.S r_frac_size x
noncomputable def S_frac_gcd_uint64 (L : Lvl) (x : (Int × Int)) : Option Int := L.S r_frac_gcd_uint64 x
noncomputable def P_frac_gcd_uint64_0 (L : Lvl) (x : (Int × Int)) : Option Int := L.P r_frac_gcd_uint64 q_frac_gcd_uint64_0 [0, 0, 0, 1] x
noncomputable def S_slices_Index_string (L : Lvl) (x : ((List ByteArray) × ByteArray)) : Option Int := L.S r_slices_Index_string x
noncomputable def P_slices_Index_string_0 (L : Lvl) (x : ((List ByteArray) × (ByteArray × (Int × Int)))) : Option Int := L.P r_slices_Index_string q_slices_Index_string_0 [0, 0, 1, 0, 1] x
noncomputable def S_labels_Value (L : Lvl) (x : ByteArray) : Option Bool := L.S r_labels_Value x
noncomputable def P_labels_Value_0 (L : Lvl) (x : (ByteArray × Nat)) : Option Bool := L.P r_labels_Value q_labels_Value_0 [0, 0, 1, 0, 1, 1] x
noncomputable def S_strings_Cut (L : Lvl) (x : (ByteArray × ByteArray)) : Option (ByteArray × (ByteArray × Bool)) := L.S r_strings_Cut x
noncomputable def S_parser_reader_take (L : Lvl) (x : (Int × ((List DTok) × Int))) : Option (Except DFrac (DTok × ((List DTok) × Int))) := L.S r_parser_reader_take x
noncomputable def S_parser_reader_matcher (L : Lvl) (x : ((List DTok) × Int)) : Option (Except DFrac (DMatcher × ((List DTok) × Int))) := L.S r_parser_reader_matcher x
noncomputable def S_parser_reader_function (L : Lvl) (x : (((List DTok) × Int) × DExpr)) : Option (Except DFrac (((List DTok) × Int) × DExpr)) := L.S r_parser_reader_function x
noncomputable def S_ref03_Size (L : Lvl) (x : Int) : Option Int := L.S r_ref03_Size x
noncomputable def S_ref03_common (L : Lvl) (x : (Int × Int)) : Option Int := L.S r_ref03_common x
noncomputable def P_ref03_common_0 (L : Lvl) (x : (Int × Int)) : Option Int := L.P r_ref03_common q_ref03_common_0 [0, 0, 0, 1] x
noncomputable def S_stringslite_Cut (L : Lvl) (x : (ByteArray × ByteArray)) : Option (ByteArray × (ByteArray × Bool)) := L.S r_stringslite_Cut x
noncomputable def S_stringslite_Index (L : Lvl) (x : (ByteArray × ByteArray)) : Option Int := L.S r_stringslite_Index x
noncomputable def Y_plan_Compile (L : Lvl) (x : (DExpr × (List DIns))) : Option (Bool × (List DIns)) := L.Y y_plan_Compile x
noncomputable def Y_lexer_Tokens (L : Lvl) (x : (DTok × (List DTok))) : Option (Bool × (List DTok)) := L.Y y_lexer_Tokens x
end Go.AM
