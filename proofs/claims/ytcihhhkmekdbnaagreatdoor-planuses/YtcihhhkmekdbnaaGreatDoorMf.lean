/-
  What the rows lean on is so of the program.
-/
import Derived.Test.YtcihhhkmekdbnaaGreatDoorMd
import Derived.Laws.StructEq
import Derived.ChangeKeysEq
import Derived.WalkKit
import Derived.Lib.SliceRun
import Derived.Deep.LoopGhost
import Derived.Lib.Walk
import Derived.Shelf.RegionOpenPlain
import Derived.Shelf.Strings.Trim
import Derived.Shelf.Small.Utf8
import Derived.Shelf.Small.Strs
import Derived.Shelf.Strings.Search1
import Derived.Shelf.Strings.Search2
import Derived.Shelf.Strings.Cut
import Derived.Shelf.LaysM
import Derived.Shelf.Strings.Shaped
import Derived.Shelf.Strings.Prefix
import Derived.Shelf.Strings.Runes
import Derived.Shelf.Strings.AsciiSet
import Derived.Shelf.Unicode.DecodeSlow
import Derived.Test.YtcihhhkmekdbnaaGreatDoorProg
import Derived.Shelf.Strings.SlTrimAscii
import Derived.Tactics
import Derived.Tactics2
import Derived.Defers
import Derived.Recover
import Derived.Laws.Pointers
/-
  What the rows lean on: the table of types is the program's.
-/
namespace Go.AM
open Go Go.Proofs
set_option maxRecDepth 100000
def fieldsOf : Option TypeDesc → Array Field
  | some (.struct f) => f
  | _ => #[]
def AllTI (P : Program) : Tab → Prop
  | [] => True
  | (t, ti) :: r => TIok P t ti ∧ AllTI P r
theorem AllTI.ok {P : Program} : ∀ {Θ : Tab}, AllTI P Θ → TabOK P Θ
  | [], _, t, ti, h => by cases h
  | (t', ti') :: r, ⟨h1, h2⟩, t, ti, h => by
    simp only [assoc] at h
    split at h
    · rename_i he
      cases h
      rw [← beq_iff_eq.1 he]
      exact h1
    · exact AllTI.ok h2 t ti h
theorem ti1 : TIok Go.Proofs.Tryz.prog 1 ⟨.other, 1, 8, [.nilFunc], none⟩ :=
  ⟨⟨Option.get (Go.Proofs.Tryz.prog.underlying 1) (by kernel_rfl), by kernel_rfl, trivial⟩, ⟨Option.get (Go.Proofs.Tryz.prog.info? 1) (by kernel_rfl), by kernel_rfl, by kernel_rfl, by kernel_rfl, by kernel_rfl⟩, by kernel_rfl, by kernel_rfl, fun _ => rfl⟩
theorem ti2 : TIok Go.Proofs.Tryz.prog 2 ⟨.int .i64, 1, 8, [.int .i64 0], some (.i .i64)⟩ :=
  ⟨(by show _ = _; kernel_rfl), ⟨Option.get (Go.Proofs.Tryz.prog.info? 2) (by kernel_rfl), by kernel_rfl, by kernel_rfl, by kernel_rfl, by kernel_rfl⟩, by kernel_rfl, by kernel_rfl, fun _ => rfl⟩
theorem ti3 : TIok Go.Proofs.Tryz.prog 3 ⟨.int .i64, 1, 8, [.int .i64 0], some (.i .i64)⟩ :=
  ⟨(by show _ = _; kernel_rfl), ⟨Option.get (Go.Proofs.Tryz.prog.info? 3) (by kernel_rfl), by kernel_rfl, by kernel_rfl, by kernel_rfl, by kernel_rfl⟩, by kernel_rfl, by kernel_rfl, fun _ => rfl⟩
theorem ti4 : TIok Go.Proofs.Tryz.prog 4 ⟨.bool, 1, 1, [.bool false], some .bool⟩ :=
  ⟨(by show _ = _; kernel_rfl), ⟨Option.get (Go.Proofs.Tryz.prog.info? 4) (by kernel_rfl), by kernel_rfl, by kernel_rfl, by kernel_rfl, by kernel_rfl⟩, by kernel_rfl, by kernel_rfl, fun _ => rfl⟩
theorem ti5 : TIok Go.Proofs.Tryz.prog 5 ⟨.int .u8, 1, 1, [.int .u8 0], some (.i .u8)⟩ :=
  ⟨(by show _ = _; kernel_rfl), ⟨Option.get (Go.Proofs.Tryz.prog.info? 5) (by kernel_rfl), by kernel_rfl, by kernel_rfl, by kernel_rfl, by kernel_rfl⟩, by kernel_rfl, by kernel_rfl, fun _ => rfl⟩
theorem ti6 : TIok Go.Proofs.Tryz.prog 6 ⟨.int .u8, 1, 1, [.int .u8 0], some (.i .u8)⟩ :=
  ⟨(by show _ = _; kernel_rfl), ⟨Option.get (Go.Proofs.Tryz.prog.info? 6) (by kernel_rfl), by kernel_rfl, by kernel_rfl, by kernel_rfl, by kernel_rfl⟩, by kernel_rfl, by kernel_rfl, fun _ => rfl⟩
theorem ti7 : TIok Go.Proofs.Tryz.prog 7 ⟨.struct [(0, 2), (1, 3), (2, 4), (3, 6)], 4, 24, [.int .i64 0, .int .i64 0, .bool false, .int .u8 0], none⟩ :=
  ⟨⟨fieldsOf (Go.Proofs.Tryz.prog.underlying 7), by kernel_rfl, by kernel_rfl⟩, ⟨Option.get (Go.Proofs.Tryz.prog.info? 7) (by kernel_rfl), by kernel_rfl, by kernel_rfl, by kernel_rfl, by kernel_rfl⟩, by kernel_rfl, by kernel_rfl, fun h => by cases h⟩
theorem ti8 : TIok Go.Proofs.Tryz.prog 8 ⟨.struct [(0, 2), (1, 3), (2, 4), (3, 6)], 4, 24, [.int .i64 0, .int .i64 0, .bool false, .int .u8 0], none⟩ :=
  ⟨⟨fieldsOf (Go.Proofs.Tryz.prog.underlying 8), by kernel_rfl, by kernel_rfl⟩, ⟨Option.get (Go.Proofs.Tryz.prog.info? 8) (by kernel_rfl), by kernel_rfl, by kernel_rfl, by kernel_rfl, by kernel_rfl⟩, by kernel_rfl, by kernel_rfl, fun h => by cases h⟩
theorem ti9 : TIok Go.Proofs.Tryz.prog 9 ⟨.str, 1, 16, [.string zeroS], some .str⟩ :=
  ⟨(by show _ = _; kernel_rfl), ⟨Option.get (Go.Proofs.Tryz.prog.info? 9) (by kernel_rfl), by kernel_rfl, by kernel_rfl, by kernel_rfl, by kernel_rfl⟩, by kernel_rfl, by kernel_rfl, fun _ => rfl⟩
theorem ti20 : TIok Go.Proofs.Tryz.prog 20 ⟨.other, 1, 16, [.nilIface], none⟩ :=
  ⟨⟨Option.get (Go.Proofs.Tryz.prog.underlying 20) (by kernel_rfl), by kernel_rfl, trivial⟩, ⟨Option.get (Go.Proofs.Tryz.prog.info? 20) (by kernel_rfl), by kernel_rfl, by kernel_rfl, by kernel_rfl, by kernel_rfl⟩, by kernel_rfl, by kernel_rfl, fun _ => rfl⟩
theorem ti21 : TIok Go.Proofs.Tryz.prog 21 ⟨.int .i32, 1, 4, [.int .i32 0], some (.i .i32)⟩ :=
  ⟨(by show _ = _; kernel_rfl), ⟨Option.get (Go.Proofs.Tryz.prog.info? 21) (by kernel_rfl), by kernel_rfl, by kernel_rfl, by kernel_rfl, by kernel_rfl⟩, by kernel_rfl, by kernel_rfl, fun _ => rfl⟩
theorem ti22 : TIok Go.Proofs.Tryz.prog 22 ⟨.slice 3, 1, 24, [.slice none 0 0], some (.list (.i .i64))⟩ :=
  ⟨(by show _ = _; kernel_rfl), ⟨Option.get (Go.Proofs.Tryz.prog.info? 22) (by kernel_rfl), by kernel_rfl, by kernel_rfl, by kernel_rfl, by kernel_rfl⟩, by kernel_rfl, by kernel_rfl, fun _ => rfl⟩
theorem ti24 : TIok Go.Proofs.Tryz.prog 24 ⟨.struct [(0, 3), (1, 3)], 2, 16, [.int .i64 0, .int .i64 0], some .frac⟩ :=
  ⟨⟨fieldsOf (Go.Proofs.Tryz.prog.underlying 24), by kernel_rfl, by kernel_rfl⟩, ⟨Option.get (Go.Proofs.Tryz.prog.info? 24) (by kernel_rfl), by kernel_rfl, by kernel_rfl, by kernel_rfl, by kernel_rfl⟩, by kernel_rfl, by kernel_rfl, fun h => by cases h⟩
theorem ti25 : TIok Go.Proofs.Tryz.prog 25 ⟨.slice 80, 1, 24, [.slice none 0 0], some (.list .matcher)⟩ :=
  ⟨(by show _ = _; kernel_rfl), ⟨Option.get (Go.Proofs.Tryz.prog.info? 25) (by kernel_rfl), by kernel_rfl, by kernel_rfl, by kernel_rfl, by kernel_rfl⟩, by kernel_rfl, by kernel_rfl, fun _ => rfl⟩
theorem ti26 : TIok Go.Proofs.Tryz.prog 26 ⟨.slice 9, 1, 24, [.slice none 0 0], some (.list .str)⟩ :=
  ⟨(by show _ = _; kernel_rfl), ⟨Option.get (Go.Proofs.Tryz.prog.info? 26) (by kernel_rfl), by kernel_rfl, by kernel_rfl, by kernel_rfl, by kernel_rfl⟩, by kernel_rfl, by kernel_rfl, fun _ => rfl⟩
theorem ti27 : TIok Go.Proofs.Tryz.prog 27 ⟨.slice 29, 1, 24, [.slice none 0 0], some (.list .expr)⟩ :=
  ⟨(by show _ = _; kernel_rfl), ⟨Option.get (Go.Proofs.Tryz.prog.info? 27) (by kernel_rfl), by kernel_rfl, by kernel_rfl, by kernel_rfl, by kernel_rfl⟩, by kernel_rfl, by kernel_rfl, fun _ => rfl⟩
theorem ti29 : TIok Go.Proofs.Tryz.prog 29 ⟨.struct [(0, 3), (1, 3), (2, 3), (3, 3), (4, 3), (5, 24), (7, 9), (8, 25), (9, 26), (10, 27)], 11, 144, [.int .i64 0, .int .i64 0, .int .i64 0, .int .i64 0, .int .i64 0, .int .i64 0, .int .i64 0, .string zeroS, .slice none 0 0, .slice none 0 0, .slice none 0 0], some .expr⟩ :=
  ⟨⟨fieldsOf (Go.Proofs.Tryz.prog.underlying 29), by kernel_rfl, by kernel_rfl⟩, ⟨Option.get (Go.Proofs.Tryz.prog.info? 29) (by kernel_rfl), by kernel_rfl, by kernel_rfl, by kernel_rfl, by kernel_rfl⟩, by kernel_rfl, by kernel_rfl, fun h => by cases h⟩
theorem ti31 : TIok Go.Proofs.Tryz.prog 31 ⟨.other, 1, 8, [.nilFunc], none⟩ :=
  ⟨⟨Option.get (Go.Proofs.Tryz.prog.underlying 31) (by kernel_rfl), by kernel_rfl, trivial⟩, ⟨Option.get (Go.Proofs.Tryz.prog.info? 31) (by kernel_rfl), by kernel_rfl, by kernel_rfl, by kernel_rfl, by kernel_rfl⟩, by kernel_rfl, by kernel_rfl, fun _ => rfl⟩
theorem ti36 : TIok Go.Proofs.Tryz.prog 36 ⟨.slice 45, 1, 24, [.slice none 0 0], some (.list .ins)⟩ :=
  ⟨(by show _ = _; kernel_rfl), ⟨Option.get (Go.Proofs.Tryz.prog.info? 36) (by kernel_rfl), by kernel_rfl, by kernel_rfl, by kernel_rfl, by kernel_rfl⟩, by kernel_rfl, by kernel_rfl, fun _ => rfl⟩
theorem ti37 : TIok Go.Proofs.Tryz.prog 37 ⟨.int .i64, 1, 8, [.int .i64 0], some (.i .i64)⟩ :=
  ⟨(by show _ = _; kernel_rfl), ⟨Option.get (Go.Proofs.Tryz.prog.info? 37) (by kernel_rfl), by kernel_rfl, by kernel_rfl, by kernel_rfl, by kernel_rfl⟩, by kernel_rfl, by kernel_rfl, fun _ => rfl⟩
theorem ti45 : TIok Go.Proofs.Tryz.prog 45 ⟨.struct [(0, 3), (1, 3), (2, 3), (3, 3), (4, 3), (5, 24), (7, 9), (8, 25), (9, 26)], 10, 120, [.int .i64 0, .int .i64 0, .int .i64 0, .int .i64 0, .int .i64 0, .int .i64 0, .int .i64 0, .string zeroS, .slice none 0 0, .slice none 0 0], some .ins⟩ :=
  ⟨⟨fieldsOf (Go.Proofs.Tryz.prog.underlying 45), by kernel_rfl, by kernel_rfl⟩, ⟨Option.get (Go.Proofs.Tryz.prog.info? 45) (by kernel_rfl), by kernel_rfl, by kernel_rfl, by kernel_rfl, by kernel_rfl⟩, by kernel_rfl, by kernel_rfl, fun h => by cases h⟩
theorem ti54 : TIok Go.Proofs.Tryz.prog 54 ⟨.slice 97, 1, 24, [.slice none 0 0], some (.list .decl)⟩ :=
  ⟨(by show _ = _; kernel_rfl), ⟨Option.get (Go.Proofs.Tryz.prog.info? 54) (by kernel_rfl), by kernel_rfl, by kernel_rfl, by kernel_rfl, by kernel_rfl⟩, by kernel_rfl, by kernel_rfl, fun _ => rfl⟩
theorem ti59 : TIok Go.Proofs.Tryz.prog 59 ⟨.slice 5, 1, 24, [.slice none 0 0], some (.list (.i .u8))⟩ :=
  ⟨(by show _ = _; kernel_rfl), ⟨Option.get (Go.Proofs.Tryz.prog.info? 59) (by kernel_rfl), by kernel_rfl, by kernel_rfl, by kernel_rfl, by kernel_rfl⟩, by kernel_rfl, by kernel_rfl, fun _ => rfl⟩
theorem ti69 : TIok Go.Proofs.Tryz.prog 69 ⟨.other, 1, 8, [.nilFunc], none⟩ :=
  ⟨⟨Option.get (Go.Proofs.Tryz.prog.underlying 69) (by kernel_rfl), by kernel_rfl, trivial⟩, ⟨Option.get (Go.Proofs.Tryz.prog.info? 69) (by kernel_rfl), by kernel_rfl, by kernel_rfl, by kernel_rfl, by kernel_rfl⟩, by kernel_rfl, by kernel_rfl, fun _ => rfl⟩
theorem ti80 : TIok Go.Proofs.Tryz.prog 80 ⟨.struct [(0, 9), (1, 3), (2, 9)], 3, 40, [.string zeroS, .int .i64 0, .string zeroS], some .matcher⟩ :=
  ⟨⟨fieldsOf (Go.Proofs.Tryz.prog.underlying 80), by kernel_rfl, by kernel_rfl⟩, ⟨Option.get (Go.Proofs.Tryz.prog.info? 80) (by kernel_rfl), by kernel_rfl, by kernel_rfl, by kernel_rfl, by kernel_rfl⟩, by kernel_rfl, by kernel_rfl, fun h => by cases h⟩
theorem ti81 : TIok Go.Proofs.Tryz.prog 81 ⟨.other, 1, 8, [.pointer none], none⟩ :=
  ⟨⟨Option.get (Go.Proofs.Tryz.prog.underlying 81) (by kernel_rfl), by kernel_rfl, trivial⟩, ⟨Option.get (Go.Proofs.Tryz.prog.info? 81) (by kernel_rfl), by kernel_rfl, by kernel_rfl, by kernel_rfl, by kernel_rfl⟩, by kernel_rfl, by kernel_rfl, fun _ => rfl⟩
theorem ti83 : TIok Go.Proofs.Tryz.prog 83 ⟨.struct [(0, 22), (1, 3), (2, 26), (3, 3)], 4, 64, [.slice none 0 0, .int .i64 0, .slice none 0 0, .int .i64 0], none⟩ :=
  ⟨⟨fieldsOf (Go.Proofs.Tryz.prog.underlying 83), by kernel_rfl, by kernel_rfl⟩, ⟨Option.get (Go.Proofs.Tryz.prog.info? 83) (by kernel_rfl), by kernel_rfl, by kernel_rfl, by kernel_rfl, by kernel_rfl⟩, by kernel_rfl, by kernel_rfl, fun h => by cases h⟩
theorem ti85 : TIok Go.Proofs.Tryz.prog 85 ⟨.other, 1, 8, [.nilFunc], none⟩ :=
  ⟨⟨Option.get (Go.Proofs.Tryz.prog.underlying 85) (by kernel_rfl), by kernel_rfl, trivial⟩, ⟨Option.get (Go.Proofs.Tryz.prog.info? 85) (by kernel_rfl), by kernel_rfl, by kernel_rfl, by kernel_rfl, by kernel_rfl⟩, by kernel_rfl, by kernel_rfl, fun _ => rfl⟩
theorem ti86 : TIok Go.Proofs.Tryz.prog 86 ⟨.other, 1, 8, [.nilFunc], none⟩ :=
  ⟨⟨Option.get (Go.Proofs.Tryz.prog.underlying 86) (by kernel_rfl), by kernel_rfl, trivial⟩, ⟨Option.get (Go.Proofs.Tryz.prog.info? 86) (by kernel_rfl), by kernel_rfl, by kernel_rfl, by kernel_rfl, by kernel_rfl⟩, by kernel_rfl, by kernel_rfl, fun _ => rfl⟩
theorem ti91 : TIok Go.Proofs.Tryz.prog 91 ⟨.arr 3 3, 3, 24, [.int .i64 0, .int .i64 0, .int .i64 0], some .unit⟩ :=
  ⟨(by show _ = _; kernel_rfl), ⟨Option.get (Go.Proofs.Tryz.prog.info? 91) (by kernel_rfl), by kernel_rfl, by kernel_rfl, by kernel_rfl, by kernel_rfl⟩, by kernel_rfl, by kernel_rfl, fun h => by cases h⟩
theorem ti92 : TIok Go.Proofs.Tryz.prog 92 ⟨.slice 91, 1, 24, [.slice none 0 0], some (.list .unit)⟩ :=
  ⟨(by show _ = _; kernel_rfl), ⟨Option.get (Go.Proofs.Tryz.prog.info? 92) (by kernel_rfl), by kernel_rfl, by kernel_rfl, by kernel_rfl, by kernel_rfl⟩, by kernel_rfl, by kernel_rfl, fun _ => rfl⟩
theorem ti94 : TIok Go.Proofs.Tryz.prog 94 ⟨.slice 136, 1, 24, [.slice none 0 0], some (.list .label)⟩ :=
  ⟨(by show _ = _; kernel_rfl), ⟨Option.get (Go.Proofs.Tryz.prog.info? 94) (by kernel_rfl), by kernel_rfl, by kernel_rfl, by kernel_rfl, by kernel_rfl⟩, by kernel_rfl, by kernel_rfl, fun _ => rfl⟩
theorem ti97 : TIok Go.Proofs.Tryz.prog 97 ⟨.struct [(0, 9), (1, 94), (2, 91), (5, 3), (6, 3), (7, 3), (8, 3), (9, 3), (10, 3), (11, 3)], 12, 120, [.string zeroS, .slice none 0 0, .int .i64 0, .int .i64 0, .int .i64 0, .int .i64 0, .int .i64 0, .int .i64 0, .int .i64 0, .int .i64 0, .int .i64 0, .int .i64 0], some .decl⟩ :=
  ⟨⟨fieldsOf (Go.Proofs.Tryz.prog.underlying 97), by kernel_rfl, by kernel_rfl⟩, ⟨Option.get (Go.Proofs.Tryz.prog.info? 97) (by kernel_rfl), by kernel_rfl, by kernel_rfl, by kernel_rfl, by kernel_rfl⟩, by kernel_rfl, by kernel_rfl, fun h => by cases h⟩
theorem ti104 : TIok Go.Proofs.Tryz.prog 104 ⟨.struct [(0, 59)], 1, 24, [.slice none 0 0], none⟩ :=
  ⟨⟨fieldsOf (Go.Proofs.Tryz.prog.underlying 104), by kernel_rfl, by kernel_rfl⟩, ⟨Option.get (Go.Proofs.Tryz.prog.info? 104) (by kernel_rfl), by kernel_rfl, by kernel_rfl, by kernel_rfl, by kernel_rfl⟩, by kernel_rfl, by kernel_rfl, fun h => by cases h⟩
theorem ti106 : TIok Go.Proofs.Tryz.prog 106 ⟨.other, 1, 8, [.pointer none], none⟩ :=
  ⟨⟨Option.get (Go.Proofs.Tryz.prog.underlying 106) (by kernel_rfl), by kernel_rfl, trivial⟩, ⟨Option.get (Go.Proofs.Tryz.prog.info? 106) (by kernel_rfl), by kernel_rfl, by kernel_rfl, by kernel_rfl, by kernel_rfl⟩, by kernel_rfl, by kernel_rfl, fun _ => rfl⟩
theorem ti109 : TIok Go.Proofs.Tryz.prog 109 ⟨.other, 1, 8, [.pointer none], none⟩ :=
  ⟨⟨Option.get (Go.Proofs.Tryz.prog.underlying 109) (by kernel_rfl), by kernel_rfl, trivial⟩, ⟨Option.get (Go.Proofs.Tryz.prog.info? 109) (by kernel_rfl), by kernel_rfl, by kernel_rfl, by kernel_rfl, by kernel_rfl⟩, by kernel_rfl, by kernel_rfl, fun _ => rfl⟩
theorem ti120 : TIok Go.Proofs.Tryz.prog 120 ⟨.slice 157, 1, 24, [.slice none 0 0], some (.list .tok)⟩ :=
  ⟨(by show _ = _; kernel_rfl), ⟨Option.get (Go.Proofs.Tryz.prog.info? 120) (by kernel_rfl), by kernel_rfl, by kernel_rfl, by kernel_rfl, by kernel_rfl⟩, by kernel_rfl, by kernel_rfl, fun _ => rfl⟩
theorem ti124 : TIok Go.Proofs.Tryz.prog 124 ⟨.struct [(0, 3), (1, 37)], 2, 16, [.int .i64 0, .int .i64 0], none⟩ :=
  ⟨⟨fieldsOf (Go.Proofs.Tryz.prog.underlying 124), by kernel_rfl, by kernel_rfl⟩, ⟨Option.get (Go.Proofs.Tryz.prog.info? 124) (by kernel_rfl), by kernel_rfl, by kernel_rfl, by kernel_rfl, by kernel_rfl⟩, by kernel_rfl, by kernel_rfl, fun h => by cases h⟩
theorem ti126 : TIok Go.Proofs.Tryz.prog 126 ⟨.other, 1, 8, [.pointer none], none⟩ :=
  ⟨⟨Option.get (Go.Proofs.Tryz.prog.underlying 126) (by kernel_rfl), by kernel_rfl, trivial⟩, ⟨Option.get (Go.Proofs.Tryz.prog.info? 126) (by kernel_rfl), by kernel_rfl, by kernel_rfl, by kernel_rfl, by kernel_rfl⟩, by kernel_rfl, by kernel_rfl, fun _ => rfl⟩
theorem ti128 : TIok Go.Proofs.Tryz.prog 128 ⟨.struct [(0, 120), (1, 3)], 2, 32, [.slice none 0 0, .int .i64 0], none⟩ :=
  ⟨⟨fieldsOf (Go.Proofs.Tryz.prog.underlying 128), by kernel_rfl, by kernel_rfl⟩, ⟨Option.get (Go.Proofs.Tryz.prog.info? 128) (by kernel_rfl), by kernel_rfl, by kernel_rfl, by kernel_rfl, by kernel_rfl⟩, by kernel_rfl, by kernel_rfl, fun h => by cases h⟩
theorem ti136 : TIok Go.Proofs.Tryz.prog 136 ⟨.struct [(0, 9), (1, 9)], 2, 32, [.string zeroS, .string zeroS], some .label⟩ :=
  ⟨⟨fieldsOf (Go.Proofs.Tryz.prog.underlying 136), by kernel_rfl, by kernel_rfl⟩, ⟨Option.get (Go.Proofs.Tryz.prog.info? 136) (by kernel_rfl), by kernel_rfl, by kernel_rfl, by kernel_rfl, by kernel_rfl⟩, by kernel_rfl, by kernel_rfl, fun h => by cases h⟩
theorem ti141 : TIok Go.Proofs.Tryz.prog 141 ⟨.other, 1, 8, [.pointer none], none⟩ :=
  ⟨⟨Option.get (Go.Proofs.Tryz.prog.underlying 141) (by kernel_rfl), by kernel_rfl, trivial⟩, ⟨Option.get (Go.Proofs.Tryz.prog.info? 141) (by kernel_rfl), by kernel_rfl, by kernel_rfl, by kernel_rfl, by kernel_rfl⟩, by kernel_rfl, by kernel_rfl, fun _ => rfl⟩
theorem ti143 : TIok Go.Proofs.Tryz.prog 143 ⟨.struct [(0, 59), (1, 37)], 2, 32, [.slice none 0 0, .int .i64 0], none⟩ :=
  ⟨⟨fieldsOf (Go.Proofs.Tryz.prog.underlying 143), by kernel_rfl, by kernel_rfl⟩, ⟨Option.get (Go.Proofs.Tryz.prog.info? 143) (by kernel_rfl), by kernel_rfl, by kernel_rfl, by kernel_rfl, by kernel_rfl⟩, by kernel_rfl, by kernel_rfl, fun h => by cases h⟩
theorem ti147 : TIok Go.Proofs.Tryz.prog 147 ⟨.int .u64, 1, 8, [.int .u64 0], some (.i .u64)⟩ :=
  ⟨(by show _ = _; kernel_rfl), ⟨Option.get (Go.Proofs.Tryz.prog.info? 147) (by kernel_rfl), by kernel_rfl, by kernel_rfl, by kernel_rfl, by kernel_rfl⟩, by kernel_rfl, by kernel_rfl, fun _ => rfl⟩
theorem ti149 : TIok Go.Proofs.Tryz.prog 149 ⟨.struct [(0, 59), (1, 37)], 2, 32, [.slice none 0 0, .int .i64 0], none⟩ :=
  ⟨⟨fieldsOf (Go.Proofs.Tryz.prog.underlying 149), by kernel_rfl, by kernel_rfl⟩, ⟨Option.get (Go.Proofs.Tryz.prog.info? 149) (by kernel_rfl), by kernel_rfl, by kernel_rfl, by kernel_rfl, by kernel_rfl⟩, by kernel_rfl, by kernel_rfl, fun h => by cases h⟩
theorem ti152 : TIok Go.Proofs.Tryz.prog 152 ⟨.other, 1, 8, [.pointer none], none⟩ :=
  ⟨⟨Option.get (Go.Proofs.Tryz.prog.underlying 152) (by kernel_rfl), by kernel_rfl, trivial⟩, ⟨Option.get (Go.Proofs.Tryz.prog.info? 152) (by kernel_rfl), by kernel_rfl, by kernel_rfl, by kernel_rfl, by kernel_rfl⟩, by kernel_rfl, by kernel_rfl, fun _ => rfl⟩
theorem ti154 : TIok Go.Proofs.Tryz.prog 154 ⟨.struct [(0, 9), (1, 3), (2, 37)], 3, 32, [.string zeroS, .int .i64 0, .int .i64 0], none⟩ :=
  ⟨⟨fieldsOf (Go.Proofs.Tryz.prog.underlying 154), by kernel_rfl, by kernel_rfl⟩, ⟨Option.get (Go.Proofs.Tryz.prog.info? 154) (by kernel_rfl), by kernel_rfl, by kernel_rfl, by kernel_rfl, by kernel_rfl⟩, by kernel_rfl, by kernel_rfl, fun h => by cases h⟩
theorem ti155 : TIok Go.Proofs.Tryz.prog 155 ⟨.other, 1, 8, [.nilFunc], none⟩ :=
  ⟨⟨Option.get (Go.Proofs.Tryz.prog.underlying 155) (by kernel_rfl), by kernel_rfl, trivial⟩, ⟨Option.get (Go.Proofs.Tryz.prog.info? 155) (by kernel_rfl), by kernel_rfl, by kernel_rfl, by kernel_rfl, by kernel_rfl⟩, by kernel_rfl, by kernel_rfl, fun _ => rfl⟩
theorem ti157 : TIok Go.Proofs.Tryz.prog 157 ⟨.struct [(0, 3), (1, 9), (2, 3), (3, 3)], 4, 40, [.int .i64 0, .string zeroS, .int .i64 0, .int .i64 0], some .tok⟩ :=
  ⟨⟨fieldsOf (Go.Proofs.Tryz.prog.underlying 157), by kernel_rfl, by kernel_rfl⟩, ⟨Option.get (Go.Proofs.Tryz.prog.info? 157) (by kernel_rfl), by kernel_rfl, by kernel_rfl, by kernel_rfl, by kernel_rfl⟩, by kernel_rfl, by kernel_rfl, fun h => by cases h⟩
theorem ti164 : TIok Go.Proofs.Tryz.prog 164 ⟨.int .u64, 1, 8, [.int .u64 0], some (.i .u64)⟩ :=
  ⟨(by show _ = _; kernel_rfl), ⟨Option.get (Go.Proofs.Tryz.prog.info? 164) (by kernel_rfl), by kernel_rfl, by kernel_rfl, by kernel_rfl, by kernel_rfl⟩, by kernel_rfl, by kernel_rfl, fun _ => rfl⟩
theorem ti165 : TIok Go.Proofs.Tryz.prog 165 ⟨.other, 1, 8, [.nilFunc], none⟩ :=
  ⟨⟨Option.get (Go.Proofs.Tryz.prog.underlying 165) (by kernel_rfl), by kernel_rfl, trivial⟩, ⟨Option.get (Go.Proofs.Tryz.prog.info? 165) (by kernel_rfl), by kernel_rfl, by kernel_rfl, by kernel_rfl, by kernel_rfl⟩, by kernel_rfl, by kernel_rfl, fun _ => rfl⟩
theorem ti167 : TIok Go.Proofs.Tryz.prog 167 ⟨.other, 1, 8, [.nilFunc], none⟩ :=
  ⟨⟨Option.get (Go.Proofs.Tryz.prog.underlying 167) (by kernel_rfl), by kernel_rfl, trivial⟩, ⟨Option.get (Go.Proofs.Tryz.prog.info? 167) (by kernel_rfl), by kernel_rfl, by kernel_rfl, by kernel_rfl, by kernel_rfl⟩, by kernel_rfl, by kernel_rfl, fun _ => rfl⟩
theorem ti175 : TIok Go.Proofs.Tryz.prog 175 ⟨.arr 5 9, 5, 80, [.string zeroS, .string zeroS, .string zeroS, .string zeroS, .string zeroS], none⟩ :=
  ⟨(by show _ = _; kernel_rfl), ⟨Option.get (Go.Proofs.Tryz.prog.info? 175) (by kernel_rfl), by kernel_rfl, by kernel_rfl, by kernel_rfl, by kernel_rfl⟩, by kernel_rfl, by kernel_rfl, fun h => by cases h⟩
theorem ti179 : TIok Go.Proofs.Tryz.prog 179 ⟨.arr 256 4, 256, 256, List.replicate 256 (.bool false), none⟩ :=
  ⟨(by show _ = _; kernel_rfl), ⟨Option.get (Go.Proofs.Tryz.prog.info? 179) (by kernel_rfl), by kernel_rfl, by kernel_rfl, by kernel_rfl, by kernel_rfl⟩, by kernel_rfl, by kernel_rfl, fun h => by cases h⟩
theorem ti183 : TIok Go.Proofs.Tryz.prog 183 ⟨.other, 1, 8, [.pointer none], none⟩ :=
  ⟨⟨Option.get (Go.Proofs.Tryz.prog.underlying 183) (by kernel_rfl), by kernel_rfl, trivial⟩, ⟨Option.get (Go.Proofs.Tryz.prog.info? 183) (by kernel_rfl), by kernel_rfl, by kernel_rfl, by kernel_rfl, by kernel_rfl⟩, by kernel_rfl, by kernel_rfl, fun _ => rfl⟩
theorem ti198 : TIok Go.Proofs.Tryz.prog 198 ⟨.other, 1, 8, [.pointer none], none⟩ :=
  ⟨⟨Option.get (Go.Proofs.Tryz.prog.underlying 198) (by kernel_rfl), by kernel_rfl, trivial⟩, ⟨Option.get (Go.Proofs.Tryz.prog.info? 198) (by kernel_rfl), by kernel_rfl, by kernel_rfl, by kernel_rfl, by kernel_rfl⟩, by kernel_rfl, by kernel_rfl, fun _ => rfl⟩
theorem ti200 : TIok Go.Proofs.Tryz.prog 200 ⟨.arr 8 9, 8, 128, [.string zeroS, .string zeroS, .string zeroS, .string zeroS, .string zeroS, .string zeroS, .string zeroS, .string zeroS], none⟩ :=
  ⟨(by show _ = _; kernel_rfl), ⟨Option.get (Go.Proofs.Tryz.prog.info? 200) (by kernel_rfl), by kernel_rfl, by kernel_rfl, by kernel_rfl, by kernel_rfl⟩, by kernel_rfl, by kernel_rfl, fun h => by cases h⟩
theorem tab0 : TabOK Go.Proofs.Tryz.prog Θ0 := AllTI.ok (show AllTI _ _ from ⟨ti1, ti2, ti3, ti4, ti5, ti6, ti7, ti8, ti9, ti20, ti21, ti22, ti24, ti25, ti26, ti27, ti29, ti31, ti36, ti37, ti45, ti54, ti59, ti69, ti80, ti81, ti83, ti85, ti86, ti91, ti92, ti94, ti97, ti104, ti106, ti109, ti120, ti124, ti126, ti128, ti136, ti141, ti143, ti147, ti149, ti152, ti154, ti155, ti157, ti164, ti165, ti167, ti175, ti179, ti183, ti198, ti200, trivial⟩)
end Go.AM
/-
  What the rows lean on: each row's text is the program's.
-/
namespace Go.AM
open Go Go.Proofs
set_option maxRecDepth 100000
def AllFx (P : Program) : List Row → Prop
  | [] => True
  | r :: l => FxOK P r.X ∧ AllFx P l
theorem AllFx.ok {P : Program} : ∀ {l : List Row}, AllFx P l → ∀ r ∈ l, FxOK P r.X
  | [], _, r, h => by cases h
  | r' :: l, ⟨h1, h2⟩, r, h => by
    rcases List.mem_cons.1 h with rfl | h
    · exact h1
    · exact AllFx.ok h2 r h
theorem fx_law23_PlanCompile : FxOK Go.Proofs.Tryz.prog r_law23_PlanCompile.X := ⟨by kernel_rfl, by kernel_rfl, by kernel_rfl, by show (3 : Nat) < 1000000; decide, fun _ => by kernel_rfl, by kernel_rfl⟩
theorem fx_law23_PlanTree : FxOK Go.Proofs.Tryz.prog r_law23_PlanTree.X := ⟨by kernel_rfl, by kernel_rfl, by kernel_rfl, by show (4 : Nat) < 1000000; decide, fun _ => by kernel_rfl, by kernel_rfl⟩
theorem fx_law23_PlanLimits : FxOK Go.Proofs.Tryz.prog r_law23_PlanLimits.X := ⟨by kernel_rfl, by kernel_rfl, by kernel_rfl, by show (5 : Nat) < 1000000; decide, fun _ => by kernel_rfl, by kernel_rfl⟩
theorem fx_law23_PlanReach : FxOK Go.Proofs.Tryz.prog r_law23_PlanReach.X := ⟨by kernel_rfl, by kernel_rfl, by kernel_rfl, by show (6 : Nat) < 1000000; decide, fun _ => by kernel_rfl, by kernel_rfl⟩
theorem fx_law23_PlanEncode : FxOK Go.Proofs.Tryz.prog r_law23_PlanEncode.X := ⟨by kernel_rfl, by kernel_rfl, by kernel_rfl, by show (7 : Nat) < 1000000; decide, fun _ => by kernel_rfl, by kernel_rfl⟩
theorem fx_law23_PlanUses : FxOK Go.Proofs.Tryz.prog r_law23_PlanUses.X := ⟨by kernel_rfl, by kernel_rfl, by kernel_rfl, by show (8 : Nat) < 1000000; decide, fun _ => by kernel_rfl, by kernel_rfl⟩
theorem fx_law23_PlanDecode : FxOK Go.Proofs.Tryz.prog r_law23_PlanDecode.X := ⟨by kernel_rfl, by kernel_rfl, by kernel_rfl, by show (9 : Nat) < 1000000; decide, fun _ => by kernel_rfl, by kernel_rfl⟩
theorem fx_law23_PlanRound : FxOK Go.Proofs.Tryz.prog r_law23_PlanRound.X := ⟨by kernel_rfl, by kernel_rfl, by kernel_rfl, by show (10 : Nat) < 1000000; decide, fun _ => by kernel_rfl, by kernel_rfl⟩
theorem fx_ref07_Expr : FxOK Go.Proofs.Tryz.prog r_ref07_Expr.X := ⟨by kernel_rfl, by kernel_rfl, by kernel_rfl, by show (11 : Nat) < 1000000; decide, fun _ => by kernel_rfl, by kernel_rfl⟩
theorem fx_law23_compiles : FxOK Go.Proofs.Tryz.prog r_law23_compiles.X := ⟨by kernel_rfl, by kernel_rfl, by kernel_rfl, by show (12 : Nat) < 1000000; decide, fun _ => by kernel_rfl, by kernel_rfl⟩
theorem fx_ref07_Spoilt : FxOK Go.Proofs.Tryz.prog r_ref07_Spoilt.X := ⟨by kernel_rfl, by kernel_rfl, by kernel_rfl, by show (13 : Nat) < 1000000; decide, fun _ => by kernel_rfl, by kernel_rfl⟩
theorem fx_ref07_Cut : FxOK Go.Proofs.Tryz.prog r_ref07_Cut.X := ⟨by kernel_rfl, by kernel_rfl, by kernel_rfl, by show (14 : Nat) < 1000000; decide, fun _ => by kernel_rfl, by kernel_rfl⟩
theorem fx_law23_lives : FxOK Go.Proofs.Tryz.prog r_law23_lives.X := ⟨by kernel_rfl, by kernel_rfl, by kernel_rfl, by show (15 : Nat) < 1000000; decide, fun _ => by kernel_rfl, by kernel_rfl⟩
theorem fx_ref23_Compile : FxOK Go.Proofs.Tryz.prog r_ref23_Compile.X := ⟨by kernel_rfl, by kernel_rfl, by kernel_rfl, by show (16 : Nat) < 1000000; decide, fun _ => by kernel_rfl, by kernel_rfl⟩
theorem fx_ref23_Few : FxOK Go.Proofs.Tryz.prog r_ref23_Few.X := ⟨by kernel_rfl, by kernel_rfl, by kernel_rfl, by show (17 : Nat) < 1000000; decide, fun _ => by kernel_rfl, by kernel_rfl⟩
theorem fx_ref23_Changed : FxOK Go.Proofs.Tryz.prog r_ref23_Changed.X := ⟨by kernel_rfl, by kernel_rfl, by kernel_rfl, by show (18 : Nat) < 1000000; decide, fun _ => by kernel_rfl, by kernel_rfl⟩
theorem fx_law23_rebuilds : FxOK Go.Proofs.Tryz.prog r_law23_rebuilds.X := ⟨by kernel_rfl, by kernel_rfl, by kernel_rfl, by show (19 : Nat) < 1000000; decide, fun _ => by kernel_rfl, by kernel_rfl⟩
theorem fx_ref01_Around : FxOK Go.Proofs.Tryz.prog r_ref01_Around.X := ⟨by kernel_rfl, by kernel_rfl, by kernel_rfl, by show (20 : Nat) < 1000000; decide, fun _ => by kernel_rfl, by kernel_rfl⟩
theorem fx_law23_balanced : FxOK Go.Proofs.Tryz.prog r_law23_balanced.X := ⟨by kernel_rfl, by kernel_rfl, by kernel_rfl, by show (21 : Nat) < 1000000; decide, fun _ => by kernel_rfl, by kernel_rfl⟩
theorem fx_plan_Check : FxOK Go.Proofs.Tryz.prog r_plan_Check.X := ⟨by kernel_rfl, by kernel_rfl, by kernel_rfl, by show (22 : Nat) < 1000000; decide, fun _ => by kernel_rfl, by kernel_rfl⟩
theorem fx_ref23_Check : FxOK Go.Proofs.Tryz.prog r_ref23_Check.X := ⟨by kernel_rfl, by kernel_rfl, by kernel_rfl, by show (23 : Nat) < 1000000; decide, fun _ => by kernel_rfl, by kernel_rfl⟩
theorem fx_ref07_Make : FxOK Go.Proofs.Tryz.prog r_ref07_Make.X := ⟨by kernel_rfl, by kernel_rfl, by kernel_rfl, by show (24 : Nat) < 1000000; decide, fun _ => by kernel_rfl, by kernel_rfl⟩
theorem fx_plan_Compile : FxOK Go.Proofs.Tryz.prog r_plan_Compile.X := ⟨by kernel_rfl, by kernel_rfl, by kernel_rfl, by show (25 : Nat) < 1000000; decide, fun _ => by kernel_rfl, by kernel_rfl⟩
theorem fx_ref23_Shifted : FxOK Go.Proofs.Tryz.prog r_ref23_Shifted.X := ⟨by kernel_rfl, by kernel_rfl, by kernel_rfl, by show (26 : Nat) < 1000000; decide, fun _ => by kernel_rfl, by kernel_rfl⟩
theorem fx_plan_Reach : FxOK Go.Proofs.Tryz.prog r_plan_Reach.X := ⟨by kernel_rfl, by kernel_rfl, by kernel_rfl, by show (27 : Nat) < 1000000; decide, fun _ => by kernel_rfl, by kernel_rfl⟩
theorem fx_ref23_Reach : FxOK Go.Proofs.Tryz.prog r_ref23_Reach.X := ⟨by kernel_rfl, by kernel_rfl, by kernel_rfl, by show (28 : Nat) < 1000000; decide, fun _ => by kernel_rfl, by kernel_rfl⟩
theorem fx_law23_encodes : FxOK Go.Proofs.Tryz.prog r_law23_encodes.X := ⟨by kernel_rfl, by kernel_rfl, by kernel_rfl, by show (29 : Nat) < 1000000; decide, fun _ => by kernel_rfl, by kernel_rfl⟩
theorem fx_ref08_Decls : FxOK Go.Proofs.Tryz.prog r_ref08_Decls.X := ⟨by kernel_rfl, by kernel_rfl, by kernel_rfl, by show (30 : Nat) < 1000000; decide, fun _ => by kernel_rfl, by kernel_rfl⟩
theorem fx_ref08_Query : FxOK Go.Proofs.Tryz.prog r_ref08_Query.X := ⟨by kernel_rfl, by kernel_rfl, by kernel_rfl, by show (31 : Nat) < 1000000; decide, fun _ => by kernel_rfl, by kernel_rfl⟩
theorem fx_ref01_SameInts : FxOK Go.Proofs.Tryz.prog r_ref01_SameInts.X := ⟨by kernel_rfl, by kernel_rfl, by kernel_rfl, by show (32 : Nat) < 1000000; decide, fun _ => by kernel_rfl, by kernel_rfl⟩
theorem fx_plan_Uses : FxOK Go.Proofs.Tryz.prog r_plan_Uses.X := ⟨by kernel_rfl, by kernel_rfl, by kernel_rfl, by show (33 : Nat) < 1000000; decide, fun _ => by kernel_rfl, by kernel_rfl⟩
theorem fx_ref23_Uses : FxOK Go.Proofs.Tryz.prog r_ref23_Uses.X := ⟨by kernel_rfl, by kernel_rfl, by kernel_rfl, by show (34 : Nat) < 1000000; decide, fun _ => by kernel_rfl, by kernel_rfl⟩
theorem fx_ref23_Encode : FxOK Go.Proofs.Tryz.prog r_ref23_Encode.X := ⟨by kernel_rfl, by kernel_rfl, by kernel_rfl, by show (35 : Nat) < 1000000; decide, fun _ => by kernel_rfl, by kernel_rfl⟩
theorem fx_law23_mustCompile : FxOK Go.Proofs.Tryz.prog r_law23_mustCompile.X := ⟨by kernel_rfl, by kernel_rfl, by kernel_rfl, by show (36 : Nat) < 1000000; decide, fun _ => by kernel_rfl, by kernel_rfl⟩
theorem fx_ref01_Few : FxOK Go.Proofs.Tryz.prog r_ref01_Few.X := ⟨by kernel_rfl, by kernel_rfl, by kernel_rfl, by show (37 : Nat) < 1000000; decide, fun _ => by kernel_rfl, by kernel_rfl⟩
theorem fx_law23_decodes : FxOK Go.Proofs.Tryz.prog r_law23_decodes.X := ⟨by kernel_rfl, by kernel_rfl, by kernel_rfl, by show (38 : Nat) < 1000000; decide, fun _ => by kernel_rfl, by kernel_rfl⟩
theorem fx_plan_Tree : FxOK Go.Proofs.Tryz.prog r_plan_Tree.X := ⟨by kernel_rfl, by kernel_rfl, by kernel_rfl, by show (39 : Nat) < 1000000; decide, fun _ => by kernel_rfl, by kernel_rfl⟩
theorem fx_plan_Encode : FxOK Go.Proofs.Tryz.prog r_plan_Encode.X := ⟨by kernel_rfl, by kernel_rfl, by kernel_rfl, by show (40 : Nat) < 1000000; decide, fun _ => by kernel_rfl, by kernel_rfl⟩
theorem fx_parser_Equal : FxOK Go.Proofs.Tryz.prog r_parser_Equal.X := ⟨by kernel_rfl, by kernel_rfl, by kernel_rfl, by show (42 : Nat) < 1000000; decide, fun _ => by kernel_rfl, by kernel_rfl⟩
theorem fx_parser_Nodes : FxOK Go.Proofs.Tryz.prog r_parser_Nodes.X := ⟨by kernel_rfl, by kernel_rfl, by kernel_rfl, by show (43 : Nat) < 1000000; decide, fun _ => by kernel_rfl, by kernel_rfl⟩
theorem fx_ref23_Same : FxOK Go.Proofs.Tryz.prog r_ref23_Same.X := ⟨by kernel_rfl, by kernel_rfl, by kernel_rfl, by show (44 : Nat) < 1000000; decide, fun _ => by kernel_rfl, by kernel_rfl⟩
theorem fx_ref01_SameBytes : FxOK Go.Proofs.Tryz.prog r_ref01_SameBytes.X := ⟨by kernel_rfl, by kernel_rfl, by kernel_rfl, by show (45 : Nat) < 1000000; decide, fun _ => by kernel_rfl, by kernel_rfl⟩
theorem fx_ref07_changed : FxOK Go.Proofs.Tryz.prog r_ref07_changed.X := ⟨by kernel_rfl, by kernel_rfl, by kernel_rfl, by show (46 : Nat) < 1000000; decide, fun _ => by kernel_rfl, by kernel_rfl⟩
theorem fx_parser_Parse : FxOK Go.Proofs.Tryz.prog r_parser_Parse.X := ⟨by kernel_rfl, by kernel_rfl, by kernel_rfl, by show (47 : Nat) < 1000000; decide, fun _ => by kernel_rfl, by kernel_rfl⟩
theorem fx_ref07_Valid : FxOK Go.Proofs.Tryz.prog r_ref07_Valid.X := ⟨by kernel_rfl, by kernel_rfl, by kernel_rfl, by show (48 : Nat) < 1000000; decide, fun _ => by kernel_rfl, by kernel_rfl⟩
theorem fx_ref23_postfix : FxOK Go.Proofs.Tryz.prog r_ref23_postfix.X := ⟨by kernel_rfl, by kernel_rfl, by kernel_rfl, by show (49 : Nat) < 1000000; decide, fun _ => by kernel_rfl, by kernel_rfl⟩
theorem fx_ref01_Short : FxOK Go.Proofs.Tryz.prog r_ref01_Short.X := ⟨by kernel_rfl, by kernel_rfl, by kernel_rfl, by show (50 : Nat) < 1000000; decide, fun _ => by kernel_rfl, by kernel_rfl⟩
theorem fx_ref23_Tree : FxOK Go.Proofs.Tryz.prog r_ref23_Tree.X := ⟨by kernel_rfl, by kernel_rfl, by kernel_rfl, by show (51 : Nat) < 1000000; decide, fun _ => by kernel_rfl, by kernel_rfl⟩
theorem fx_ref07_Equal : FxOK Go.Proofs.Tryz.prog r_ref07_Equal.X := ⟨by kernel_rfl, by kernel_rfl, by kernel_rfl, by show (52 : Nat) < 1000000; decide, fun _ => by kernel_rfl, by kernel_rfl⟩
theorem fx_ref07_G_expr : FxOK Go.Proofs.Tryz.prog r_ref07_G_expr.X := ⟨by kernel_rfl, by kernel_rfl, by kernel_rfl, by show (53 : Nat) < 1000000; decide, fun _ => by kernel_rfl, by kernel_rfl⟩
theorem fx_parser_Valid : FxOK Go.Proofs.Tryz.prog r_parser_Valid.X := ⟨by kernel_rfl, by kernel_rfl, by kernel_rfl, by show (54 : Nat) < 1000000; decide, fun _ => by kernel_rfl, by kernel_rfl⟩
theorem fx_plan_postfix : FxOK Go.Proofs.Tryz.prog r_plan_postfix.X := ⟨by kernel_rfl, by kernel_rfl, by kernel_rfl, by show (55 : Nat) < 1000000; decide, fun _ => by kernel_rfl, by kernel_rfl⟩
theorem fx_ref01_Pick : FxOK Go.Proofs.Tryz.prog r_ref01_Pick.X := ⟨by kernel_rfl, by kernel_rfl, by kernel_rfl, by show (58 : Nat) < 1000000; decide, fun _ => by kernel_rfl, by kernel_rfl⟩
theorem fx_ref05_Set : FxOK Go.Proofs.Tryz.prog r_ref05_Set.X := ⟨by kernel_rfl, by kernel_rfl, by kernel_rfl, by show (59 : Nat) < 1000000; decide, fun _ => by kernel_rfl, by kernel_rfl⟩
theorem fx_labels_Match : FxOK Go.Proofs.Tryz.prog r_labels_Match.X := ⟨by kernel_rfl, by kernel_rfl, by kernel_rfl, by show (60 : Nat) < 1000000; decide, fun _ => by kernel_rfl, by kernel_rfl⟩
theorem fx_ref08_Selects : FxOK Go.Proofs.Tryz.prog r_ref08_Selects.X := ⟨by kernel_rfl, by kernel_rfl, by kernel_rfl, by show (61 : Nat) < 1000000; decide, fun _ => by kernel_rfl, by kernel_rfl⟩
theorem fx_ref23_node : FxOK Go.Proofs.Tryz.prog r_ref23_node.X := ⟨by kernel_rfl, by kernel_rfl, by kernel_rfl, by show (62 : Nat) < 1000000; decide, fun _ => by kernel_rfl, by kernel_rfl⟩
theorem fx_ref23_write : FxOK Go.Proofs.Tryz.prog r_ref23_write.X := ⟨by kernel_rfl, by kernel_rfl, by kernel_rfl, by show (63 : Nat) < 1000000; decide, fun _ => by kernel_rfl, by kernel_rfl⟩
theorem fx_ref23_Decode : FxOK Go.Proofs.Tryz.prog r_ref23_Decode.X := ⟨by kernel_rfl, by kernel_rfl, by kernel_rfl, by show (64 : Nat) < 1000000; decide, fun _ => by kernel_rfl, by kernel_rfl⟩
theorem fx_plan_ints : FxOK Go.Proofs.Tryz.prog r_plan_ints.X := ⟨by kernel_rfl, by kernel_rfl, by kernel_rfl, by show (66 : Nat) < 1000000; decide, fun _ => by kernel_rfl, by kernel_rfl⟩
theorem fx_wire_Writer_Text : FxOK Go.Proofs.Tryz.prog r_wire_Writer_Text.X := ⟨by kernel_rfl, by kernel_rfl, by kernel_rfl, by show (67 : Nat) < 1000000; decide, fun _ => by kernel_rfl, by kernel_rfl⟩
theorem fx_wire_Writer_Done : FxOK Go.Proofs.Tryz.prog r_wire_Writer_Done.X := ⟨by kernel_rfl, by kernel_rfl, by kernel_rfl, by show (68 : Nat) < 1000000; decide, fun _ => by kernel_rfl, by kernel_rfl⟩
theorem fx_wire_Read : FxOK Go.Proofs.Tryz.prog r_wire_Read.X := ⟨by kernel_rfl, by kernel_rfl, by kernel_rfl, by show (69 : Nat) < 1000000; decide, fun _ => by kernel_rfl, by kernel_rfl⟩
theorem fx_plan_count : FxOK Go.Proofs.Tryz.prog r_plan_count.X := ⟨by kernel_rfl, by kernel_rfl, by kernel_rfl, by show (70 : Nat) < 1000000; decide, fun _ => by kernel_rfl, by kernel_rfl⟩
theorem fx_wire_Reader_Int : FxOK Go.Proofs.Tryz.prog r_wire_Reader_Int.X := ⟨by kernel_rfl, by kernel_rfl, by kernel_rfl, by show (71 : Nat) < 1000000; decide, fun _ => by kernel_rfl, by kernel_rfl⟩
theorem fx_wire_Reader_Text : FxOK Go.Proofs.Tryz.prog r_wire_Reader_Text.X := ⟨by kernel_rfl, by kernel_rfl, by kernel_rfl, by show (72 : Nat) < 1000000; decide, fun _ => by kernel_rfl, by kernel_rfl⟩
theorem fx_bytes_Equal : FxOK Go.Proofs.Tryz.prog r_bytes_Equal.X := ⟨by kernel_rfl, by kernel_rfl, by kernel_rfl, by show (73 : Nat) < 1000000; decide, fun _ => by kernel_rfl, by kernel_rfl⟩
theorem fx_slices_Equal_Matcher : FxOK Go.Proofs.Tryz.prog r_slices_Equal_Matcher.X := ⟨by kernel_rfl, by kernel_rfl, by kernel_rfl, by show (74 : Nat) < 1000000; decide, fun _ => by kernel_rfl, by kernel_rfl⟩
theorem fx_slices_Equal_string : FxOK Go.Proofs.Tryz.prog r_slices_Equal_string.X := ⟨by kernel_rfl, by kernel_rfl, by kernel_rfl, by show (75 : Nat) < 1000000; decide, fun _ => by kernel_rfl, by kernel_rfl⟩
theorem fx_slices_EqualFunc_Expr : FxOK Go.Proofs.Tryz.prog r_slices_EqualFunc_Expr.X := ⟨by kernel_rfl, by kernel_rfl, by kernel_rfl, by show (76 : Nat) < 1000000; decide, fun _ => by kernel_rfl, by kernel_rfl⟩
theorem fx_ref23_SameIns : FxOK Go.Proofs.Tryz.prog r_ref23_SameIns.X := ⟨by kernel_rfl, by kernel_rfl, by kernel_rfl, by show (77 : Nat) < 1000000; decide, fun _ => by kernel_rfl, by kernel_rfl⟩
theorem fx_lexer_Tokens : FxOK Go.Proofs.Tryz.prog r_lexer_Tokens.X := ⟨by kernel_rfl, by kernel_rfl, by kernel_rfl, by show (78 : Nat) < 1000000; decide, fun _ => by kernel_rfl, by kernel_rfl⟩
theorem fx_parser_reader_expression : FxOK Go.Proofs.Tryz.prog r_parser_reader_expression.X := ⟨by kernel_rfl, by kernel_rfl, by kernel_rfl, by show (80 : Nat) < 1000000; decide, fun _ => by kernel_rfl, by kernel_rfl⟩
theorem fx_parser_reader_fail : FxOK Go.Proofs.Tryz.prog r_parser_reader_fail.X := ⟨by kernel_rfl, by kernel_rfl, by kernel_rfl, by show (81 : Nat) < 1000000; decide, fun _ => by kernel_rfl, by kernel_rfl⟩
theorem fx_parser_tooLarge : FxOK Go.Proofs.Tryz.prog r_parser_tooLarge.X := ⟨by kernel_rfl, by kernel_rfl, by kernel_rfl, by show (82 : Nat) < 1000000; decide, fun _ => by kernel_rfl, by kernel_rfl⟩
theorem fx_ref07_Depth : FxOK Go.Proofs.Tryz.prog r_ref07_Depth.X := ⟨by kernel_rfl, by kernel_rfl, by kernel_rfl, by show (83 : Nat) < 1000000; decide, fun _ => by kernel_rfl, by kernel_rfl⟩
theorem fx_ref07_Nodes : FxOK Go.Proofs.Tryz.prog r_ref07_Nodes.X := ⟨by kernel_rfl, by kernel_rfl, by kernel_rfl, by show (84 : Nat) < 1000000; decide, fun _ => by kernel_rfl, by kernel_rfl⟩
theorem fx_ref07_valid : FxOK Go.Proofs.Tryz.prog r_ref07_valid.X := ⟨by kernel_rfl, by kernel_rfl, by kernel_rfl, by show (85 : Nat) < 1000000; decide, fun _ => by kernel_rfl, by kernel_rfl⟩
theorem fx_ref23_Ins : FxOK Go.Proofs.Tryz.prog r_ref23_Ins.X := ⟨by kernel_rfl, by kernel_rfl, by kernel_rfl, by show (86 : Nat) < 1000000; decide, fun _ => by kernel_rfl, by kernel_rfl⟩
theorem fx_ref07_sameMatchers : FxOK Go.Proofs.Tryz.prog r_ref07_sameMatchers.X := ⟨by kernel_rfl, by kernel_rfl, by kernel_rfl, by show (87 : Nat) < 1000000; decide, fun _ => by kernel_rfl, by kernel_rfl⟩
theorem fx_ref01_SameTexts : FxOK Go.Proofs.Tryz.prog r_ref01_SameTexts.X := ⟨by kernel_rfl, by kernel_rfl, by kernel_rfl, by show (88 : Nat) < 1000000; decide, fun _ => by kernel_rfl, by kernel_rfl⟩
theorem fx_ref07_G_next : FxOK Go.Proofs.Tryz.prog r_ref07_G_next.X := ⟨by kernel_rfl, by kernel_rfl, by kernel_rfl, by show (89 : Nat) < 1000000; decide, fun _ => by kernel_rfl, by kernel_rfl⟩
theorem fx_ref07_G_selection : FxOK Go.Proofs.Tryz.prog r_ref07_G_selection.X := ⟨by kernel_rfl, by kernel_rfl, by kernel_rfl, by show (90 : Nat) < 1000000; decide, fun _ => by kernel_rfl, by kernel_rfl⟩
theorem fx_ref07_G_group : FxOK Go.Proofs.Tryz.prog r_ref07_G_group.X := ⟨by kernel_rfl, by kernel_rfl, by kernel_rfl, by show (91 : Nat) < 1000000; decide, fun _ => by kernel_rfl, by kernel_rfl⟩
theorem fx_parser_valid : FxOK Go.Proofs.Tryz.prog r_parser_valid.X := ⟨by kernel_rfl, by kernel_rfl, by kernel_rfl, by show (92 : Nat) < 1000000; decide, fun _ => by kernel_rfl, by kernel_rfl⟩
theorem fx_plan_postfix_1 : FxOK Go.Proofs.Tryz.prog r_plan_postfix_1.X := ⟨by kernel_rfl, by kernel_rfl, by kernel_rfl, by show (93 : Nat) < 1000000; decide, fun _ => by kernel_rfl, by kernel_rfl⟩
theorem fx_plan_visit : FxOK Go.Proofs.Tryz.prog r_plan_visit.X := ⟨by kernel_rfl, by kernel_rfl, by kernel_rfl, by show (94 : Nat) < 1000000; decide, fun _ => by kernel_rfl, by kernel_rfl⟩
theorem fx_ref05_Names : FxOK Go.Proofs.Tryz.prog r_ref05_Names.X := ⟨by kernel_rfl, by kernel_rfl, by kernel_rfl, by show (95 : Nat) < 1000000; decide, fun _ => by kernel_rfl, by kernel_rfl⟩
theorem fx_ref05_values : FxOK Go.Proofs.Tryz.prog r_ref05_values.X := ⟨by kernel_rfl, by kernel_rfl, by kernel_rfl, by show (96 : Nat) < 1000000; decide, fun _ => by kernel_rfl, by kernel_rfl⟩
theorem fx_labels_Get : FxOK Go.Proofs.Tryz.prog r_labels_Get.X := ⟨by kernel_rfl, by kernel_rfl, by kernel_rfl, by show (97 : Nat) < 1000000; decide, fun _ => by kernel_rfl, by kernel_rfl⟩
theorem fx_ref05_Match : FxOK Go.Proofs.Tryz.prog r_ref05_Match.X := ⟨by kernel_rfl, by kernel_rfl, by kernel_rfl, by show (99 : Nat) < 1000000; decide, fun _ => by kernel_rfl, by kernel_rfl⟩
theorem fx_ref02_Int : FxOK Go.Proofs.Tryz.prog r_ref02_Int.X := ⟨by kernel_rfl, by kernel_rfl, by kernel_rfl, by show (100 : Nat) < 1000000; decide, fun _ => by kernel_rfl, by kernel_rfl⟩
theorem fx_ref02_Raw : FxOK Go.Proofs.Tryz.prog r_ref02_Raw.X := ⟨by kernel_rfl, by kernel_rfl, by kernel_rfl, by show (101 : Nat) < 1000000; decide, fun _ => by kernel_rfl, by kernel_rfl⟩
theorem fx_ref02_Reader_Int : FxOK Go.Proofs.Tryz.prog r_ref02_Reader_Int.X := ⟨by kernel_rfl, by kernel_rfl, by kernel_rfl, by show (102 : Nat) < 1000000; decide, fun _ => by kernel_rfl, by kernel_rfl⟩
theorem fx_ref23_read : FxOK Go.Proofs.Tryz.prog r_ref23_read.X := ⟨by kernel_rfl, by kernel_rfl, by kernel_rfl, by show (103 : Nat) < 1000000; decide, fun _ => by kernel_rfl, by kernel_rfl⟩
theorem fx_wire_Writer_Int : FxOK Go.Proofs.Tryz.prog r_wire_Writer_Int.X := ⟨by kernel_rfl, by kernel_rfl, by kernel_rfl, by show (104 : Nat) < 1000000; decide, fun _ => by kernel_rfl, by kernel_rfl⟩
theorem fx_wire_Writer_Uint : FxOK Go.Proofs.Tryz.prog r_wire_Writer_Uint.X := ⟨by kernel_rfl, by kernel_rfl, by kernel_rfl, by show (105 : Nat) < 1000000; decide, fun _ => by kernel_rfl, by kernel_rfl⟩
theorem fx_wire_unzigzag : FxOK Go.Proofs.Tryz.prog r_wire_unzigzag.X := ⟨by kernel_rfl, by kernel_rfl, by kernel_rfl, by show (107 : Nat) < 1000000; decide, fun _ => by kernel_rfl, by kernel_rfl⟩
theorem fx_wire_Reader_Uint : FxOK Go.Proofs.Tryz.prog r_wire_Reader_Uint.X := ⟨by kernel_rfl, by kernel_rfl, by kernel_rfl, by show (108 : Nat) < 1000000; decide, fun _ => by kernel_rfl, by kernel_rfl⟩
theorem fx_wire_Reader_Raw : FxOK Go.Proofs.Tryz.prog r_wire_Reader_Raw.X := ⟨by kernel_rfl, by kernel_rfl, by kernel_rfl, by show (109 : Nat) < 1000000; decide, fun _ => by kernel_rfl, by kernel_rfl⟩
theorem fx_lexer_scanner_all : FxOK Go.Proofs.Tryz.prog r_lexer_scanner_all.X := ⟨by kernel_rfl, by kernel_rfl, by kernel_rfl, by show (110 : Nat) < 1000000; decide, fun _ => by kernel_rfl, by kernel_rfl⟩
theorem fx_parser_reader_term : FxOK Go.Proofs.Tryz.prog r_parser_reader_term.X := ⟨by kernel_rfl, by kernel_rfl, by kernel_rfl, by show (111 : Nat) < 1000000; decide, fun _ => by kernel_rfl, by kernel_rfl⟩
theorem fx_parser_reader_accept : FxOK Go.Proofs.Tryz.prog r_parser_reader_accept.X := ⟨by kernel_rfl, by kernel_rfl, by kernel_rfl, by show (112 : Nat) < 1000000; decide, fun _ => by kernel_rfl, by kernel_rfl⟩
theorem fx_parser_binary : FxOK Go.Proofs.Tryz.prog r_parser_binary.X := ⟨by kernel_rfl, by kernel_rfl, by kernel_rfl, by show (113 : Nat) < 1000000; decide, fun _ => by kernel_rfl, by kernel_rfl⟩
theorem fx_parser_Depth : FxOK Go.Proofs.Tryz.prog r_parser_Depth.X := ⟨by kernel_rfl, by kernel_rfl, by kernel_rfl, by show (114 : Nat) < 1000000; decide, fun _ => by kernel_rfl, by kernel_rfl⟩
theorem fx_ref07_shaped : FxOK Go.Proofs.Tryz.prog r_ref07_shaped.X := ⟨by kernel_rfl, by kernel_rfl, by kernel_rfl, by show (115 : Nat) < 1000000; decide, fun _ => by kernel_rfl, by kernel_rfl⟩
theorem fx_ref07_named : FxOK Go.Proofs.Tryz.prog r_ref07_named.X := ⟨by kernel_rfl, by kernel_rfl, by kernel_rfl, by show (116 : Nat) < 1000000; decide, fun _ => by kernel_rfl, by kernel_rfl⟩
theorem fx_ref07_within : FxOK Go.Proofs.Tryz.prog r_ref07_within.X := ⟨by kernel_rfl, by kernel_rfl, by kernel_rfl, by show (117 : Nat) < 1000000; decide, fun _ => by kernel_rfl, by kernel_rfl⟩
theorem fx_ref05_Matchers : FxOK Go.Proofs.Tryz.prog r_ref05_Matchers.X := ⟨by kernel_rfl, by kernel_rfl, by kernel_rfl, by show (118 : Nat) < 1000000; decide, fun _ => by kernel_rfl, by kernel_rfl⟩
theorem fx_parser_shaped : FxOK Go.Proofs.Tryz.prog r_parser_shaped.X := ⟨by kernel_rfl, by kernel_rfl, by kernel_rfl, by show (119 : Nat) < 1000000; decide, fun _ => by kernel_rfl, by kernel_rfl⟩
theorem fx_parser_named : FxOK Go.Proofs.Tryz.prog r_parser_named.X := ⟨by kernel_rfl, by kernel_rfl, by kernel_rfl, by show (120 : Nat) < 1000000; decide, fun _ => by kernel_rfl, by kernel_rfl⟩
theorem fx_parser_ranged : FxOK Go.Proofs.Tryz.prog r_parser_ranged.X := ⟨by kernel_rfl, by kernel_rfl, by kernel_rfl, by show (121 : Nat) < 1000000; decide, fun _ => by kernel_rfl, by kernel_rfl⟩
theorem fx_ref05_holds : FxOK Go.Proofs.Tryz.prog r_ref05_holds.X := ⟨by kernel_rfl, by kernel_rfl, by kernel_rfl, by show (123 : Nat) < 1000000; decide, fun _ => by kernel_rfl, by kernel_rfl⟩
theorem fx_ref05_Get : FxOK Go.Proofs.Tryz.prog r_ref05_Get.X := ⟨by kernel_rfl, by kernel_rfl, by kernel_rfl, by show (124 : Nat) < 1000000; decide, fun _ => by kernel_rfl, by kernel_rfl⟩
theorem fx_ref02_Uint : FxOK Go.Proofs.Tryz.prog r_ref02_Uint.X := ⟨by kernel_rfl, by kernel_rfl, by kernel_rfl, by show (125 : Nat) < 1000000; decide, fun _ => by kernel_rfl, by kernel_rfl⟩
theorem fx_ref02_Zigzag : FxOK Go.Proofs.Tryz.prog r_ref02_Zigzag.X := ⟨by kernel_rfl, by kernel_rfl, by kernel_rfl, by show (126 : Nat) < 1000000; decide, fun _ => by kernel_rfl, by kernel_rfl⟩
theorem fx_ref02_Back : FxOK Go.Proofs.Tryz.prog r_ref02_Back.X := ⟨by kernel_rfl, by kernel_rfl, by kernel_rfl, by show (127 : Nat) < 1000000; decide, fun _ => by kernel_rfl, by kernel_rfl⟩
theorem fx_ref02_Reader_Uint : FxOK Go.Proofs.Tryz.prog r_ref02_Reader_Uint.X := ⟨by kernel_rfl, by kernel_rfl, by kernel_rfl, by show (128 : Nat) < 1000000; decide, fun _ => by kernel_rfl, by kernel_rfl⟩
theorem fx_ref02_Reader_Raw : FxOK Go.Proofs.Tryz.prog r_ref02_Reader_Raw.X := ⟨by kernel_rfl, by kernel_rfl, by kernel_rfl, by show (129 : Nat) < 1000000; decide, fun _ => by kernel_rfl, by kernel_rfl⟩
theorem fx_wire_zigzag : FxOK Go.Proofs.Tryz.prog r_wire_zigzag.X := ⟨by kernel_rfl, by kernel_rfl, by kernel_rfl, by show (130 : Nat) < 1000000; decide, fun _ => by kernel_rfl, by kernel_rfl⟩
theorem fx_wire_Reader_next : FxOK Go.Proofs.Tryz.prog r_wire_Reader_next.X := ⟨by kernel_rfl, by kernel_rfl, by kernel_rfl, by show (131 : Nat) < 1000000; decide, fun _ => by kernel_rfl, by kernel_rfl⟩
theorem fx_wire_Reader_fail : FxOK Go.Proofs.Tryz.prog r_wire_Reader_fail.X := ⟨by kernel_rfl, by kernel_rfl, by kernel_rfl, by show (132 : Nat) < 1000000; decide, fun _ => by kernel_rfl, by kernel_rfl⟩
theorem fx_wire_list_byte : FxOK Go.Proofs.Tryz.prog r_wire_list_byte.X := ⟨by kernel_rfl, by kernel_rfl, by kernel_rfl, by show (133 : Nat) < 1000000; decide, fun _ => by kernel_rfl, by kernel_rfl⟩
theorem fx_lexer_token : FxOK Go.Proofs.Tryz.prog r_lexer_token.X := ⟨by kernel_rfl, by kernel_rfl, by kernel_rfl, by show (135 : Nat) < 1000000; decide, fun _ => by kernel_rfl, by kernel_rfl⟩
theorem fx_parser_reader_factor : FxOK Go.Proofs.Tryz.prog r_parser_reader_factor.X := ⟨by kernel_rfl, by kernel_rfl, by kernel_rfl, by show (136 : Nat) < 1000000; decide, fun _ => by kernel_rfl, by kernel_rfl⟩
theorem fx_parser_reader_is : FxOK Go.Proofs.Tryz.prog r_parser_reader_is.X := ⟨by kernel_rfl, by kernel_rfl, by kernel_rfl, by show (137 : Nat) < 1000000; decide, fun _ => by kernel_rfl, by kernel_rfl⟩
theorem fx_ref03_Valid : FxOK Go.Proofs.Tryz.prog r_ref03_Valid.X := ⟨by kernel_rfl, by kernel_rfl, by kernel_rfl, by show (138 : Nat) < 1000000; decide, fun _ => by kernel_rfl, by kernel_rfl⟩
theorem fx_ref05_Name : FxOK Go.Proofs.Tryz.prog r_ref05_Name.X := ⟨by kernel_rfl, by kernel_rfl, by kernel_rfl, by show (139 : Nat) < 1000000; decide, fun _ => by kernel_rfl, by kernel_rfl⟩
theorem fx_ref07_find : FxOK Go.Proofs.Tryz.prog r_ref07_find.X := ⟨by kernel_rfl, by kernel_rfl, by kernel_rfl, by show (140 : Nat) < 1000000; decide, fun _ => by kernel_rfl, by kernel_rfl⟩
theorem fx_ref07_Groups : FxOK Go.Proofs.Tryz.prog r_ref07_Groups.X := ⟨by kernel_rfl, by kernel_rfl, by kernel_rfl, by show (141 : Nat) < 1000000; decide, fun _ => by kernel_rfl, by kernel_rfl⟩
theorem fx_ref05_ValidMatcher : FxOK Go.Proofs.Tryz.prog r_ref05_ValidMatcher.X := ⟨by kernel_rfl, by kernel_rfl, by kernel_rfl, by show (142 : Nat) < 1000000; decide, fun _ => by kernel_rfl, by kernel_rfl⟩
theorem fx_frac_Valid : FxOK Go.Proofs.Tryz.prog r_frac_Valid.X := ⟨by kernel_rfl, by kernel_rfl, by kernel_rfl, by show (143 : Nat) < 1000000; decide, fun _ => by kernel_rfl, by kernel_rfl⟩
theorem fx_labels_Name : FxOK Go.Proofs.Tryz.prog r_labels_Name.X := ⟨by kernel_rfl, by kernel_rfl, by kernel_rfl, by show (144 : Nat) < 1000000; decide, fun _ => by kernel_rfl, by kernel_rfl⟩
theorem fx_slices_Contains_string : FxOK Go.Proofs.Tryz.prog r_slices_Contains_string.X := ⟨by kernel_rfl, by kernel_rfl, by kernel_rfl, by show (145 : Nat) < 1000000; decide, fun _ => by kernel_rfl, by kernel_rfl⟩
theorem fx_labels_ValidMatcher : FxOK Go.Proofs.Tryz.prog r_labels_ValidMatcher.X := ⟨by kernel_rfl, by kernel_rfl, by kernel_rfl, by show (146 : Nat) < 1000000; decide, fun _ => by kernel_rfl, by kernel_rfl⟩
theorem fx_parser_between : FxOK Go.Proofs.Tryz.prog r_parser_between.X := ⟨by kernel_rfl, by kernel_rfl, by kernel_rfl, by show (147 : Nat) < 1000000; decide, fun _ => by kernel_rfl, by kernel_rfl⟩
theorem fx_ref02_Reader_length : FxOK Go.Proofs.Tryz.prog r_ref02_Reader_length.X := ⟨by kernel_rfl, by kernel_rfl, by kernel_rfl, by show (148 : Nat) < 1000000; decide, fun _ => by kernel_rfl, by kernel_rfl⟩
theorem fx_lexer_prefix : FxOK Go.Proofs.Tryz.prog r_lexer_prefix.X := ⟨by kernel_rfl, by kernel_rfl, by kernel_rfl, by show (154 : Nat) < 1000000; decide, fun _ => by kernel_rfl, by kernel_rfl⟩
theorem fx_lexer_number : FxOK Go.Proofs.Tryz.prog r_lexer_number.X := ⟨by kernel_rfl, by kernel_rfl, by kernel_rfl, by show (155 : Nat) < 1000000; decide, fun _ => by kernel_rfl, by kernel_rfl⟩
theorem fx_lexer_quoted : FxOK Go.Proofs.Tryz.prog r_lexer_quoted.X := ⟨by kernel_rfl, by kernel_rfl, by kernel_rfl, by show (156 : Nat) < 1000000; decide, fun _ => by kernel_rfl, by kernel_rfl⟩
theorem fx_parser_reader_expect : FxOK Go.Proofs.Tryz.prog r_parser_reader_expect.X := ⟨by kernel_rfl, by kernel_rfl, by kernel_rfl, by show (157 : Nat) < 1000000; decide, fun _ => by kernel_rfl, by kernel_rfl⟩
theorem fx_parser_reader_number : FxOK Go.Proofs.Tryz.prog r_parser_reader_number.X := ⟨by kernel_rfl, by kernel_rfl, by kernel_rfl, by show (158 : Nat) < 1000000; decide, fun _ => by kernel_rfl, by kernel_rfl⟩
theorem fx_parser_reader_peek : FxOK Go.Proofs.Tryz.prog r_parser_reader_peek.X := ⟨by kernel_rfl, by kernel_rfl, by kernel_rfl, by show (159 : Nat) < 1000000; decide, fun _ => by kernel_rfl, by kernel_rfl⟩
theorem fx_parser_reader_group : FxOK Go.Proofs.Tryz.prog r_parser_reader_group.X := ⟨by kernel_rfl, by kernel_rfl, by kernel_rfl, by show (160 : Nat) < 1000000; decide, fun _ => by kernel_rfl, by kernel_rfl⟩
theorem fx_parser_reader_selection : FxOK Go.Proofs.Tryz.prog r_parser_reader_selection.X := ⟨by kernel_rfl, by kernel_rfl, by kernel_rfl, by show (161 : Nat) < 1000000; decide, fun _ => by kernel_rfl, by kernel_rfl⟩
theorem fx_ref03_New : FxOK Go.Proofs.Tryz.prog r_ref03_New.X := ⟨by kernel_rfl, by kernel_rfl, by kernel_rfl, by show (162 : Nat) < 1000000; decide, fun _ => by kernel_rfl, by kernel_rfl⟩
theorem fx_ref05_letter : FxOK Go.Proofs.Tryz.prog r_ref05_letter.X := ⟨by kernel_rfl, by kernel_rfl, by kernel_rfl, by show (163 : Nat) < 1000000; decide, fun _ => by kernel_rfl, by kernel_rfl⟩
theorem fx_ref05_Value : FxOK Go.Proofs.Tryz.prog r_ref05_Value.X := ⟨by kernel_rfl, by kernel_rfl, by kernel_rfl, by show (164 : Nat) < 1000000; decide, fun _ => by kernel_rfl, by kernel_rfl⟩
theorem fx_frac_size : FxOK Go.Proofs.Tryz.prog r_frac_size.X := ⟨by kernel_rfl, by kernel_rfl, by kernel_rfl, by show (165 : Nat) < 1000000; decide, fun _ => by kernel_rfl, by kernel_rfl⟩
theorem fx_frac_gcd_uint64 : FxOK Go.Proofs.Tryz.prog r_frac_gcd_uint64.X := ⟨by kernel_rfl, by kernel_rfl, by kernel_rfl, by show (166 : Nat) < 1000000; decide, fun _ => by kernel_rfl, by kernel_rfl⟩
theorem fx_slices_Index_string : FxOK Go.Proofs.Tryz.prog r_slices_Index_string.X := ⟨by kernel_rfl, by kernel_rfl, by kernel_rfl, by show (167 : Nat) < 1000000; decide, fun _ => by kernel_rfl, by kernel_rfl⟩
theorem fx_labels_Value : FxOK Go.Proofs.Tryz.prog r_labels_Value.X := ⟨by kernel_rfl, by kernel_rfl, by kernel_rfl, by show (168 : Nat) < 1000000; decide, fun _ => by kernel_rfl, by kernel_rfl⟩
theorem fx_strings_Cut : FxOK Go.Proofs.Tryz.prog r_strings_Cut.X := ⟨by kernel_rfl, by kernel_rfl, by kernel_rfl, by show (173 : Nat) < 1000000; decide, fun _ => by kernel_rfl, by kernel_rfl⟩
theorem fx_parser_reader_take : FxOK Go.Proofs.Tryz.prog r_parser_reader_take.X := ⟨by kernel_rfl, by kernel_rfl, by kernel_rfl, by show (174 : Nat) < 1000000; decide, fun _ => by kernel_rfl, by kernel_rfl⟩
theorem fx_parser_reader_matcher : FxOK Go.Proofs.Tryz.prog r_parser_reader_matcher.X := ⟨by kernel_rfl, by kernel_rfl, by kernel_rfl, by show (178 : Nat) < 1000000; decide, fun _ => by kernel_rfl, by kernel_rfl⟩
theorem fx_parser_reader_function : FxOK Go.Proofs.Tryz.prog r_parser_reader_function.X := ⟨by kernel_rfl, by kernel_rfl, by kernel_rfl, by show (179 : Nat) < 1000000; decide, fun _ => by kernel_rfl, by kernel_rfl⟩
theorem fx_ref03_Size : FxOK Go.Proofs.Tryz.prog r_ref03_Size.X := ⟨by kernel_rfl, by kernel_rfl, by kernel_rfl, by show (180 : Nat) < 1000000; decide, fun _ => by kernel_rfl, by kernel_rfl⟩
theorem fx_ref03_common : FxOK Go.Proofs.Tryz.prog r_ref03_common.X := ⟨by kernel_rfl, by kernel_rfl, by kernel_rfl, by show (181 : Nat) < 1000000; decide, fun _ => by kernel_rfl, by kernel_rfl⟩
theorem fx_stringslite_Cut : FxOK Go.Proofs.Tryz.prog r_stringslite_Cut.X := ⟨by kernel_rfl, by kernel_rfl, by kernel_rfl, by show (185 : Nat) < 1000000; decide, fun _ => by kernel_rfl, by kernel_rfl⟩
theorem fx_stringslite_Index : FxOK Go.Proofs.Tryz.prog r_stringslite_Index.X := ⟨by kernel_rfl, by kernel_rfl, by kernel_rfl, by show (189 : Nat) < 1000000; decide, fun _ => by kernel_rfl, by kernel_rfl⟩
theorem rows0_ok : ∀ r ∈ rows0, FxOK Go.Proofs.Tryz.prog r.X := AllFx.ok (show AllFx _ _ from ⟨fx_law23_PlanCompile, fx_law23_PlanTree, fx_law23_PlanLimits, fx_law23_PlanReach, fx_law23_PlanEncode, fx_law23_PlanUses, fx_law23_PlanDecode, fx_law23_PlanRound, fx_ref07_Expr, fx_law23_compiles, fx_ref07_Spoilt, fx_ref07_Cut, fx_law23_lives, fx_ref23_Compile, fx_ref23_Few, fx_ref23_Changed, fx_law23_rebuilds, fx_ref01_Around, fx_law23_balanced, fx_plan_Check, fx_ref23_Check, fx_ref07_Make, fx_plan_Compile, fx_ref23_Shifted, fx_plan_Reach, fx_ref23_Reach, fx_law23_encodes, fx_ref08_Decls, fx_ref08_Query, fx_ref01_SameInts, fx_plan_Uses, fx_ref23_Uses, fx_ref23_Encode, fx_law23_mustCompile, fx_ref01_Few, fx_law23_decodes, fx_plan_Tree, fx_plan_Encode, fx_parser_Equal, fx_parser_Nodes, fx_ref23_Same, fx_ref01_SameBytes, fx_ref07_changed, fx_parser_Parse, fx_ref07_Valid, fx_ref23_postfix, fx_ref01_Short, fx_ref23_Tree, fx_ref07_Equal, fx_ref07_G_expr, fx_parser_Valid, fx_plan_postfix, fx_ref01_Pick, fx_ref05_Set, fx_labels_Match, fx_ref08_Selects, fx_ref23_node, fx_ref23_write, fx_ref23_Decode, fx_plan_ints, fx_wire_Writer_Text, fx_wire_Writer_Done, fx_wire_Read, fx_plan_count, fx_wire_Reader_Int, fx_wire_Reader_Text, fx_bytes_Equal, fx_slices_Equal_Matcher, fx_slices_Equal_string, fx_slices_EqualFunc_Expr, fx_ref23_SameIns, fx_lexer_Tokens, fx_parser_reader_expression, fx_parser_reader_fail, fx_parser_tooLarge, fx_ref07_Depth, fx_ref07_Nodes, fx_ref07_valid, fx_ref23_Ins, fx_ref07_sameMatchers, fx_ref01_SameTexts, fx_ref07_G_next, fx_ref07_G_selection, fx_ref07_G_group, fx_parser_valid, fx_plan_postfix_1, fx_plan_visit, fx_ref05_Names, fx_ref05_values, fx_labels_Get, fx_ref05_Match, fx_ref02_Int, fx_ref02_Raw, fx_ref02_Reader_Int, fx_ref23_read, fx_wire_Writer_Int, fx_wire_Writer_Uint, fx_wire_unzigzag, fx_wire_Reader_Uint, fx_wire_Reader_Raw, fx_lexer_scanner_all, fx_parser_reader_term, fx_parser_reader_accept, fx_parser_binary, fx_parser_Depth, fx_ref07_shaped, fx_ref07_named, fx_ref07_within, fx_ref05_Matchers, fx_parser_shaped, fx_parser_named, fx_parser_ranged, fx_ref05_holds, fx_ref05_Get, fx_ref02_Uint, fx_ref02_Zigzag, fx_ref02_Back, fx_ref02_Reader_Uint, fx_ref02_Reader_Raw, fx_wire_zigzag, fx_wire_Reader_next, fx_wire_Reader_fail, fx_wire_list_byte, fx_lexer_token, fx_parser_reader_factor, fx_parser_reader_is, fx_ref03_Valid, fx_ref05_Name, fx_ref07_find, fx_ref07_Groups, fx_ref05_ValidMatcher, fx_frac_Valid, fx_labels_Name, fx_slices_Contains_string, fx_labels_ValidMatcher, fx_parser_between, fx_ref02_Reader_length, fx_lexer_prefix, fx_lexer_number, fx_lexer_quoted, fx_parser_reader_expect, fx_parser_reader_number, fx_parser_reader_peek, fx_parser_reader_group, fx_parser_reader_selection, fx_ref03_New, fx_ref05_letter, fx_ref05_Value, fx_frac_size, fx_frac_gcd_uint64, fx_slices_Index_string, fx_labels_Value, fx_strings_Cut, fx_parser_reader_take, fx_parser_reader_matcher, fx_parser_reader_function, fx_ref03_Size, fx_ref03_common, fx_stringslite_Cut, fx_stringslite_Index, trivial⟩)
theorem yx_plan_Compile : YxOK Go.Proofs.Tryz.prog y_plan_Compile := ⟨by kernel_rfl, by kernel_rfl, of_decide_eq_true (by kernel_rfl), by kernel_rfl, by kernel_rfl, by kernel_rfl⟩
theorem yx_lexer_Tokens : YxOK Go.Proofs.Tryz.prog y_lexer_Tokens := ⟨by kernel_rfl, by kernel_rfl, of_decide_eq_true (by kernel_rfl), by kernel_rfl, by kernel_rfl, by kernel_rfl⟩
theorem yields0_ok : ∀ y ∈ prg0.yields, YxOK Go.Proofs.Tryz.prog y := by
  intro y hy
  have hy : y ∈ [y_plan_Compile, y_lexer_Tokens] := hy
  simp only [List.mem_cons, List.not_mem_nil, or_false] at hy
  rcases hy with rfl | rfl
  · exact yx_plan_Compile
  · exact yx_lexer_Tokens
theorem mixed0 : Go.Proofs.Tryz.prog.follows .mixedOrders = true := by kernel_rfl
theorem glob0_ok : ∀ g v, assoc glob0 g = some v → lacks (fun _ => true) v = true := by
  intro g v h
  simp only [glob0, assoc] at h
  split at h
  · cases h; rfl
  split at h
  · cases h; rfl
  · cases h
theorem bodied0 : ∀ g ∈ prg0.G.bodied, ∃ fn c, Go.Proofs.Tryz.prog.funcs[g]? = some fn ∧ fn.body = some c ∧ (fn.name == "runtime.NumGoroutine") = false := by
  intro g hg
  have hg : g ∈ [93, 110] := hg
  simp only [List.mem_cons, List.not_mem_nil, or_false] at hg
  rcases hg with rfl | rfl
  · exact ⟨_, _, fx_plan_postfix_1.fn, fx_plan_postfix_1.body, fx_plan_postfix_1.name⟩
  · exact ⟨_, _, fx_lexer_scanner_all.fn, fx_lexer_scanner_all.body, fx_lexer_scanner_all.name⟩
end Go.AM
/-
  What the rows lean on: structs are compared cell by cell.
-/
namespace Go.AM
open Go Go.Proofs
set_option maxRecDepth 100000
theorem eqK_int {c : AV} {r : List AV} {ks : List Nat} (h : eqK (c :: r) = 0 :: ks) : ∃ n, c = .sc (.int .i64 n) ∧ eqK r = ks := by
  simp only [eqK, List.map_cons, List.cons.injEq] at h
  obtain ⟨h1, h2⟩ := h
  split at h1
  · exact ⟨_, rfl, h2⟩
  all_goals cases h1
theorem eqK_str {c : AV} {r : List AV} {ks : List Nat} (h : eqK (c :: r) = 1 :: ks) : ∃ s, c = .sc (.string s) ∧ eqK r = ks := by
  simp only [eqK, List.map_cons, List.cons.injEq] at h
  obtain ⟨h1, h2⟩ := h
  split at h1
  · cases h1
  · exact ⟨_, rfl, h2⟩
  all_goals cases h1
theorem eqCells_int {k : IntKind} {a : Int} {r ds : List AV} {l : List Bool} (h : eqCells (.sc (.int k a) :: r) ds = some l) : ∃ b q l', ds = .sc (.int k b) :: q ∧ eqCells r q = some l' ∧ l = (a == b) :: l' := by
  match ds, h with
  | .sc (.int k' b) :: q, h =>
    simp only [eqCells] at h
    split at h
    · rename_i hk
      subst hk
      simp only [Option.map_eq_some_iff] at h
      obtain ⟨l', h1, h2⟩ := h
      exact ⟨b, q, l', rfl, h1, h2.symm⟩
    · cases h
theorem eqCells_str {a : ByteArray} {r ds : List AV} {l : List Bool} (h : eqCells (.sc (.string a) :: r) ds = some l) : ∃ b q l', ds = .sc (.string b) :: q ∧ eqCells r q = some l' ∧ l = (a.toList == b.toList) :: l' := by
  match ds, h with
  | .sc (.string b) :: q, h =>
    simp only [eqCells, Option.map_eq_some_iff] at h
    obtain ⟨l', h1, h2⟩ := h
    exact ⟨b, q, l', rfl, h1, h2.symm⟩
theorem eqCells_nil {ds : List AV} {l : List Bool} (h : eqCells [] ds = some l) : ds = [] ∧ l = [] := by
  cases ds with
  | nil => simp only [eqCells, Option.some.injEq] at h; exact ⟨rfl, h.symm⟩
  | cons d ds => simp [eqCells] at h
theorem eqK_nil {cs : List AV} (h : eqK cs = []) : cs = [] := by
  cases cs with
  | nil => rfl
  | cons c cs => simp [eqK] at h
theorem eqK_ne {cs : List AV} {k : Nat} {ks : List Nat} (h : eqK cs = k :: ks) : ∃ c r, cs = c :: r := by
  cases cs with
  | nil => simp [eqK] at h
  | cons c cs => exact ⟨c, cs, rfl⟩
section
variable {P : Program} {w : World}
theorem eq_two {T : TypeId} (hm : P.eqGuardType P.depth T = false) (ox oy : Operand) (xs ys : Array Value) {r : Bool} (h : (Op.equalIn 10000 T (.agg xs) (.agg ys)).run P w = .ok r w) :
    (binSem .eql T ox oy (.agg xs) (.agg ys)).run P w = .ok (.bool r) w ∧ (binSem .neq T ox oy (.agg xs) (.agg ys)).run P w = .ok (.bool (!r)) w := by
  unfold binSem
  rw [Sem.run_bind, Sem.run_bind, run_eqGuard_agg w .eql T ox oy xs ys hm, run_eqGuard_agg w .neq T ox oy xs ys hm]
  simp only [Result.andThen_ok]
  rw [run_eql_struct w, run_neq_struct w, h]
  exact ⟨rfl, rfl⟩
end
section
variable {P : Program} {w : World}
theorem eqF_cons {d : Nat} {f : Field} {fs : List Field} {xs ys : Array Value} {u v : Value} {r r' : Bool} (hn : (f.name == "_") = false) (h1 : (part f.type xs f.offset).run P w = .ok u w) (h2 : (part f.type ys f.offset).run P w = .ok v w) (h3 : (Op.equalIn d f.type u v).run P w = .ok r w)
    (h4 : (Op.eqFields d xs ys fs).run P w = .ok r' w) : (Op.eqFields d xs ys (f :: fs)).run P w = .ok (r && r') w := by
  have hn' : f.name ≠ "_" := by simpa using hn
  unfold Op.eqFields
  rw [if_pos hn']
  simp only [Sem.run_bind, h1, h2, h3, Result.andThen_ok]
  cases r with
  | false => rfl
  | true => simpa using h4
end
noncomputable def fd24_0 : Field := ((Tryz.prog.fieldsOf 24).toList[0]?).get (by kernel_rfl)
noncomputable def fd24_1 : Field := ((Tryz.prog.fieldsOf 24).toList[1]?).get (by kernel_rfl)
noncomputable def fd80_0 : Field := ((Tryz.prog.fieldsOf 80).toList[0]?).get (by kernel_rfl)
noncomputable def fd80_1 : Field := ((Tryz.prog.fieldsOf 80).toList[1]?).get (by kernel_rfl)
noncomputable def fd80_2 : Field := ((Tryz.prog.fieldsOf 80).toList[2]?).get (by kernel_rfl)
theorem eqSem24 : EqSem Tryz.prog (24, [0, 0]) := by
  intro w ox oy cs ds l ok κ us vs hk he hu hv
  have hk0 : eqK cs = [0, 0] := hk
  clear hk
  obtain ⟨c0, r_main_main, rfl⟩ := eqK_ne hk0
  obtain ⟨a, rfl, hk1⟩ := eqK_int hk0
  obtain ⟨c1, r_gosem_cut, rfl⟩ := eqK_ne hk1
  obtain ⟨b, rfl, hk2⟩ := eqK_int hk1
  cases eqK_nil hk2
  obtain ⟨a', q_gosem_cut, l1, rfl, he1, rfl⟩ := eqCells_int he
  obtain ⟨b', q_gosem_cut_init, l2, rfl, he2, rfl⟩ := eqCells_int he1
  obtain ⟨rfl, rfl⟩ := eqCells_nil he2
  obtain ⟨_, us1, rfl, ⟨rfl, _⟩, hu1⟩ := hu
  obtain ⟨_, us2, rfl, ⟨rfl, _⟩, hu2⟩ := hu1
  obtain ⟨_, vs1, rfl, ⟨rfl, _⟩, hv1⟩ := hv
  obtain ⟨_, vs2, rfl, ⟨rfl, _⟩, hv2⟩ := hv1
  rw [show us2 = [] from hu2, show vs2 = [] from hv2]
  refine eq_two (by kernel_rfl) ox oy _ _ ?_
  rw [show (10000 : Nat) = 9999 + 1 from rfl, run_equalIn_agg w 9999 24 _ _ (by kernel_rfl) (by kernel_rfl)]
  rw [show (Tryz.prog.fieldsOf 24).toList = [fd24_0, fd24_1] by kernel_rfl]
  have h0 := eqF_cons (P := Tryz.prog) (w := w) (d := 9999) (f := fd24_1) (fs := []) (xs := #[.int .i64 a, .int .i64 b]) (ys := #[.int .i64 a', .int .i64 b']) (u := .int .i64 b) (v := .int .i64 b') (by kernel_rfl) (run_part_plain w (by kernel_rfl) (by kernel_rfl)) (run_part_plain w (by kernel_rfl) (by kernel_rfl)) (run_equalIn_int w 9998 _ .i64 .i64 b b' (by kernel_rfl)) (by rfl)
  have h1 := eqF_cons (P := Tryz.prog) (w := w) (d := 9999) (f := fd24_0) (u := .int .i64 a) (v := .int .i64 a') (by kernel_rfl) (run_part_plain w (by kernel_rfl) (by kernel_rfl)) (run_part_plain w (by kernel_rfl) (by kernel_rfl)) (run_equalIn_int w 9998 _ .i64 .i64 a a' (by kernel_rfl)) h0
  rw [Bool.and_true] at h1
  exact h1
theorem eqSem80 : EqSem Tryz.prog (80, [1, 0, 1]) := by
  intro w ox oy cs ds l ok κ us vs hk he hu hv
  have hk0 : eqK cs = [1, 0, 1] := hk
  clear hk
  obtain ⟨c0, r_main_main, rfl⟩ := eqK_ne hk0
  obtain ⟨a, rfl, hk1⟩ := eqK_str hk0
  obtain ⟨c1, r_gosem_cut, rfl⟩ := eqK_ne hk1
  obtain ⟨b, rfl, hk2⟩ := eqK_int hk1
  obtain ⟨c2, r_gosem_cut_init, rfl⟩ := eqK_ne hk2
  obtain ⟨c, rfl, hk3⟩ := eqK_str hk2
  cases eqK_nil hk3
  obtain ⟨a', q_gosem_cut, l1, rfl, he1, rfl⟩ := eqCells_str he
  obtain ⟨b', q_gosem_cut_init, l2, rfl, he2, rfl⟩ := eqCells_int he1
  obtain ⟨c', q_law23_PlanCompile, l3, rfl, he3, rfl⟩ := eqCells_str he2
  obtain ⟨rfl, rfl⟩ := eqCells_nil he3
  obtain ⟨_, us1, rfl, ⟨rfl, _⟩, hu1⟩ := hu
  obtain ⟨_, us2, rfl, ⟨rfl, _⟩, hu2⟩ := hu1
  obtain ⟨_, us3, rfl, ⟨rfl, _⟩, hu3⟩ := hu2
  obtain ⟨_, vs1, rfl, ⟨rfl, _⟩, hv1⟩ := hv
  obtain ⟨_, vs2, rfl, ⟨rfl, _⟩, hv2⟩ := hv1
  obtain ⟨_, vs3, rfl, ⟨rfl, _⟩, hv3⟩ := hv2
  rw [show us3 = [] from hu3, show vs3 = [] from hv3]
  refine eq_two (by kernel_rfl) ox oy _ _ ?_
  rw [show (10000 : Nat) = 9999 + 1 from rfl, run_equalIn_agg w 9999 80 _ _ (by kernel_rfl) (by kernel_rfl)]
  rw [show (Tryz.prog.fieldsOf 80).toList = [fd80_0, fd80_1, fd80_2] by kernel_rfl]
  have h0 := eqF_cons (P := Tryz.prog) (w := w) (d := 9999) (f := fd80_2) (fs := []) (xs := #[.string a, .int .i64 b, .string c]) (ys := #[.string a', .int .i64 b', .string c']) (u := .string c) (v := .string c') (by kernel_rfl) (run_part_plain w (by kernel_rfl) (by kernel_rfl)) (run_part_plain w (by kernel_rfl) (by kernel_rfl)) (run_equalIn_string w 9998 _ c c' (by kernel_rfl)) (by rfl)
  have h1 := eqF_cons (P := Tryz.prog) (w := w) (d := 9999) (f := fd80_1) (u := .int .i64 b) (v := .int .i64 b') (by kernel_rfl) (run_part_plain w (by kernel_rfl) (by kernel_rfl)) (run_part_plain w (by kernel_rfl) (by kernel_rfl)) (run_equalIn_int w 9998 _ .i64 .i64 b b' (by kernel_rfl)) h0
  have h2 := eqF_cons (P := Tryz.prog) (w := w) (d := 9999) (f := fd80_0) (u := .string a) (v := .string a') (by kernel_rfl) (run_part_plain w (by kernel_rfl) (by kernel_rfl)) (run_part_plain w (by kernel_rfl) (by kernel_rfl)) (run_equalIn_string w 9998 _ a a' (by kernel_rfl)) h1
  rw [Bool.and_true] at h2
  exact h2
theorem eqs0 : ∀ T, prg0.G.eqs.contains T = true → EqSem Tryz.prog T := by
  intro T hT
  have hT : ([(24, [0, 0]), (80, [1, 0, 1])] : List (Nat × List Nat)).contains T = true := hT
  simp only [List.contains_cons, List.contains_nil, Bool.or_false, Bool.or_eq_true, beq_iff_eq] at hT
  rcases hT with rfl | rfl
  · exact eqSem24
  · exact eqSem80
end Go.AM
/-
  slices.Clone at structs, strings, bytes, expressions: walked over this program's text.
-/
namespace Go.AM
open Go Go.Proofs Go.Shelf Go.Lib RowKit
set_option maxRecDepth 100000
set_option maxHeartbeats 1000000
theorem clone56_some (w : World) (ad : Addr) (n c : Nat) (us : List Value) (hl : us.length = n * 3) (hn : n ≤ 140737488355328) (hb : n * 40 ≤ 140737488355328) (h1 : ∀ u ∈ us, u.oneCell' = true)
    (hc : ∀ (i : Nat) (v : Value), us[i]? = some v → w.cell? (ad.add i) = some v) :
    Calls Tryz.prog 56 #[.slice (some ad) n c] w (fun E w' => ∃ v', E = .returned v' ∧ w'.ownsRow w.heap.size 80 3 v' n us ∧ Below w.heap.size w w') := by
  have t22 : Tryz.prog.underlying 25 = some (.slice 80) := by kernel_rfl
  obtain ⟨i0, hi, hz0, hz1, hz2⟩ : ∃ i0 : TypeInfo, Tryz.prog.info? 80 = some i0 ∧ i0.zero = some ((Tryz.prog.info? 80).bind (·.zero) |>.get (by kernel_rfl)) ∧ i0.size = 3 ∧ i0.bytes = 40 := ⟨(Tryz.prog.info? 80).get (by kernel_rfl), by kernel_rfl, by kernel_rfl, by kernel_rfl, by kernel_rfl⟩
  have q_plan_Check : ∀ (w : World) (a : Option Addr) (n c n' c' : Nat), (binOp .eql 25 (.slice a n c) (.slice none n' c')).run Tryz.prog w = .ok (.bool a.isNone) w := fun w a n c n' c' => Lib.run_eql_slice_nil w _ _ a n c n' c' t22
  have u22 : ∀ w, Sem.run Tryz.prog (underlying 25) w = .ok (TypeDesc.slice 80) w := run_underlying t22
  have hf : Tryz.prog.funcs[56]? = some Tryz.f56 := by kernel_rfl
  have hnt : Tryz.f56.ntmps = 8 := by kernel_rfl
  have A : Aside (∀ (i : Nat) (v : Value), us[i]? = some v → w.cell? (ad.add i) = some v) := hc
  clear hc
  go_enter hf, hnt
  go_wp2_with (at_builtin; refine wpList_append_own _ rfl _ _ 25 rfl w.heap.size 80 i0 _ 3 40 t22 hi hz0 hz1 hz2 (by kernel_rfl) (by decide) _ _ _ rfl (World.ownsRow_made w #[] 0 (Nat.le_refl _) (Nat.zero_le _) rfl) ad n c us rfl ?qc1 ?qc2 ?qc3 ?qc4 ?qc5 ?qc6 ?_)
  case qc1 => exact hl
  case qc2 => intro j u hj; exact Lib.cell?_alloc_some _ (A.out j u hj)
  case qc3 => exact h1
  case qc4 => unfold maxLen; omega
  case qc5 => omega
  case qc6 => simp
  intro v' w1 hown hgrow hnil
  go_wp2
  go_ret
  refine ⟨v', rfl, by simpa using hown, ?_⟩
  exact ((Below.refl _ w).alloc (Nat.le_refl _) _).grown hgrow (by simp) (by intro k hk; simp [Value.ownBlock] at hk; omega)
theorem clone56_none (w : World) (n c : Nat) : Calls Tryz.prog 56 #[.slice none n c] w (fun E w' => E = .returned (.slice none 0 0) ∧ w' = w) := by
  have t22 : Tryz.prog.underlying 25 = some (.slice 80) := by kernel_rfl
  have q_plan_Check : ∀ (w : World) (a : Option Addr) (n c n' c' : Nat), (binOp .eql 25 (.slice a n c) (.slice none n' c')).run Tryz.prog w = .ok (.bool a.isNone) w := fun w a n c n' c' => Lib.run_eql_slice_nil w _ _ a n c n' c' t22
  have hf : Tryz.prog.funcs[56]? = some Tryz.f56 := by kernel_rfl
  have hnt : Tryz.f56.ntmps = 8 := by kernel_rfl
  go_enter hf, hnt
  go_wp2
  go_ret
  exact ⟨rfl, rfl⟩
theorem clone57_some (w : World) (ad : Addr) (n c : Nat) (us : List Value) (hl : us.length = n * 1) (hn : n ≤ 140737488355328) (hb : n * 16 ≤ 140737488355328) (h1 : ∀ u ∈ us, u.oneCell' = true)
    (hc : ∀ (i : Nat) (v : Value), us[i]? = some v → w.cell? (ad.add i) = some v) :
    Calls Tryz.prog 57 #[.slice (some ad) n c] w (fun E w' => ∃ v', E = .returned v' ∧ w'.ownsRow w.heap.size 9 1 v' n us ∧ Below w.heap.size w w') := by
  have t22 : Tryz.prog.underlying 26 = some (.slice 9) := by kernel_rfl
  obtain ⟨i0, hi, hz0, hz1, hz2⟩ : ∃ i0 : TypeInfo, Tryz.prog.info? 9 = some i0 ∧ i0.zero = some ((Tryz.prog.info? 9).bind (·.zero) |>.get (by kernel_rfl)) ∧ i0.size = 1 ∧ i0.bytes = 16 := ⟨(Tryz.prog.info? 9).get (by kernel_rfl), by kernel_rfl, by kernel_rfl, by kernel_rfl, by kernel_rfl⟩
  have q_plan_Check : ∀ (w : World) (a : Option Addr) (n c n' c' : Nat), (binOp .eql 26 (.slice a n c) (.slice none n' c')).run Tryz.prog w = .ok (.bool a.isNone) w := fun w a n c n' c' => Lib.run_eql_slice_nil w _ _ a n c n' c' t22
  have u22 : ∀ w, Sem.run Tryz.prog (underlying 26) w = .ok (TypeDesc.slice 9) w := run_underlying t22
  have hf : Tryz.prog.funcs[57]? = some Tryz.f57 := by kernel_rfl
  have hnt : Tryz.f57.ntmps = 8 := by kernel_rfl
  have A : Aside (∀ (i : Nat) (v : Value), us[i]? = some v → w.cell? (ad.add i) = some v) := hc
  clear hc
  go_enter hf, hnt
  go_wp2_with (at_builtin; refine wpList_append_own _ rfl _ _ 26 rfl w.heap.size 9 i0 _ 1 16 t22 hi hz0 hz1 hz2 (by kernel_rfl) (by decide) _ _ _ rfl (World.ownsRow_made w #[] 0 (Nat.le_refl _) (Nat.zero_le _) rfl) ad n c us rfl ?qc1 ?qc2 ?qc3 ?qc4 ?qc5 ?qc6 ?_)
  case qc1 => exact hl
  case qc2 => intro j u hj; exact Lib.cell?_alloc_some _ (A.out j u hj)
  case qc3 => exact h1
  case qc4 => unfold maxLen; omega
  case qc5 => omega
  case qc6 => simp
  intro v' w1 hown hgrow hnil
  go_wp2
  go_ret
  refine ⟨v', rfl, by simpa using hown, ?_⟩
  exact ((Below.refl _ w).alloc (Nat.le_refl _) _).grown hgrow (by simp) (by intro k hk; simp [Value.ownBlock] at hk; omega)
theorem clone57_none (w : World) (n c : Nat) : Calls Tryz.prog 57 #[.slice none n c] w (fun E w' => E = .returned (.slice none 0 0) ∧ w' = w) := by
  have t22 : Tryz.prog.underlying 26 = some (.slice 9) := by kernel_rfl
  have q_plan_Check : ∀ (w : World) (a : Option Addr) (n c n' c' : Nat), (binOp .eql 26 (.slice a n c) (.slice none n' c')).run Tryz.prog w = .ok (.bool a.isNone) w := fun w a n c n' c' => Lib.run_eql_slice_nil w _ _ a n c n' c' t22
  have hf : Tryz.prog.funcs[57]? = some Tryz.f57 := by kernel_rfl
  have hnt : Tryz.f57.ntmps = 8 := by kernel_rfl
  go_enter hf, hnt
  go_wp2
  go_ret
  exact ⟨rfl, rfl⟩
theorem clone65_some (w : World) (ad : Addr) (n c : Nat) (us : List Value) (hl : us.length = n * 11) (hn : n ≤ 140737488355328) (hb : n * 144 ≤ 140737488355328) (h1 : ∀ u ∈ us, u.oneCell' = true)
    (hc : ∀ (i : Nat) (v : Value), us[i]? = some v → w.cell? (ad.add i) = some v) :
    Calls Tryz.prog 65 #[.slice (some ad) n c] w (fun E w' => ∃ v', E = .returned v' ∧ w'.ownsRow w.heap.size 29 11 v' n us ∧ Below w.heap.size w w') := by
  have t22 : Tryz.prog.underlying 27 = some (.slice 29) := by kernel_rfl
  obtain ⟨i0, hi, hz0, hz1, hz2⟩ : ∃ i0 : TypeInfo, Tryz.prog.info? 29 = some i0 ∧ i0.zero = some ((Tryz.prog.info? 29).bind (·.zero) |>.get (by kernel_rfl)) ∧ i0.size = 11 ∧ i0.bytes = 144 := ⟨(Tryz.prog.info? 29).get (by kernel_rfl), by kernel_rfl, by kernel_rfl, by kernel_rfl, by kernel_rfl⟩
  have q_plan_Check : ∀ (w : World) (a : Option Addr) (n c n' c' : Nat), (binOp .eql 27 (.slice a n c) (.slice none n' c')).run Tryz.prog w = .ok (.bool a.isNone) w := fun w a n c n' c' => Lib.run_eql_slice_nil w _ _ a n c n' c' t22
  have u22 : ∀ w, Sem.run Tryz.prog (underlying 27) w = .ok (TypeDesc.slice 29) w := run_underlying t22
  have hf : Tryz.prog.funcs[65]? = some Tryz.f65 := by kernel_rfl
  have hnt : Tryz.f65.ntmps = 8 := by kernel_rfl
  have A : Aside (∀ (i : Nat) (v : Value), us[i]? = some v → w.cell? (ad.add i) = some v) := hc
  clear hc
  go_enter hf, hnt
  go_wp2_with (at_builtin; refine wpList_append_own _ rfl _ _ 27 rfl w.heap.size 29 i0 _ 11 144 t22 hi hz0 hz1 hz2 (by kernel_rfl) (by decide) _ _ _ rfl (World.ownsRow_made w #[] 0 (Nat.le_refl _) (Nat.zero_le _) rfl) ad n c us rfl ?qc1 ?qc2 ?qc3 ?qc4 ?qc5 ?qc6 ?_)
  case qc1 => exact hl
  case qc2 => intro j u hj; exact Lib.cell?_alloc_some _ (A.out j u hj)
  case qc3 => exact h1
  case qc4 => unfold maxLen; omega
  case qc5 => omega
  case qc6 => simp
  intro v' w1 hown hgrow hnil
  go_wp2
  go_ret
  refine ⟨v', rfl, by simpa using hown, ?_⟩
  exact ((Below.refl _ w).alloc (Nat.le_refl _) _).grown hgrow (by simp) (by intro k hk; simp [Value.ownBlock] at hk; omega)
theorem clone65_none (w : World) (n c : Nat) : Calls Tryz.prog 65 #[.slice none n c] w (fun E w' => E = .returned (.slice none 0 0) ∧ w' = w) := by
  have t22 : Tryz.prog.underlying 27 = some (.slice 29) := by kernel_rfl
  have q_plan_Check : ∀ (w : World) (a : Option Addr) (n c n' c' : Nat), (binOp .eql 27 (.slice a n c) (.slice none n' c')).run Tryz.prog w = .ok (.bool a.isNone) w := fun w a n c n' c' => Lib.run_eql_slice_nil w _ _ a n c n' c' t22
  have hf : Tryz.prog.funcs[65]? = some Tryz.f65 := by kernel_rfl
  have hnt : Tryz.f65.ntmps = 8 := by kernel_rfl
  go_enter hf, hnt
  go_wp2
  go_ret
  exact ⟨rfl, rfl⟩
theorem clone106_some (w : World) (ad : Addr) (n c : Nat) (us : List Value) (hl : us.length = n * 1) (hn : n ≤ 140737488355328) (hb : n * 1 ≤ 140737488355328) (h1 : ∀ u ∈ us, u.oneCell' = true)
    (hc : ∀ (i : Nat) (v : Value), us[i]? = some v → w.cell? (ad.add i) = some v) :
    Calls Tryz.prog 106 #[.slice (some ad) n c] w (fun E w' => ∃ v', E = .returned v' ∧ w'.ownsRow w.heap.size 5 1 v' n us ∧ Below w.heap.size w w') := by
  have t22 : Tryz.prog.underlying 59 = some (.slice 5) := by kernel_rfl
  obtain ⟨i0, hi, hz0, hz1, hz2⟩ : ∃ i0 : TypeInfo, Tryz.prog.info? 5 = some i0 ∧ i0.zero = some ((Tryz.prog.info? 5).bind (·.zero) |>.get (by kernel_rfl)) ∧ i0.size = 1 ∧ i0.bytes = 1 := ⟨(Tryz.prog.info? 5).get (by kernel_rfl), by kernel_rfl, by kernel_rfl, by kernel_rfl, by kernel_rfl⟩
  have q_plan_Check : ∀ (w : World) (a : Option Addr) (n c n' c' : Nat), (binOp .eql 59 (.slice a n c) (.slice none n' c')).run Tryz.prog w = .ok (.bool a.isNone) w := fun w a n c n' c' => Lib.run_eql_slice_nil w _ _ a n c n' c' t22
  have u22 : ∀ w, Sem.run Tryz.prog (underlying 59) w = .ok (TypeDesc.slice 5) w := run_underlying t22
  have hf : Tryz.prog.funcs[106]? = some Tryz.f106 := by kernel_rfl
  have hnt : Tryz.f106.ntmps = 8 := by kernel_rfl
  have A : Aside (∀ (i : Nat) (v : Value), us[i]? = some v → w.cell? (ad.add i) = some v) := hc
  clear hc
  go_enter hf, hnt
  go_wp2_with (at_builtin; refine wpList_append_own _ rfl _ _ 59 rfl w.heap.size 5 i0 _ 1 1 t22 hi hz0 hz1 hz2 (by kernel_rfl) (by decide) _ _ _ rfl (World.ownsRow_made w #[] 0 (Nat.le_refl _) (Nat.zero_le _) rfl) ad n c us rfl ?qc1 ?qc2 ?qc3 ?qc4 ?qc5 ?qc6 ?_)
  case qc1 => exact hl
  case qc2 => intro j u hj; exact Lib.cell?_alloc_some _ (A.out j u hj)
  case qc3 => exact h1
  case qc4 => unfold maxLen; omega
  case qc5 => omega
  case qc6 => simp
  intro v' w1 hown hgrow hnil
  go_wp2
  go_ret
  refine ⟨v', rfl, by simpa using hown, ?_⟩
  exact ((Below.refl _ w).alloc (Nat.le_refl _) _).grown hgrow (by simp) (by intro k hk; simp [Value.ownBlock] at hk; omega)
theorem clone106_none (w : World) (n c : Nat) : Calls Tryz.prog 106 #[.slice none n c] w (fun E w' => E = .returned (.slice none 0 0) ∧ w' = w) := by
  have t22 : Tryz.prog.underlying 59 = some (.slice 5) := by kernel_rfl
  have q_plan_Check : ∀ (w : World) (a : Option Addr) (n c n' c' : Nat), (binOp .eql 59 (.slice a n c) (.slice none n' c')).run Tryz.prog w = .ok (.bool a.isNone) w := fun w a n c n' c' => Lib.run_eql_slice_nil w _ _ a n c n' c' t22
  have hf : Tryz.prog.funcs[106]? = some Tryz.f106 := by kernel_rfl
  have hnt : Tryz.f106.ntmps = 8 := by kernel_rfl
  go_enter hf, hnt
  go_wp2
  go_ret
  exact ⟨rfl, rfl⟩
theorem owns_fin {w : World} {B : Nat} {e : TypeId} {sz n : Nat} {v : Value} {us : List Value} (h : w.ownsRow B e sz v n us) : w.ownsRow 0 e sz v n us ∧ (∀ b, blkOf v = some b → B ≤ b) ∧ ∃ a' c', v = .slice a' n c' := by
  obtain ⟨h1, h2⟩ := h
  rcases h2 with ⟨rfl, rfl⟩ | ⟨g, cap, cur, rfl, h3, h4⟩
  · exact ⟨⟨h1, .inl ⟨rfl, rfl⟩⟩, (fun b hb => (by cases hb)), _, _, rfl⟩
  · exact ⟨⟨h1, .inr ⟨g, cap, cur, rfl, Nat.zero_le _, h4⟩⟩, (fun b hb => (by cases hb; exact h3)), _, _, rfl⟩
theorem cloneOK_of {g : FuncId} {e : TypeId} {t : TC} {sz by_ : Nat} {fn : Func} {cd : Code} (hf : Tryz.prog.funcs[g]? = some fn) (hcd : fn.body = some cd) (hname : (fn.name == "runtime.NumGoroutine") = false) (hs : csize t = sz) (hsz : 0 < sz) (hby : ∀ te, assoc Θ0 e = some te → te.bytes = by_)
    (h1 : ∀ (w : World) (ad : Addr) (n c : Nat) (us : List Value), us.length = n * sz → n ≤ 140737488355328 → n * by_ ≤ 140737488355328 → (∀ u ∈ us, u.oneCell' = true) → (∀ (i : Nat) (v : Value), us[i]? = some v → w.cell? (ad.add i) = some v) →
      Calls Tryz.prog g #[.slice (some ad) n c] w (fun E w' => ∃ v', E = .returned v' ∧ w'.ownsRow w.heap.size e sz v' n us ∧ Below w.heap.size w w'))
    (h2 : ∀ (w : World) (n c : Nat), Calls Tryz.prog g #[.slice none n c] w (fun E w' => E = .returned (.slice none 0 0) ∧ w' = w)) : CloneOK Tryz.prog Θ0 g e t := by
  intro te hte w a n c us hl hn hb hu hc
  have hin : ∀ vs R, Calls Tryz.prog g vs w R → Inv Tryz.prog g vs w R := fun vs R h => by
    have hr : (callFunc g vs).run Tryz.prog w = .ok (.enter g vs) w := callFunc_body hf hcd hname vs w
    unfold Inv
    rw [hr]
    exact h
  rw [hs] at hl ⊢
  rw [hby te hte] at hb
  refine hin _ _ ?_
  cases a with
  | none =>
    have hz : n = 0 := by
      rcases Nat.eq_zero_or_pos n with h | h
      · exact h
      · obtain ⟨b, o, h', _⟩ := hc h
        cases h'
    subst hz
    have he : us = [] := List.eq_nil_of_length_eq_zero (by omega)
    subst he
    refine (h2 w 0 c).mono ?_
    rintro E w' ⟨rfl, rfl⟩
    exact ⟨_, rfl, Below.refl _ _, (fun b hb => (by cases hb)), ⟨by simp, .inl ⟨rfl, rfl⟩⟩, _, _, rfl⟩
  | some ad =>
    refine (h1 w ad n c us hl hn hb hu ?_).mono ?_
    · intro i v hv
      rcases Nat.eq_zero_or_pos n with h | h
      · subst h
        have he : us = [] := List.eq_nil_of_length_eq_zero (by omega)
        subst he
        cases hv
      · obtain ⟨b, o, h', h3⟩ := hc h
        cases h'
        rw [addr_add]
        exact h3 i v hv
    · rintro E w' ⟨v', rfl, ho, hbl⟩
      have hh := owns_fin ho
      exact ⟨v', rfl, hbl, hh.2.1, hh.1, hh.2.2⟩
theorem clone56 : CloneOK Tryz.prog Θ0 56 80 .matcher := cloneOK_of (sz := 3) (by_ := 40) (fn := Tryz.f56) (cd := bodyOf Tryz.f56) (by kernel_rfl) (by kernel_rfl) (by kernel_rfl) (by rfl) (by decide) (fun te h => Option.some.inj ((congrArg (Option.map TI.bytes) h).symm.trans (show (assoc Θ0 80).map TI.bytes = some 40 by kernel_rfl))) clone56_some clone56_none
theorem clone57 : CloneOK Tryz.prog Θ0 57 9 .str := cloneOK_of (sz := 1) (by_ := 16) (fn := Tryz.f57) (cd := bodyOf Tryz.f57) (by kernel_rfl) (by kernel_rfl) (by kernel_rfl) (by rfl) (by decide) (fun te h => Option.some.inj ((congrArg (Option.map TI.bytes) h).symm.trans (show (assoc Θ0 9).map TI.bytes = some 16 by kernel_rfl))) clone57_some clone57_none
theorem clone65 : CloneOK Tryz.prog Θ0 65 29 .expr := cloneOK_of (sz := 11) (by_ := 144) (fn := Tryz.f65) (cd := bodyOf Tryz.f65) (by kernel_rfl) (by kernel_rfl) (by kernel_rfl) (by rfl) (by decide) (fun te h => Option.some.inj ((congrArg (Option.map TI.bytes) h).symm.trans (show (assoc Θ0 29).map TI.bytes = some 144 by kernel_rfl))) clone65_some clone65_none
theorem clone106 : CloneOK Tryz.prog Θ0 106 5 (.i .u8) := cloneOK_of (sz := 1) (by_ := 1) (fn := Tryz.f106) (cd := bodyOf Tryz.f106) (by kernel_rfl) (by kernel_rfl) (by kernel_rfl) (by rfl) (by decide) (fun te h => Option.some.inj ((congrArg (Option.map TI.bytes) h).symm.trans (show (assoc Θ0 5).map TI.bytes = some 1 by kernel_rfl))) clone106_some clone106_none
end Go.AM
/-
  DERIVED: THE SHELF's CONTRACTS AT THIS DUMP, IN PLAIN WORDS (tools/lay-plain.mjs out of 'TryzShelf.lean', which tools/lay-shelf.mjs wrote): THE SAME DECLARATIONS UNDER THE SAME NAMES: 'import', 'namespace', 'open', 'def', 'theorem' AND NOTHING ELSE: no command of the shelf's: FOR A HAND-IN. Each laying: the table of numbers ('.._ren') and one theorem, a field a fact of the dump's own or the kernel's comparison; each contract: ONE APPLICATION.
-/
namespace Go.Proofs
open Go.Shelf
def Tryz.lays231_ren : Go.Shelf.Ren := ⟨fun | 231 => 149 | n => n, fun | 9 => 9 | 5 => 5 | 3 => 3 | 4 => 4 | n => n, fun | n => n⟩
theorem Tryz.lays231 : Go.Proofs.Lays.n231 Tryz.prog Tryz.lays231_ren := {
  mixed := by kernel_rfl
  f231 := Tryz.func149.trans (congrArg some (by kernel_rfl))
  t3 := Tryz.underlying3
  a3 := Tryz.isAgg3
  z3 := Tryz.sizeOf3
  v3 := Tryz.zeroValue3
  t4 := Tryz.underlying4
  a4 := Tryz.isAgg4
  z4 := Tryz.sizeOf4
  v4 := Tryz.zeroValue4
  t5 := Tryz.underlying5
  a5 := Tryz.isAgg5
  z5 := Tryz.sizeOf5
  v5 := Tryz.zeroValue5
  t9 := Tryz.underlying9
  a9 := Tryz.isAgg9
  z9 := Tryz.sizeOf9
  v9 := Tryz.zeroValue9 }
open Go.RowKit in
theorem Tryz.strings_trimLeftByte (s : ByteArray) (c : UInt8) (w : World) :
    Calls Tryz.prog 149 #[.string s, .int .u8 c.toNat] w fun e w' => e = .returned (.string ⟨(Lib.trimLeftB s.data.toList c).toArray⟩) ∧ w' = w := Any.strings_trimLeftByte Tryz.lays231 s c w
def Tryz.lays161_ren : Go.Shelf.Ren := ⟨fun | 161 => 134 | 231 => 149 | 227 => 150 | 233 => 151 | 235 => 152 | 228 => 169 | 197 => 170 | 151 => 171 | 260 => 182 | 152 => 183 | 137 => 153 | 119 => 186 | 224 => 187 | 225 => 188 | 217 => 172 | 266 => 184 | n => n, fun | 9 => 9 | 4 => 4 | 3 => 3 | 5 => 5 | 117 => 180 | 116 => 179 | 0 => 0 | 124 => 183 | 105 => 190 | 21 => 21 | 119 => 201 | 46 => 164 | 139 => 204 | 138 => 203 | n => n, fun | 3 => 2 | 4 => 3 | n => n⟩
theorem Tryz.lays161 : Go.Proofs.Lays.n161 Tryz.prog Tryz.lays161_ren := {
  mixed := by kernel_rfl
  f119 := Tryz.func186.trans (congrArg some (by kernel_rfl))
  f137 := Tryz.func153.trans (congrArg some (by kernel_rfl))
  f151 := Tryz.func171.trans (congrArg some (by kernel_rfl))
  f152 := Tryz.func183.trans (congrArg some (by kernel_rfl))
  f161 := Tryz.func134.trans (congrArg some (by kernel_rfl))
  f197 := Tryz.func170.trans (congrArg some (by kernel_rfl))
  f217 := Tryz.func172.trans (congrArg some (by kernel_rfl))
  f224 := Tryz.func187.trans (congrArg some (by kernel_rfl))
  f225 := Tryz.func188.trans (congrArg some (by kernel_rfl))
  f227 := Tryz.func150.trans (congrArg some (by kernel_rfl))
  f228 := Tryz.func169.trans (congrArg some (by kernel_rfl))
  f231 := Tryz.func149.trans (congrArg some (by kernel_rfl))
  f233 := Tryz.func151.trans (congrArg some (by kernel_rfl))
  f235 := Tryz.func152.trans (congrArg some (by kernel_rfl))
  f260 := Tryz.func182.trans (congrArg some (by kernel_rfl))
  f266 := Tryz.func184.trans (congrArg some (by kernel_rfl))
  t0 := Tryz.underlying0
  a0 := Tryz.isAgg0
  z0 := Tryz.sizeOf0
  v0 := Tryz.zeroValue0
  t3 := Tryz.underlying3
  a3 := Tryz.isAgg3
  z3 := Tryz.sizeOf3
  v3 := Tryz.zeroValue3
  t4 := Tryz.underlying4
  a4 := Tryz.isAgg4
  z4 := Tryz.sizeOf4
  v4 := Tryz.zeroValue4
  t5 := Tryz.underlying5
  a5 := Tryz.isAgg5
  z5 := Tryz.sizeOf5
  v5 := Tryz.zeroValue5
  t9 := Tryz.underlying9
  a9 := Tryz.isAgg9
  z9 := Tryz.sizeOf9
  v9 := Tryz.zeroValue9
  t21 := Tryz.underlying21
  a21 := Tryz.isAgg21
  z21 := Tryz.sizeOf21
  v21 := Tryz.zeroValue21
  t46 := Tryz.underlying164
  a46 := Tryz.isAgg164
  z46 := Tryz.sizeOf164
  v46 := Tryz.zeroValue164
  t105 := Tryz.underlying190
  a105 := Tryz.isAgg190
  z105 := Tryz.sizeOf190
  v105 := Tryz.zeroValue190
  t116 := Tryz.underlying179
  a116 := Tryz.isAgg179
  z116 := Tryz.sizeOf179
  t117 := Tryz.underlying180
  a117 := Tryz.isAgg180
  z117 := Tryz.sizeOf180
  v117 := Tryz.zeroValue180
  t119 := Tryz.underlying201
  a119 := Tryz.isAgg201
  z119 := Tryz.sizeOf201
  t124 := Tryz.underlying183
  a124 := Tryz.isAgg183
  z124 := Tryz.sizeOf183
  v124 := Tryz.zeroValue183
  t138 := Tryz.underlying203
  a138 := Tryz.isAgg203
  z138 := Tryz.sizeOf203
  v138 := Tryz.zeroValue203
  t139 := Tryz.underlying204
  a139 := Tryz.isAgg204
  z139 := Tryz.sizeOf204
  v139 := Tryz.zeroValue204
  g3 := by kernel_rfl
  g4 := by kernel_rfl }
open Go.RowKit in
theorem Tryz.strings_TrimLeft_one (s : ByteArray) (c : UInt8) (hc : c.toNat < 128) (w : World) :
    Calls Tryz.prog 134 #[.string s, .string ⟨#[c]⟩] w fun e w' => e = .returned (.string ⟨(Lib.trimLeftB s.data.toList c).toArray⟩) ∧ w' = w := Any.strings_TrimLeft_one Tryz.lays161 s c hc w
def Tryz.lays119_ren : Go.Shelf.Ren := ⟨fun | 119 => 186 | n => n, fun | 21 => 21 | 4 => 4 | n => n, fun | n => n⟩
theorem Tryz.lays119 : Go.Proofs.Lays.n119 Tryz.prog Tryz.lays119_ren := {
  mixed := by kernel_rfl
  f119 := Tryz.func186.trans (congrArg some (by kernel_rfl))
  t4 := Tryz.underlying4
  a4 := Tryz.isAgg4
  z4 := Tryz.sizeOf4
  v4 := Tryz.zeroValue4
  t21 := Tryz.underlying21
  a21 := Tryz.isAgg21
  z21 := Tryz.sizeOf21
  v21 := Tryz.zeroValue21 }
theorem Tryz.utf8_ValidRune (r : Int) (w : World) :
    Calls Tryz.prog 186 #[.int .i32 r] w fun e w' => e = .returned (.bool (Lib.validRune r)) ∧ w' = w := Any.utf8_ValidRune Tryz.lays119 r w
def Tryz.lays137_ren : Go.Shelf.Ren := ⟨fun | 137 => 153 | 217 => 172 | 266 => 184 | n => n, fun | 9 => 9 | 5 => 5 | 3 => 3 | n => n, fun | n => n⟩
theorem Tryz.lays137 : Go.Proofs.Lays.n137 Tryz.prog Tryz.lays137_ren := {
  mixed := by kernel_rfl
  f137 := Tryz.func153.trans (congrArg some (by kernel_rfl))
  f217 := Tryz.func172.trans (congrArg some (by kernel_rfl))
  f266 := Tryz.func184.trans (congrArg some (by kernel_rfl))
  t3 := Tryz.underlying3
  a3 := Tryz.isAgg3
  z3 := Tryz.sizeOf3
  v3 := Tryz.zeroValue3
  t5 := Tryz.underlying5
  a5 := Tryz.isAgg5
  z5 := Tryz.sizeOf5
  v5 := Tryz.zeroValue5
  t9 := Tryz.underlying9
  a9 := Tryz.isAgg9
  z9 := Tryz.sizeOf9
  v9 := Tryz.zeroValue9 }
open Go.RowKit in
theorem Tryz.strings_IndexByte (s : ByteArray) (c : Int) (w : World) :
    Calls Tryz.prog 153 #[.string s, .int .u8 c] w fun e w' => e = .returned (.int .i64 (Lib.indexByte s.data.toList c.toNat.toUInt8)) ∧ w' = w := Any.strings_IndexByte Tryz.lays137 s c w
def Tryz.lays217_ren : Go.Shelf.Ren := ⟨fun | 217 => 172 | 266 => 184 | n => n, fun | 9 => 9 | 5 => 5 | 3 => 3 | n => n, fun | n => n⟩
theorem Tryz.lays217 : Go.Proofs.Lays.n217 Tryz.prog Tryz.lays217_ren := {
  mixed := by kernel_rfl
  f217 := Tryz.func172.trans (congrArg some (by kernel_rfl))
  f266 := Tryz.func184.trans (congrArg some (by kernel_rfl))
  t3 := Tryz.underlying3
  a3 := Tryz.isAgg3
  z3 := Tryz.sizeOf3
  v3 := Tryz.zeroValue3
  t5 := Tryz.underlying5
  a5 := Tryz.isAgg5
  z5 := Tryz.sizeOf5
  v5 := Tryz.zeroValue5
  t9 := Tryz.underlying9
  a9 := Tryz.isAgg9
  z9 := Tryz.sizeOf9
  v9 := Tryz.zeroValue9 }
open Go.RowKit Go.Lib in
theorem Tryz.stringslite_IndexByte (s : ByteArray) (c : Int) (w : World) :
    Calls Tryz.prog 172 #[.string s, .int .u8 c] w fun e w' => e = .returned (.int .i64 (Lib.indexByte s.data.toList c.toNat.toUInt8)) ∧ w' = w := Any.stringslite_IndexByte Tryz.lays217 s c w
def Tryz.lays224_ren : Go.Shelf.Ren := ⟨fun | 224 => 187 | n => n, fun | 3 => 3 | n => n, fun | n => n⟩
theorem Tryz.lays224 : Go.Proofs.Lays.n224 Tryz.prog Tryz.lays224_ren := {
  mixed := by kernel_rfl
  f224 := Tryz.func187.trans (congrArg some (by kernel_rfl))
  t3 := Tryz.underlying3
  a3 := Tryz.isAgg3
  z3 := Tryz.sizeOf3
  v3 := Tryz.zeroValue3 }
open Go.RowKit Go.Lib in
theorem Tryz.bytealg_Cutover (n : Int) (h0 : 0 ≤ n) (h1 : n < 4611686018427387904) (w : World) :
    Calls Tryz.prog 187 #[.int .i64 n] w fun e w' => e = .returned (.int .i64 ((n + 16) / 8)) ∧ w' = w := Any.bytealg_Cutover Tryz.lays224 n h0 h1 w
def Tryz.lays314_ren : Go.Shelf.Ren := ⟨fun | 314 => 191 | n => n, fun | 9 => 9 | 51 => 207 | 3 => 3 | 4 => 4 | 5 => 5 | 46 => 164 | n => n, fun | n => n⟩
theorem Tryz.lays314 : Go.Proofs.Lays.n314 Tryz.prog Tryz.lays314_ren := {
  mixed := by kernel_rfl
  f314 := Tryz.func191.trans (congrArg some (by kernel_rfl))
  t3 := Tryz.underlying3
  a3 := Tryz.isAgg3
  z3 := Tryz.sizeOf3
  v3 := Tryz.zeroValue3
  t4 := Tryz.underlying4
  a4 := Tryz.isAgg4
  z4 := Tryz.sizeOf4
  v4 := Tryz.zeroValue4
  t5 := Tryz.underlying5
  a5 := Tryz.isAgg5
  z5 := Tryz.sizeOf5
  v5 := Tryz.zeroValue5
  t9 := Tryz.underlying9
  a9 := Tryz.isAgg9
  z9 := Tryz.sizeOf9
  v9 := Tryz.zeroValue9
  t46 := Tryz.underlying164
  a46 := Tryz.isAgg164
  z46 := Tryz.sizeOf164
  v46 := Tryz.zeroValue164
  t51 := Tryz.underlying207
  a51 := Tryz.isAgg207
  z51 := Tryz.sizeOf207
  v51 := Tryz.zeroValue207 }
open Go.RowKit Go.Lib in
theorem Tryz.bytealg_hashStr (sep : ByteArray) (hs : sep.size < 4294967281) (w : World) :
    Calls Tryz.prog 191 #[.string sep] w fun e w' => e = .returned (.tuple #[.int .u32 (RK.H sep.data.toList % 4294967296), .int .u32 (16777619 ^ sep.size % 4294967296)]) ∧ w' = w := Any.bytealg_hashStr Tryz.lays314 sep hs w
def Tryz.lays267_ren : Go.Shelf.Ren := ⟨fun | 267 => 190 | 314 => 191 | n => n, fun | 9 => 9 | 3 => 3 | 146 => 208 | 51 => 207 | 4 => 4 | 5 => 5 | 46 => 164 | n => n, fun | n => n⟩
theorem Tryz.lays267 : Go.Proofs.Lays.n267 Tryz.prog Tryz.lays267_ren := {
  mixed := by kernel_rfl
  f267 := Tryz.func190.trans (congrArg some (by kernel_rfl))
  f314 := Tryz.func191.trans (congrArg some (by kernel_rfl))
  t3 := Tryz.underlying3
  a3 := Tryz.isAgg3
  z3 := Tryz.sizeOf3
  v3 := Tryz.zeroValue3
  t4 := Tryz.underlying4
  a4 := Tryz.isAgg4
  z4 := Tryz.sizeOf4
  v4 := Tryz.zeroValue4
  t5 := Tryz.underlying5
  a5 := Tryz.isAgg5
  z5 := Tryz.sizeOf5
  v5 := Tryz.zeroValue5
  t9 := Tryz.underlying9
  a9 := Tryz.isAgg9
  z9 := Tryz.sizeOf9
  v9 := Tryz.zeroValue9
  t46 := Tryz.underlying164
  a46 := Tryz.isAgg164
  z46 := Tryz.sizeOf164
  v46 := Tryz.zeroValue164
  t51 := Tryz.underlying207
  a51 := Tryz.isAgg207
  z51 := Tryz.sizeOf207
  v51 := Tryz.zeroValue207
  t146 := Tryz.underlying208
  a146 := Tryz.isAgg208
  z146 := Tryz.sizeOf208
  v146 := Tryz.zeroValue208 }
open Go.RowKit Go.Lib in
theorem Tryz.bytealg_IndexRabinKarp (s sep : ByteArray) (h1 : 1 ≤ sep.size) (h2 : sep.size ≤ s.size) (hs : s.size < 4294967281) (w : World) :
    Calls Tryz.prog 190 #[.string s, .string sep] w fun e w' => e = .returned (.int .i64 (Lib.index s.data.toList sep.data.toList)) ∧ w' = w := Any.bytealg_IndexRabinKarp Tryz.lays267 s sep h1 h2 hs w
def Tryz.lays219_ren : Go.Shelf.Ren := ⟨fun | 219 => 189 | 217 => 172 | 225 => 188 | 224 => 187 | 267 => 190 | 266 => 184 | 314 => 191 | n => n, fun | 9 => 9 | 3 => 3 | 4 => 4 | 5 => 5 | 46 => 164 | 146 => 208 | 51 => 207 | n => n, fun | 1 => 4 | n => n⟩
theorem Tryz.lays219 : Go.Proofs.Lays.n219 Tryz.prog Tryz.lays219_ren := {
  mixed := by kernel_rfl
  f217 := Tryz.func172.trans (congrArg some (by kernel_rfl))
  f219 := Tryz.func189.trans (congrArg some (by kernel_rfl))
  f224 := Tryz.func187.trans (congrArg some (by kernel_rfl))
  f225 := Tryz.func188.trans (congrArg some (by kernel_rfl))
  f266 := Tryz.func184.trans (congrArg some (by kernel_rfl))
  f267 := Tryz.func190.trans (congrArg some (by kernel_rfl))
  f314 := Tryz.func191.trans (congrArg some (by kernel_rfl))
  t3 := Tryz.underlying3
  a3 := Tryz.isAgg3
  z3 := Tryz.sizeOf3
  v3 := Tryz.zeroValue3
  t4 := Tryz.underlying4
  a4 := Tryz.isAgg4
  z4 := Tryz.sizeOf4
  v4 := Tryz.zeroValue4
  t5 := Tryz.underlying5
  a5 := Tryz.isAgg5
  z5 := Tryz.sizeOf5
  v5 := Tryz.zeroValue5
  t9 := Tryz.underlying9
  a9 := Tryz.isAgg9
  z9 := Tryz.sizeOf9
  v9 := Tryz.zeroValue9
  t46 := Tryz.underlying164
  a46 := Tryz.isAgg164
  z46 := Tryz.sizeOf164
  v46 := Tryz.zeroValue164
  t51 := Tryz.underlying207
  a51 := Tryz.isAgg207
  z51 := Tryz.sizeOf207
  v51 := Tryz.zeroValue207
  t146 := Tryz.underlying208
  a146 := Tryz.isAgg208
  z146 := Tryz.sizeOf208
  v146 := Tryz.zeroValue208
  g1 := by kernel_rfl }
open Go.RowKit Go.Lib in
theorem Tryz.stringslite_Index_one (s : ByteArray) (c : UInt8) (w : World) :
    Calls Tryz.prog 189 #[.string s, .string ⟨#[c]⟩] w fun e w' => e = .returned (.int .i64 (Lib.indexByte s.data.toList c)) ∧ w' = w := Any.stringslite_Index_one Tryz.lays219 s c w
open Go.RowKit Go.Lib in
theorem Tryz.stringslite_Index (s sub : ByteArray) (m : Int) (w : World) (hs : s.size < 4294967281) (hm : w.cell? ⟨4, 0, none⟩ = some (.int .i64 m)) :
    Calls Tryz.prog 189 #[.string s, .string sub] w fun e w' => e = .returned (.int .i64 (Lib.index s.data.toList sub.data.toList)) ∧ w' = w := Any.stringslite_Index Tryz.lays219 s sub m w hs hm
def Tryz.lays220_ren : Go.Shelf.Ren := ⟨fun | 220 => 185 | 219 => 189 | 217 => 172 | 225 => 188 | 224 => 187 | 267 => 190 | 266 => 184 | 314 => 191 | n => n, fun | 9 => 9 | 4 => 4 | 3 => 3 | 5 => 5 | 46 => 164 | 146 => 208 | 51 => 207 | n => n, fun | 1 => 4 | n => n⟩
theorem Tryz.lays220 : Go.Proofs.Lays.n220 Tryz.prog Tryz.lays220_ren := {
  mixed := by kernel_rfl
  f217 := Tryz.func172.trans (congrArg some (by kernel_rfl))
  f219 := Tryz.func189.trans (congrArg some (by kernel_rfl))
  f220 := Tryz.func185.trans (congrArg some (by kernel_rfl))
  f224 := Tryz.func187.trans (congrArg some (by kernel_rfl))
  f225 := Tryz.func188.trans (congrArg some (by kernel_rfl))
  f266 := Tryz.func184.trans (congrArg some (by kernel_rfl))
  f267 := Tryz.func190.trans (congrArg some (by kernel_rfl))
  f314 := Tryz.func191.trans (congrArg some (by kernel_rfl))
  t3 := Tryz.underlying3
  a3 := Tryz.isAgg3
  z3 := Tryz.sizeOf3
  v3 := Tryz.zeroValue3
  t4 := Tryz.underlying4
  a4 := Tryz.isAgg4
  z4 := Tryz.sizeOf4
  v4 := Tryz.zeroValue4
  t5 := Tryz.underlying5
  a5 := Tryz.isAgg5
  z5 := Tryz.sizeOf5
  v5 := Tryz.zeroValue5
  t9 := Tryz.underlying9
  a9 := Tryz.isAgg9
  z9 := Tryz.sizeOf9
  v9 := Tryz.zeroValue9
  t46 := Tryz.underlying164
  a46 := Tryz.isAgg164
  z46 := Tryz.sizeOf164
  v46 := Tryz.zeroValue164
  t51 := Tryz.underlying207
  a51 := Tryz.isAgg207
  z51 := Tryz.sizeOf207
  v51 := Tryz.zeroValue207
  t146 := Tryz.underlying208
  a146 := Tryz.isAgg208
  z146 := Tryz.sizeOf208
  v146 := Tryz.zeroValue208
  g1 := by kernel_rfl }
open Go.RowKit Go.Lib in
theorem Tryz.stringslite_Cut (s sep : ByteArray) (m : Int) (w : World) (hs : s.size < 4294967281) (hm : w.cell? ⟨4, 0, none⟩ = some (.int .i64 m)) :
    Calls Tryz.prog 185 #[.string s, .string sep] w fun e w' => e = .returned (.tuple #[.string ⟨(Lib.cut s.data.toList sep.data.toList).1.toArray⟩, .string ⟨(Lib.cut s.data.toList sep.data.toList).2.1.toArray⟩, .bool (Lib.cut s.data.toList sep.data.toList).2.2]) ∧ ∃ n, w' = w.drewN n := Any.stringslite_Cut Tryz.lays220 s sep m w hs hm
def Tryz.lays145_ren : Go.Shelf.Ren := ⟨fun | 145 => 173 | 220 => 185 | 219 => 189 | 217 => 172 | 225 => 188 | 224 => 187 | 267 => 190 | 266 => 184 | 314 => 191 | n => n, fun | 9 => 9 | 4 => 4 | 59 => 193 | 3 => 3 | 5 => 5 | 46 => 164 | 146 => 208 | 51 => 207 | n => n, fun | 1 => 4 | n => n⟩
theorem Tryz.lays145 : Go.Proofs.Lays.n145 Tryz.prog Tryz.lays145_ren := {
  mixed := by kernel_rfl
  f145 := Tryz.func173.trans (congrArg some (by kernel_rfl))
  f217 := Tryz.func172.trans (congrArg some (by kernel_rfl))
  f219 := Tryz.func189.trans (congrArg some (by kernel_rfl))
  f220 := Tryz.func185.trans (congrArg some (by kernel_rfl))
  f224 := Tryz.func187.trans (congrArg some (by kernel_rfl))
  f225 := Tryz.func188.trans (congrArg some (by kernel_rfl))
  f266 := Tryz.func184.trans (congrArg some (by kernel_rfl))
  f267 := Tryz.func190.trans (congrArg some (by kernel_rfl))
  f314 := Tryz.func191.trans (congrArg some (by kernel_rfl))
  t3 := Tryz.underlying3
  a3 := Tryz.isAgg3
  z3 := Tryz.sizeOf3
  v3 := Tryz.zeroValue3
  t4 := Tryz.underlying4
  a4 := Tryz.isAgg4
  z4 := Tryz.sizeOf4
  v4 := Tryz.zeroValue4
  t5 := Tryz.underlying5
  a5 := Tryz.isAgg5
  z5 := Tryz.sizeOf5
  v5 := Tryz.zeroValue5
  t9 := Tryz.underlying9
  a9 := Tryz.isAgg9
  z9 := Tryz.sizeOf9
  v9 := Tryz.zeroValue9
  t46 := Tryz.underlying164
  a46 := Tryz.isAgg164
  z46 := Tryz.sizeOf164
  v46 := Tryz.zeroValue164
  t51 := Tryz.underlying207
  a51 := Tryz.isAgg207
  z51 := Tryz.sizeOf207
  v51 := Tryz.zeroValue207
  t59 := Tryz.underlying193
  a59 := Tryz.isAgg193
  z59 := Tryz.sizeOf193
  v59 := Tryz.zeroValue193
  t146 := Tryz.underlying208
  a146 := Tryz.isAgg208
  z146 := Tryz.sizeOf208
  v146 := Tryz.zeroValue208
  g1 := by kernel_rfl }
open Go.RowKit Go.Lib in
theorem Tryz.strings_Cut (s sep : ByteArray) (m : Int) (w : World) (hs : s.size < 4294967281) (hm : w.cell? ⟨4, 0, none⟩ = some (.int .i64 m)) :
    Calls Tryz.prog 173 #[.string s, .string sep] w fun e w' => e = .returned (.tuple #[.string ⟨(Lib.cut s.data.toList sep.data.toList).1.toArray⟩, .string ⟨(Lib.cut s.data.toList sep.data.toList).2.1.toArray⟩, .bool (Lib.cut s.data.toList sep.data.toList).2.2]) ∧ ∃ n, w' = w.drewN n := Any.strings_Cut Tryz.lays145 s sep m w hs hm
def Tryz.laysM219_ren : Go.Shelf.Ren := ⟨fun | 219 => 189 | 217 => 172 | 225 => 188 | 224 => 187 | 267 => 190 | 266 => 184 | 314 => 191 | n => n, fun | 9 => 9 | 3 => 3 | 4 => 4 | 5 => 5 | 46 => 164 | 146 => 208 | 51 => 207 | n => n, fun | 1 => 4 | n => n⟩
theorem Tryz.laysM219 : Go.Proofs.LaysM.n219 Tryz.prog Tryz.laysM219_ren := {
  mixed := by kernel_rfl
  f217 := Tryz.func172.trans (congrArg some (by kernel_rfl))
  f219 := Tryz.func189.trans (congrArg some (by kernel_rfl))
  f224 := Tryz.func187.trans (congrArg some (by kernel_rfl))
  f225 := Tryz.func188.trans (congrArg some (by kernel_rfl))
  f266 := Tryz.func184.trans (congrArg some (by kernel_rfl))
  f267 := Tryz.func190.trans (congrArg some (by kernel_rfl))
  f314 := Tryz.func191.trans (congrArg some (by kernel_rfl))
  t3 := Tryz.underlying3
  a3 := Tryz.isAgg3
  z3 := Tryz.sizeOf3
  v3 := Tryz.zeroValue3
  t4 := Tryz.underlying4
  a4 := Tryz.isAgg4
  z4 := Tryz.sizeOf4
  v4 := Tryz.zeroValue4
  t5 := Tryz.underlying5
  a5 := Tryz.isAgg5
  z5 := Tryz.sizeOf5
  v5 := Tryz.zeroValue5
  t9 := Tryz.underlying9
  a9 := Tryz.isAgg9
  z9 := Tryz.sizeOf9
  v9 := Tryz.zeroValue9
  t46 := Tryz.underlying164
  a46 := Tryz.isAgg164
  z46 := Tryz.sizeOf164
  v46 := Tryz.zeroValue164
  t51 := Tryz.underlying207
  a51 := Tryz.isAgg207
  z51 := Tryz.sizeOf207
  v51 := Tryz.zeroValue207
  t146 := Tryz.underlying208
  a146 := Tryz.isAgg208
  z146 := Tryz.sizeOf208
  v146 := Tryz.zeroValue208
  g1 := by kernel_rfl
  i3 := by kernel_rfl
  i4 := by kernel_rfl
  i5 := by kernel_rfl
  i9 := by kernel_rfl
  i46 := by kernel_rfl
  i51 := by kernel_rfl
  i146 := by kernel_rfl
  m1 := by kernel_rfl
  s1_3 := fun w h => Go.Proofs.cell_of_shapedOpen_int (zero := #[.int .i64 0]) (t := 3) h (of_decide_eq_true (by kernel_rfl)) (by kernel_rfl) rfl (by kernel_rfl) (by kernel_rfl) Tryz.underlying3 }
open Go.RowKit Go.Lib in
theorem Tryz.stringslite_Index_shaped (s sub : ByteArray) (w : World) (h : w.ShapedOpen Tryz.prog) (hs : s.size < 4294967281) :
    Calls Tryz.prog 189 #[.string s, .string sub] w fun e w' => e = .returned (.int .i64 (Lib.index s.data.toList sub.data.toList)) ∧ w' = w := Any.stringslite_Index_shaped Tryz.laysM219 s sub w h hs
def Tryz.laysM220_ren : Go.Shelf.Ren := ⟨fun | 220 => 185 | 219 => 189 | 217 => 172 | 225 => 188 | 224 => 187 | 267 => 190 | 266 => 184 | 314 => 191 | n => n, fun | 9 => 9 | 4 => 4 | 3 => 3 | 5 => 5 | 46 => 164 | 146 => 208 | 51 => 207 | n => n, fun | 1 => 4 | n => n⟩
theorem Tryz.laysM220 : Go.Proofs.LaysM.n220 Tryz.prog Tryz.laysM220_ren := {
  mixed := by kernel_rfl
  f217 := Tryz.func172.trans (congrArg some (by kernel_rfl))
  f219 := Tryz.func189.trans (congrArg some (by kernel_rfl))
  f220 := Tryz.func185.trans (congrArg some (by kernel_rfl))
  f224 := Tryz.func187.trans (congrArg some (by kernel_rfl))
  f225 := Tryz.func188.trans (congrArg some (by kernel_rfl))
  f266 := Tryz.func184.trans (congrArg some (by kernel_rfl))
  f267 := Tryz.func190.trans (congrArg some (by kernel_rfl))
  f314 := Tryz.func191.trans (congrArg some (by kernel_rfl))
  t3 := Tryz.underlying3
  a3 := Tryz.isAgg3
  z3 := Tryz.sizeOf3
  v3 := Tryz.zeroValue3
  t4 := Tryz.underlying4
  a4 := Tryz.isAgg4
  z4 := Tryz.sizeOf4
  v4 := Tryz.zeroValue4
  t5 := Tryz.underlying5
  a5 := Tryz.isAgg5
  z5 := Tryz.sizeOf5
  v5 := Tryz.zeroValue5
  t9 := Tryz.underlying9
  a9 := Tryz.isAgg9
  z9 := Tryz.sizeOf9
  v9 := Tryz.zeroValue9
  t46 := Tryz.underlying164
  a46 := Tryz.isAgg164
  z46 := Tryz.sizeOf164
  v46 := Tryz.zeroValue164
  t51 := Tryz.underlying207
  a51 := Tryz.isAgg207
  z51 := Tryz.sizeOf207
  v51 := Tryz.zeroValue207
  t146 := Tryz.underlying208
  a146 := Tryz.isAgg208
  z146 := Tryz.sizeOf208
  v146 := Tryz.zeroValue208
  g1 := by kernel_rfl
  i3 := by kernel_rfl
  i4 := by kernel_rfl
  i5 := by kernel_rfl
  i9 := by kernel_rfl
  i46 := by kernel_rfl
  i51 := by kernel_rfl
  i146 := by kernel_rfl
  m1 := by kernel_rfl
  s1_3 := fun w h => Go.Proofs.cell_of_shapedOpen_int (zero := #[.int .i64 0]) (t := 3) h (of_decide_eq_true (by kernel_rfl)) (by kernel_rfl) rfl (by kernel_rfl) (by kernel_rfl) Tryz.underlying3 }
open Go.RowKit Go.Lib in
theorem Tryz.stringslite_Cut_shaped (s sep : ByteArray) (w : World) (h : w.ShapedOpen Tryz.prog) (hs : s.size < 4294967281) :
    Calls Tryz.prog 185 #[.string s, .string sep] w fun e w' => e = .returned (.tuple #[.string ⟨(Lib.cut s.data.toList sep.data.toList).1.toArray⟩, .string ⟨(Lib.cut s.data.toList sep.data.toList).2.1.toArray⟩, .bool (Lib.cut s.data.toList sep.data.toList).2.2]) ∧ ∃ n, w' = w.drewN n := Any.stringslite_Cut_shaped Tryz.laysM220 s sep w h hs
def Tryz.laysM145_ren : Go.Shelf.Ren := ⟨fun | 145 => 173 | 220 => 185 | 219 => 189 | 217 => 172 | 225 => 188 | 224 => 187 | 267 => 190 | 266 => 184 | 314 => 191 | n => n, fun | 9 => 9 | 4 => 4 | 59 => 193 | 3 => 3 | 5 => 5 | 46 => 164 | 146 => 208 | 51 => 207 | n => n, fun | 1 => 4 | n => n⟩
theorem Tryz.laysM145 : Go.Proofs.LaysM.n145 Tryz.prog Tryz.laysM145_ren := {
  mixed := by kernel_rfl
  f145 := Tryz.func173.trans (congrArg some (by kernel_rfl))
  f217 := Tryz.func172.trans (congrArg some (by kernel_rfl))
  f219 := Tryz.func189.trans (congrArg some (by kernel_rfl))
  f220 := Tryz.func185.trans (congrArg some (by kernel_rfl))
  f224 := Tryz.func187.trans (congrArg some (by kernel_rfl))
  f225 := Tryz.func188.trans (congrArg some (by kernel_rfl))
  f266 := Tryz.func184.trans (congrArg some (by kernel_rfl))
  f267 := Tryz.func190.trans (congrArg some (by kernel_rfl))
  f314 := Tryz.func191.trans (congrArg some (by kernel_rfl))
  t3 := Tryz.underlying3
  a3 := Tryz.isAgg3
  z3 := Tryz.sizeOf3
  v3 := Tryz.zeroValue3
  t4 := Tryz.underlying4
  a4 := Tryz.isAgg4
  z4 := Tryz.sizeOf4
  v4 := Tryz.zeroValue4
  t5 := Tryz.underlying5
  a5 := Tryz.isAgg5
  z5 := Tryz.sizeOf5
  v5 := Tryz.zeroValue5
  t9 := Tryz.underlying9
  a9 := Tryz.isAgg9
  z9 := Tryz.sizeOf9
  v9 := Tryz.zeroValue9
  t46 := Tryz.underlying164
  a46 := Tryz.isAgg164
  z46 := Tryz.sizeOf164
  v46 := Tryz.zeroValue164
  t51 := Tryz.underlying207
  a51 := Tryz.isAgg207
  z51 := Tryz.sizeOf207
  v51 := Tryz.zeroValue207
  t59 := Tryz.underlying193
  a59 := Tryz.isAgg193
  z59 := Tryz.sizeOf193
  v59 := Tryz.zeroValue193
  t146 := Tryz.underlying208
  a146 := Tryz.isAgg208
  z146 := Tryz.sizeOf208
  v146 := Tryz.zeroValue208
  g1 := by kernel_rfl
  i3 := by kernel_rfl
  i4 := by kernel_rfl
  i5 := by kernel_rfl
  i9 := by kernel_rfl
  i46 := by kernel_rfl
  i51 := by kernel_rfl
  i59 := by kernel_rfl
  i146 := by kernel_rfl
  m1 := by kernel_rfl
  s1_3 := fun w h => Go.Proofs.cell_of_shapedOpen_int (zero := #[.int .i64 0]) (t := 3) h (of_decide_eq_true (by kernel_rfl)) (by kernel_rfl) rfl (by kernel_rfl) (by kernel_rfl) Tryz.underlying3 }
open Go.RowKit Go.Lib in
theorem Tryz.strings_Cut_shaped (s sep : ByteArray) (w : World) (h : w.ShapedOpen Tryz.prog) (hs : s.size < 4294967281) :
    Calls Tryz.prog 173 #[.string s, .string sep] w fun e w' => e = .returned (.tuple #[.string ⟨(Lib.cut s.data.toList sep.data.toList).1.toArray⟩, .string ⟨(Lib.cut s.data.toList sep.data.toList).2.1.toArray⟩, .bool (Lib.cut s.data.toList sep.data.toList).2.2]) ∧ ∃ n, w' = w.drewN n := Any.strings_Cut_shaped Tryz.laysM145 s sep w h hs
def Tryz.lays206_ren : Go.Shelf.Ren := ⟨fun | 206 => 122 | n => n, fun | 9 => 9 | 4 => 4 | 3 => 3 | n => n, fun | n => n⟩
theorem Tryz.lays206 : Go.Proofs.Lays.n206 Tryz.prog Tryz.lays206_ren := {
  mixed := by kernel_rfl
  f206 := Tryz.func122.trans (congrArg some (by kernel_rfl))
  t3 := Tryz.underlying3
  a3 := Tryz.isAgg3
  z3 := Tryz.sizeOf3
  v3 := Tryz.zeroValue3
  t4 := Tryz.underlying4
  a4 := Tryz.isAgg4
  z4 := Tryz.sizeOf4
  v4 := Tryz.zeroValue4
  t9 := Tryz.underlying9
  a9 := Tryz.isAgg9
  z9 := Tryz.sizeOf9
  v9 := Tryz.zeroValue9 }
open Go.RowKit Go.Lib in
theorem Tryz.stringslite_HasPrefix (s p : ByteArray) (w : World) :
    Calls Tryz.prog 122 #[.string s, .string p] w fun e w' => e = .returned (.bool (Lib.hasPrefix s.data.toList p.data.toList)) ∧ w' = w := Any.stringslite_HasPrefix Tryz.lays206 s p w
def Tryz.lays99_ren : Go.Shelf.Ren := ⟨fun | 99 => 98 | 206 => 122 | n => n, fun | 9 => 9 | 4 => 4 | 3 => 3 | n => n, fun | n => n⟩
theorem Tryz.lays99 : Go.Proofs.Lays.n99 Tryz.prog Tryz.lays99_ren := {
  mixed := by kernel_rfl
  f99 := Tryz.func98.trans (congrArg some (by kernel_rfl))
  f206 := Tryz.func122.trans (congrArg some (by kernel_rfl))
  t3 := Tryz.underlying3
  a3 := Tryz.isAgg3
  z3 := Tryz.sizeOf3
  v3 := Tryz.zeroValue3
  t4 := Tryz.underlying4
  a4 := Tryz.isAgg4
  z4 := Tryz.sizeOf4
  v4 := Tryz.zeroValue4
  t9 := Tryz.underlying9
  a9 := Tryz.isAgg9
  z9 := Tryz.sizeOf9
  v9 := Tryz.zeroValue9 }
open Go.RowKit Go.Lib in
theorem Tryz.strings_HasPrefix (s p : ByteArray) (w : World) :
    Calls Tryz.prog 98 #[.string s, .string p] w fun e w' => e = .returned (.bool (Lib.hasPrefix s.data.toList p.data.toList)) ∧ w' = w := Any.strings_HasPrefix Tryz.lays99 s p w
def Tryz.lays152_ren : Go.Shelf.Ren := ⟨fun | 152 => 183 | 137 => 153 | 119 => 186 | 224 => 187 | 225 => 188 | 217 => 172 | 266 => 184 | n => n, fun | 9 => 9 | 21 => 21 | 3 => 3 | 4 => 4 | 5 => 5 | 0 => 0 | 46 => 164 | n => n, fun | n => n⟩
theorem Tryz.lays152 : Go.Proofs.Lays.n152 Tryz.prog Tryz.lays152_ren := {
  mixed := by kernel_rfl
  f119 := Tryz.func186.trans (congrArg some (by kernel_rfl))
  f137 := Tryz.func153.trans (congrArg some (by kernel_rfl))
  f152 := Tryz.func183.trans (congrArg some (by kernel_rfl))
  f217 := Tryz.func172.trans (congrArg some (by kernel_rfl))
  f224 := Tryz.func187.trans (congrArg some (by kernel_rfl))
  f225 := Tryz.func188.trans (congrArg some (by kernel_rfl))
  f266 := Tryz.func184.trans (congrArg some (by kernel_rfl))
  t0 := Tryz.underlying0
  a0 := Tryz.isAgg0
  z0 := Tryz.sizeOf0
  v0 := Tryz.zeroValue0
  t3 := Tryz.underlying3
  a3 := Tryz.isAgg3
  z3 := Tryz.sizeOf3
  v3 := Tryz.zeroValue3
  t4 := Tryz.underlying4
  a4 := Tryz.isAgg4
  z4 := Tryz.sizeOf4
  v4 := Tryz.zeroValue4
  t5 := Tryz.underlying5
  a5 := Tryz.isAgg5
  z5 := Tryz.sizeOf5
  v5 := Tryz.zeroValue5
  t9 := Tryz.underlying9
  a9 := Tryz.isAgg9
  z9 := Tryz.sizeOf9
  v9 := Tryz.zeroValue9
  t21 := Tryz.underlying21
  a21 := Tryz.isAgg21
  z21 := Tryz.sizeOf21
  v21 := Tryz.zeroValue21
  t46 := Tryz.underlying164
  a46 := Tryz.isAgg164
  z46 := Tryz.sizeOf164
  v46 := Tryz.zeroValue164 }
open Go.RowKit Go.Lib in
theorem Tryz.strings_IndexRune_ascii (s : ByteArray) (r : Int) (w : World) (h0 : 0 ≤ r) (h1 : r < 128) :
    Calls Tryz.prog 183 #[.string s, .int .i32 r] w fun e w' => e = .returned (.int .i64 (Lib.indexByte s.data.toList r.toNat.toUInt8)) ∧ w' = w := Any.strings_IndexRune_ascii Tryz.lays152 s r w h0 h1
def Tryz.lays151_ren : Go.Shelf.Ren := ⟨fun | 151 => 171 | 152 => 183 | 137 => 153 | 119 => 186 | 224 => 187 | 225 => 188 | 217 => 172 | 266 => 184 | n => n, fun | 9 => 9 | 21 => 21 | 4 => 4 | 3 => 3 | 5 => 5 | 0 => 0 | 46 => 164 | n => n, fun | n => n⟩
theorem Tryz.lays151 : Go.Proofs.Lays.n151 Tryz.prog Tryz.lays151_ren := {
  mixed := by kernel_rfl
  f119 := Tryz.func186.trans (congrArg some (by kernel_rfl))
  f137 := Tryz.func153.trans (congrArg some (by kernel_rfl))
  f151 := Tryz.func171.trans (congrArg some (by kernel_rfl))
  f152 := Tryz.func183.trans (congrArg some (by kernel_rfl))
  f217 := Tryz.func172.trans (congrArg some (by kernel_rfl))
  f224 := Tryz.func187.trans (congrArg some (by kernel_rfl))
  f225 := Tryz.func188.trans (congrArg some (by kernel_rfl))
  f266 := Tryz.func184.trans (congrArg some (by kernel_rfl))
  t0 := Tryz.underlying0
  a0 := Tryz.isAgg0
  z0 := Tryz.sizeOf0
  v0 := Tryz.zeroValue0
  t3 := Tryz.underlying3
  a3 := Tryz.isAgg3
  z3 := Tryz.sizeOf3
  v3 := Tryz.zeroValue3
  t4 := Tryz.underlying4
  a4 := Tryz.isAgg4
  z4 := Tryz.sizeOf4
  v4 := Tryz.zeroValue4
  t5 := Tryz.underlying5
  a5 := Tryz.isAgg5
  z5 := Tryz.sizeOf5
  v5 := Tryz.zeroValue5
  t9 := Tryz.underlying9
  a9 := Tryz.isAgg9
  z9 := Tryz.sizeOf9
  v9 := Tryz.zeroValue9
  t21 := Tryz.underlying21
  a21 := Tryz.isAgg21
  z21 := Tryz.sizeOf21
  v21 := Tryz.zeroValue21
  t46 := Tryz.underlying164
  a46 := Tryz.isAgg164
  z46 := Tryz.sizeOf164
  v46 := Tryz.zeroValue164 }
open Go.RowKit Go.Lib in
theorem Tryz.strings_ContainsRune_ascii (s : ByteArray) (r : Int) (w : World) (h0 : 0 ≤ r) (h1 : r < 128) :
    Calls Tryz.prog 171 #[.string s, .int .i32 r] w fun e w' => e = .returned (.bool (decide (0 ≤ Lib.indexByte s.data.toList r.toNat.toUInt8))) ∧ w' = w := Any.strings_ContainsRune_ascii Tryz.lays151 s r w h0 h1
def Tryz.lays227_ren : Go.Shelf.Ren := ⟨fun | 227 => 150 | n => n, fun | 9 => 9 | 116 => 179 | 4 => 4 | 0 => 0 | 3 => 3 | 5 => 5 | n => n, fun | n => n⟩
theorem Tryz.lays227 : Go.Proofs.Lays.n227 Tryz.prog Tryz.lays227_ren := {
  mixed := by kernel_rfl
  f227 := Tryz.func150.trans (congrArg some (by kernel_rfl))
  t0 := Tryz.underlying0
  a0 := Tryz.isAgg0
  z0 := Tryz.sizeOf0
  v0 := Tryz.zeroValue0
  t3 := Tryz.underlying3
  a3 := Tryz.isAgg3
  z3 := Tryz.sizeOf3
  v3 := Tryz.zeroValue3
  t4 := Tryz.underlying4
  a4 := Tryz.isAgg4
  z4 := Tryz.sizeOf4
  v4 := Tryz.zeroValue4
  t5 := Tryz.underlying5
  a5 := Tryz.isAgg5
  z5 := Tryz.sizeOf5
  v5 := Tryz.zeroValue5
  t9 := Tryz.underlying9
  a9 := Tryz.isAgg9
  z9 := Tryz.sizeOf9
  v9 := Tryz.zeroValue9
  t116 := Tryz.underlying179
  a116 := Tryz.isAgg179
  z116 := Tryz.sizeOf179 }
open Go.RowKit Go.Lib in
theorem Tryz.strings_makeASCIISet (hv116 : ∀ w, (zeroValue 179).run Tryz.prog w = .ok (.agg (Array.replicate 256 (.bool false))) w) (chars : ByteArray) (w : World) (hs : chars.size < 4294967281) (hascii : ∀ (j : Nat) b, chars.data.toList[j]? = some b → b.toNat < 128) :
    Calls Tryz.prog 150 #[.string chars] w fun e w' => e = .returned (.tuple #[.agg (Lib.setCells chars.data.toList), .bool true]) ∧ w' = w.alloc (.cells (Lib.setCells chars.data.toList) 179) := Any.strings_makeASCIISet Tryz.lays227 hv116 (by kernel_rfl) chars w hs hascii
def Tryz.lays228_ren : Go.Shelf.Ren := ⟨fun | 228 => 169 | n => n, fun | 124 => 183 | 5 => 5 | 4 => 4 | 0 => 0 | 116 => 179 | n => n, fun | n => n⟩
theorem Tryz.lays228 : Go.Proofs.Lays.n228 Tryz.prog Tryz.lays228_ren := {
  mixed := by kernel_rfl
  f228 := Tryz.func169.trans (congrArg some (by kernel_rfl))
  t0 := Tryz.underlying0
  a0 := Tryz.isAgg0
  z0 := Tryz.sizeOf0
  v0 := Tryz.zeroValue0
  t4 := Tryz.underlying4
  a4 := Tryz.isAgg4
  z4 := Tryz.sizeOf4
  v4 := Tryz.zeroValue4
  t5 := Tryz.underlying5
  a5 := Tryz.isAgg5
  z5 := Tryz.sizeOf5
  v5 := Tryz.zeroValue5
  t116 := Tryz.underlying179
  a116 := Tryz.isAgg179
  z116 := Tryz.sizeOf179
  t124 := Tryz.underlying183
  a124 := Tryz.isAgg183
  z124 := Tryz.sizeOf183
  v124 := Tryz.zeroValue183 }
open Go.RowKit Go.Lib in
theorem Tryz.asciiSet_contains (b : Nat) (x : UInt8) (v : Bool) (w : World) (hc : w.cell? ⟨b, x.toNat, none⟩ = some (.bool v)) :
    Calls Tryz.prog 169 #[.pointer (some ⟨b, 0, none⟩), .int .u8 x.toNat] w fun e w' => e = .returned (.bool v) ∧ w' = w := Any.asciiSet_contains Tryz.lays228 b x v w hc
def Tryz.lays260_ren : Go.Shelf.Ren := ⟨fun | 260 => 182 | n => n, fun | 9 => 9 | 21 => 21 | 3 => 3 | 4 => 4 | 5 => 5 | 119 => 201 | 0 => 0 | 46 => 164 | 139 => 204 | 138 => 203 | n => n, fun | 3 => 2 | 4 => 3 | n => n⟩
theorem Tryz.lays260 : Go.Proofs.Lays.n260 Tryz.prog Tryz.lays260_ren := {
  mixed := by kernel_rfl
  f260 := Tryz.func182.trans (congrArg some (by kernel_rfl))
  t0 := Tryz.underlying0
  a0 := Tryz.isAgg0
  z0 := Tryz.sizeOf0
  v0 := Tryz.zeroValue0
  t3 := Tryz.underlying3
  a3 := Tryz.isAgg3
  z3 := Tryz.sizeOf3
  v3 := Tryz.zeroValue3
  t4 := Tryz.underlying4
  a4 := Tryz.isAgg4
  z4 := Tryz.sizeOf4
  v4 := Tryz.zeroValue4
  t5 := Tryz.underlying5
  a5 := Tryz.isAgg5
  z5 := Tryz.sizeOf5
  v5 := Tryz.zeroValue5
  t9 := Tryz.underlying9
  a9 := Tryz.isAgg9
  z9 := Tryz.sizeOf9
  v9 := Tryz.zeroValue9
  t21 := Tryz.underlying21
  a21 := Tryz.isAgg21
  z21 := Tryz.sizeOf21
  v21 := Tryz.zeroValue21
  t46 := Tryz.underlying164
  a46 := Tryz.isAgg164
  z46 := Tryz.sizeOf164
  v46 := Tryz.zeroValue164
  t119 := Tryz.underlying201
  a119 := Tryz.isAgg201
  z119 := Tryz.sizeOf201
  t138 := Tryz.underlying203
  a138 := Tryz.isAgg203
  z138 := Tryz.sizeOf203
  v138 := Tryz.zeroValue203
  t139 := Tryz.underlying204
  a139 := Tryz.isAgg204
  z139 := Tryz.sizeOf204
  v139 := Tryz.zeroValue204
  g3 := by kernel_rfl
  g4 := by kernel_rfl }
open Go.RowKit Go.Lib in
theorem Tryz.utf8_decodeRuneInStringSlow (s : ByteArray) (w : World) (hT : Lib.Utf8Tabs 2 3 w) :
    Calls Tryz.prog 182 #[.string s] w fun e w' => e = .returned (.tuple #[.int .i32 (Lib.decodeGo s).1, .int .i64 (Lib.decodeGo s).2]) ∧ Below w.heap.size w w' := Any.utf8_decodeRuneInStringSlow Tryz.lays260 s w hT
end Go.Proofs
/-
  What the rows lean on: the library's functions on strings.
-/
namespace Go.AM
open Go Go.Proofs Go.RowKit
set_option maxRecDepth 100000
theorem inv_of_calls {P : Program} {f : FuncId} {fn : Func} {c : Code} (hf : P.funcs[f]? = some fn) (hb : fn.body = some c) (hn : (fn.name == "runtime.NumGoroutine") = false) {vs : Array Value} {w : World} {R : Ending → World → Prop} (h : Calls P f vs w R) : Inv P f vs w R := by
  have hr := callFunc_body hf hb hn vs w
  unfold Inv
  rw [hr]
  exact h
theorem callOK_pure {f : FuncId} {fn : Func} {c : Code} (hlt : f < 1000000) (hf : Tryz.prog.funcs[f]? = some fn) (hb : fn.body = some c) (hn : (fn.name == "runtime.NumGoroutine") = false) {slots : List (Nat × Sh)} {res : List Sh} {F : (⟨slots, []⟩ : Pat).X → Option (El (cns (tyL res) (tyO [])))}
    (h : ∀ x y, F x = some y → ∀ (w : World) (ok : Nat → Prop) (κ : Nat → Value) (vs : List Value), RepL w ok κ (mkL (slots.map (·.2)) (fst' x)) vs → ∃ v, Calls Tryz.prog f vs.toArray w (fun e w' => e = .returned v ∧ Below w.heap.size w w') ∧ RepV w ok κ (resV (mkL res (fst' y))) v) :
    CallOK Tryz.prog glob0 f ⟨⟨slots, []⟩, res, [], .plain F⟩ := by
  intro x M0 κ w vs I he hI y hy
  rw [inv_func hlt hI]
  obtain ⟨v, h1, h2⟩ := h x y hy w _ κ vs he.vals
  refine inv_of_calls hf hb hn (h1.mono ?_)
  rintro e w' ⟨rfl, hw⟩
  have hx : Ext w w' (okB M0 κ []) (okB M0 κ []) := ⟨fun b _ hb => hw.block b hb, fun b h _ => h⟩
  have hm := he.mem
  refine ⟨κ, fun _ _ => rfl, ⟨(fun id o ho => by cases ho), (fun i j o p b ho => by cases ho), fun b hb => hm.off b hb, ⟨hw.os, hw.tape, hw.output, hw.size, fun b hb _ => hw.block b hb⟩, fun g v hg => RepV.mono hx v _ (hm.glob g v hg)⟩, ?_⟩
  exact RepV.mono hx _ _ h2
theorem byte_eq {b : UInt8} {c : Int} (h0 : 0 ≤ c) (h1 : c ≤ 255) : ((b.toNat : Int) = c) ↔ b = c.toNat.toUInt8 := by
  obtain ⟨k, rfl⟩ := Int.eq_ofNat_of_zero_le h0
  have hk : k < 256 := by omega
  constructor
  · intro h
    have h : b.toNat = k := by omega
    rw [show ((k : Int)).toNat = k from rfl, ← h]
    exact (UInt8.toNat_inj.1 (by simp)).symm
  · rintro rfl
    simp only [Int.toNat_natCast]
    have : (k.toUInt8).toNat = k % 256 := UInt8.toNat_ofNat'
    rw [this]
    omega
theorem indexByte_ge : ∀ (l : List UInt8) (c : UInt8), -1 ≤ Lib.indexByte l c
  | [], _ => by simp [Lib.indexByte]
  | b :: l, c => by
    have := indexByte_ge l c
    simp only [Lib.indexByte]
    split
    · omega
    · split <;> omega
theorem indexByte_le : ∀ (l : List UInt8) (c : UInt8), Lib.indexByte l c ≤ l.length
  | [], _ => by simp [Lib.indexByte]
  | b :: l, c => by
    have := indexByte_le l c
    simp only [Lib.indexByte, List.length_cons]
    split
    · omega
    · split <;> omega
theorem indexL_eq {c : Int} (h0 : 0 ≤ c) (h1 : c ≤ 255) : ∀ (l : List UInt8) (i : Int), indexL c l i = if Lib.indexByte l c.toNat.toUInt8 = -1 then -1 else i + Lib.indexByte l c.toNat.toUInt8
  | [], i => by simp [indexL, Lib.indexByte]
  | b :: l, i => by
    have ih := indexL_eq h0 h1 l (i + 1)
    have hge := indexByte_ge l c.toNat.toUInt8
    simp only [indexL, Lib.indexByte]
    by_cases hb : (b.toNat : Int) = c
    · have hb' := (byte_eq h0 h1).1 hb
      simp [hb, ← hb']
    · have hb' : ¬ b = c.toNat.toUInt8 := fun h => hb ((byte_eq h0 h1).2 h)
      rw [if_neg hb, ih]
      simp only [beq_iff_eq, hb', if_false]
      by_cases hi : Lib.indexByte l c.toNat.toUInt8 = -1
      · simp [hi]
      · simp only [hi, if_false]
        rw [if_neg (by omega)]
        omega
theorem scI_idx (s : ByteArray) (c : UInt8) (hs : s.size ≤ 9223372036854775807) : scOK (.int .i64 (Lib.indexByte s.data.toList c)) := by
  have hl : s.data.toList.length = s.size := Array.length_toList
  have h1 := indexByte_ge s.data.toList c
  have h2 := indexByte_le s.data.toList c
  show (-9223372036854775808 : Int) ≤ _ ∧ _ ≤ (9223372036854775807 : Int)
  omega
theorem indexL_idx {s : ByteArray} {c : Int} (h0 : 0 ≤ c) (h1 : c ≤ 255) : indexL c s.data.toList 0 = Lib.indexByte s.data.toList c.toNat.toUInt8 := by
  rw [indexL_eq h0 h1]
  split
  · rename_i h; exact h.symm
  · omega
theorem base_HasPrefix_ok : CallOK Tryz.prog glob0 98 ⟨⟨[(0, .str), (1, .str)], []⟩, [.bool], [], .plain base_HasPrefix⟩ := by
  refine callOK_pure (by decide) (fn := Tryz.f98) (c := bodyOf Tryz.f98) (by kernel_rfl) (by kernel_rfl) (by kernel_rfl) ?_
  rintro ⟨s, p⟩ y hy w ok κ vs hv
  obtain ⟨_, vs1, rfl, ⟨rfl, _⟩, hv1⟩ := hv
  obtain ⟨_, vs2, rfl, ⟨rfl, _⟩, hv2⟩ := hv1
  rw [show vs2 = [] from hv2]
  cases hy
  exact ⟨_, (Tryz.strings_HasPrefix s p w).mono fun e w' h => ⟨h.1, h.2 ▸ Below.refl _ _⟩, rfl, trivial⟩
theorem base_IndexByte_ok : CallOK Tryz.prog glob0 153 ⟨⟨[(0, .str), (1, .int .u8)], []⟩, [.int .i64], [], .plain base_IndexByte⟩ := by
  refine callOK_pure (by decide) (fn := Tryz.f153) (c := bodyOf Tryz.f153) (by kernel_rfl) (by kernel_rfl) (by kernel_rfl) ?_
  rintro ⟨s, c⟩ y hy w ok κ vs hv
  obtain ⟨_, vs1, rfl, ⟨rfl, hs⟩, hv1⟩ := hv
  obtain ⟨_, vs2, rfl, ⟨rfl, hc⟩, hv2⟩ := hv1
  rw [show vs2 = [] from hv2]
  have hr : (0 : Int) ≤ c ∧ c ≤ 255 := hc
  cases hy
  have he := indexL_idx (s := s) hr.1 hr.2
  refine ⟨_, (Tryz.strings_IndexByte s c w).mono fun e w' h => ⟨h.1, h.2 ▸ Below.refl _ _⟩, ?_⟩
  rw [← he]
  exact ⟨rfl, he ▸ scI_idx s _ hs⟩
theorem base_IndexByteL_ok : CallOK Tryz.prog glob0 172 ⟨⟨[(0, .str), (1, .int .u8)], []⟩, [.int .i64], [], .plain base_IndexByte⟩ := by
  refine callOK_pure (by decide) (fn := Tryz.f172) (c := bodyOf Tryz.f172) (by kernel_rfl) (by kernel_rfl) (by kernel_rfl) ?_
  rintro ⟨s, c⟩ y hy w ok κ vs hv
  obtain ⟨_, vs1, rfl, ⟨rfl, hs⟩, hv1⟩ := hv
  obtain ⟨_, vs2, rfl, ⟨rfl, hc⟩, hv2⟩ := hv1
  rw [show vs2 = [] from hv2]
  have hr : (0 : Int) ≤ c ∧ c ≤ 255 := hc
  cases hy
  have he := indexL_idx (s := s) hr.1 hr.2
  refine ⟨_, (Tryz.stringslite_IndexByte s c w).mono fun e w' h => ⟨h.1, h.2 ▸ Below.refl _ _⟩, ?_⟩
  rw [← he]
  exact ⟨rfl, he ▸ scI_idx s _ hs⟩
theorem any_idx {c : Int} (h0 : 0 ≤ c) (h1 : c ≤ 255) : ∀ l : List UInt8, (l.any fun b => (b.toNat : Int) == c) = decide (0 ≤ Lib.indexByte l c.toNat.toUInt8)
  | [] => by simp [Lib.indexByte]
  | b :: l => by
    have ih := any_idx h0 h1 l
    have hge := indexByte_ge l c.toNat.toUInt8
    simp only [List.any_cons, Lib.indexByte, ih]
    by_cases hb : (b.toNat : Int) = c
    · have hb' := (byte_eq h0 h1).1 hb
      simp [hb, ← hb']
    · have hb' : ¬ b = c.toNat.toUInt8 := fun h => hb ((byte_eq h0 h1).2 h)
      simp only [beq_iff_eq, hb', hb, if_false, beq_eq_false_iff_ne.2 hb, Bool.false_or]
      by_cases hi : Lib.indexByte l c.toNat.toUInt8 = -1
      · simp [hi]
      · rw [if_neg hi]
        congr 1
        exact propext ⟨fun h => by omega, fun h => by omega⟩
theorem base_ContainsRune_ok : CallOK Tryz.prog glob0 171 ⟨⟨[(0, .str), (1, .int .i32)], []⟩, [.bool], [], .plain base_ContainsRune⟩ := by
  refine callOK_pure (by decide) (fn := Tryz.f171) (c := bodyOf Tryz.f171) (by kernel_rfl) (by kernel_rfl) (by kernel_rfl) ?_
  rintro ⟨s, c⟩ y hy w ok κ vs hv
  obtain ⟨_, vs1, rfl, ⟨rfl, hs⟩, hv1⟩ := hv
  obtain ⟨_, vs2, rfl, ⟨rfl, hc⟩, hv2⟩ := hv1
  rw [show vs2 = [] from hv2]
  simp only [base_ContainsRune, containsRuneF] at hy
  split at hy
  · rename_i h
    cases hy
    refine ⟨_, (Tryz.strings_ContainsRune_ascii s c w h.1 h.2).mono fun e w' h => ⟨h.1, h.2 ▸ Below.refl _ _⟩, ?_⟩
    rw [← any_idx h.1 (by omega)]
    exact ⟨rfl, trivial⟩
  · cases hy
theorem base_TrimLeft_ok : CallOK Tryz.prog glob0 134 ⟨⟨[(0, .str), (1, .str)], []⟩, [.str], [], .plain base_TrimLeft⟩ := by
  refine callOK_pure (by decide) (fn := Tryz.f134) (c := bodyOf Tryz.f134) (by kernel_rfl) (by kernel_rfl) (by kernel_rfl) ?_
  rintro ⟨s, p⟩ y hy w ok κ vs hv
  obtain ⟨_, vs1, rfl, ⟨rfl, hs⟩, hv1⟩ := hv
  obtain ⟨_, vs2, rfl, ⟨rfl, _⟩, hv2⟩ := hv1
  rw [show vs2 = [] from hv2]
  simp only [base_TrimLeft, trimLeftF] at hy
  split at hy
  · rename_i h
    simp only [Bool.and_eq_true, decide_eq_true_eq] at h
    cases hy
    refine ⟨_, Any.strings_TrimLeft_laid Tryz.lays161 (by kernel_rfl) s p w h.2 (fun j b hb => ?_), rfl, ?_⟩
    · have := List.all_eq_true.1 h.1 b (List.mem_of_getElem? hb)
      simpa using this
    · show (ByteArray.mk (List.dropWhile _ _).toArray).size ≤ _
      have h1 : (s.data.toList.dropWhile fun b => p.data.toList.contains b).length ≤ s.data.toList.length := (List.dropWhile_sublist _).length_le
      have h2 : s.data.toList.length = s.size := Array.length_toList
      have h3 : s.size ≤ 9223372036854775807 := hs
      simp only [ByteArray.size, List.size_toArray] at h1 h2 h3 ⊢
      omega
  · cases hy
theorem base0_ok : ∀ f s, (f, s) ∈ base0 → CallOK Tryz.prog glob0 f s := by
  intro f s h
  simp only [base0, List.mem_cons, List.not_mem_nil, or_false] at h
  rcases h with h | h | h | h | h
  · cases h; exact base_TrimLeft_ok
  · cases h; exact base_IndexByte_ok
  · cases h; exact base_IndexByteL_ok
  · cases h; exact base_ContainsRune_ok
  · cases h; exact base_HasPrefix_ok
end Go.AM
/-
  Parse's deferred function behind a plain return: recover finds nothing, and nothing is turned.
-/
namespace Go.AM
open Go Go.Proofs Go.RowKit
set_option maxRecDepth 100000
set_option maxHeartbeats 400000
theorem assert_nil (w : World) : (Instr.typeAssert .nilIface 20 124 true).run Tryz.prog w = .ok (.tuple #[.agg #[.int .i64 0, .int .i64 0], .bool false]) w := by kernel_rfl
theorem parse1_idle (p0 p1 p2 : Value) (w : World) :
    CallsD Tryz.prog 79 #[p0, p1, p2] .returning w fun e u' w' => e = .returned (.tuple #[]) ∧ u' = .returning ∧ Below w.heap.size w w' := by
  refine callsD_of_wpS Tryz.func79 rfl fun c₀ cs hu => ?_
  apply wpS_seq
  apply wpS_region
  simp [wpOpsS, go_sem, recoverD, hu, Tryz.ntmps79, Exit.thenS, assert_nil]
  apply wpS_seq
  apply wpS_region
  simp [wpOpsS, go_sem, Exit.thenS]
  refine wpS_cond (t := false) (by simp [Act.eval, Array.replicate]) ?_
  simp only [Bool.false_eq_true, if_false]
  refine wpS_of_wp (wp_skip ?_)
  cases c₀
  simp_all [bodyPostS, results, Tryz.results79]
  exact below_alloc1 w _
theorem dcalls0_ok : ∀ f vs s, findCall prg0.G.dcalls f vs = some s → DCallOK Tryz.prog glob0 f s := by
  intro f vs s h
  have h' := findCall_mem h
  simp only [prg0, List.mem_cons, List.not_mem_nil, or_false] at h'
  cases h'
  intro x M0 κ w vs he y hy
  cases hy
  refine ⟨Tryz.f79, bodyOf Tryz.f79, by kernel_rfl, by kernel_rfl, by kernel_rfl, ?_⟩
  obtain ⟨v0, vs0, rfl, h0, hv0⟩ := he.vals
  obtain ⟨v1, vs1, rfl, h1, hv1⟩ := hv0
  obtain ⟨v2, vs2, rfl, h2, hv2⟩ := hv1
  rw [show vs2 = [] from hv2]
  refine (parse1_idle v0 v1 v2 w).mono ?_
  rintro e u' w' ⟨rfl, rfl, hw⟩
  refine ⟨rfl, _, rfl, κ, fun _ _ => rfl, ?_, ?_⟩
  · exact (Mem.grow he.mem he.old hw (N := fun _ => false)).2
  · exact ⟨[], rfl, rfl⟩
end Go.AM
/-
  The whole: what the rows lean on, joined; a law's call out of what its text computes.
-/
namespace Go.AM
open Go Go.Proofs Go.RowKit
set_option maxRecDepth 100000
theorem gl0_ok : GlOK Tryz.prog prg0.G := by
  refine ⟨tab0, eqs0, glob0_ok, mixed0, bodied0, dcalls0_ok, ?_⟩
  intro g e t h
  have h' := assoc_mem h
  simp only [prg0, List.mem_cons, List.not_mem_nil, or_false] at h'
  rcases h' with h' | h' | h' | h'
  · cases h'; exact clone56
  · cases h'; exact clone57
  · cases h'; exact clone65
  · cases h'; exact clone106
theorem calls0_ok (n : Nat) : ∀ f vs s, findCall (prg0.calls (prg0.lvl n)) f vs = some s → CallOK Tryz.prog glob0 f s :=
  prg0.ok gl0_ok base0_ok yields0_ok rows0_ok n
theorem row0_ok {X : Fx} {ps : List (List Nat × Pat)} {nx : Nat} (hr : (⟨X, none, ps, nx⟩ : Row) ∈ rows0) : ∀ n, CallOK Tryz.prog glob0 X.f ⟨X.inp, X.res, X.robj, .plain ((prg0.lvl n).S ⟨X, none, ps, nx⟩)⟩ := by
  intro n
  cases n with
  | zero => intro x M0 κ w vs I he _ y hy; cases hy
  | succ n =>
    refine call_plain (n := n) (N := prg0.N) (nx := nx) (calls := fun m => prg0.calls (prg0.lvl m)) (pts := fun m => ptsOf _ ps ((prg0.lvl m).P ⟨X, none, ps, nx⟩)) gl0_ok (rows0_ok _ hr) (fun m _ => calls0_ok m) (fun m hm => ?_) (fun x y hy => hy)
    refine allPts_of (fun pt pos x z hz => ?_) ps
    cases m with
    | zero => cases hz
    | succ m => exact ⟨m, rfl, hz⟩
def Laid0 (w : World) : Prop :=
  (∀ j s, wGroups[j]? = some s → w.cell? ⟨0, j, none⟩ = some (.string s)) ∧ (∀ j s, wFuncs[j]? = some s → w.cell? ⟨1, j, none⟩ = some (.string s))
theorem pr_str {w : World} {κ : Nat → Value} {g : Nat} {xs : List ByteArray} (h : ∀ j s, xs[j]? = some s → w.cell? ⟨g, j, none⟩ = some (.string s)) (hl : xs.length ≤ 140737488355328) (hs : ∀ s ∈ xs, s.size ≤ 9223372036854775807) :
    RepV w (okB (fun _ => False) κ []) κ (.pr .str xs) (.pointer (some ⟨g, 0, none⟩)) := by
  refine ⟨g, 0, rfl, hl, fun j x hx => ⟨⟨fun h => h, fun ⟨_, _, h, _⟩ => by cases h⟩, [.string x], .str x (hs x (List.mem_of_getElem? hx)), fun i u hu => ?_⟩⟩
  cases i with
  | zero =>
    cases hu
    have := h j x hx
    simpa [csize] using this
  | succ i => cases hu
theorem glob0_rep {w : World} {κ : Nat → Value} (h : Laid0 w) : ∀ g v, assoc glob0 g = some v → RepV w (okB (fun _ => False) κ []) κ v (.pointer (some ⟨g, 0, none⟩)) := by
  intro g v hg
  simp only [glob0, assoc] at hg
  split at hg
  · rename_i he
    cases hg
    rw [← beq_iff_eq.1 he]
    exact pr_str h.1 (by decide) (by decide)
  split at hg
  · rename_i he
    cases hg
    rw [← beq_iff_eq.1 he]
    exact pr_str h.2 (by decide) (by decide)
  · cases hg
theorem law_calls {f : FuncId} {fn : Func} {body : Code} {slots : List (Nat × Sh)} {os : List (Nat × List Nat)} {ps : List (List Nat × Pat)} {nx : Nat} (hr : (⟨⟨f, fn, body, ⟨slots, []⟩, [.bool], [], os⟩, none, ps, nx⟩ : Row) ∈ rows0)
    {x : (⟨slots, []⟩ : Pat).X} (hS : prg0.lim.S ⟨⟨f, fn, body, ⟨slots, []⟩, [.bool], [], os⟩, none, ps, nx⟩ x = some true) {w : World} (hl : Laid0 w) {vs : List Value} {κ : Nat → Value} (hv : RepL w (okB (fun _ => False) κ []) κ (mkL (slots.map (·.2)) (fst' x)) vs) :
    Calls Tryz.prog f vs.toArray w (fun e w' => e = .returned (.bool true) ∧ Keeps (fun _ => False) w w') := by
  obtain ⟨n, hn⟩ := prg0.lim_ok gl0_ok base0_ok yields0_ok rows0_ok hS
  have hX := rows0_ok _ hr
  have hc := row0_ok hr n
  have he : Entry glob0 (fun _ => False) κ ⟨slots, []⟩ x w vs :=
    ⟨⟨(fun id o h => by cases h), (fun i j o p b h => by cases h), (fun b ⟨_, _, h, _⟩ => by cases h), Keeps.refl _ _, fun g v hg => glob0_rep hl g v hg⟩, hv, fun b h => h.elim⟩
  have hi := hc x (fun _ => False) κ w vs (Inv Tryz.prog f vs.toArray w) he (by unfold Invoked; rw [if_pos hX.lt]) true hn
  unfold Inv at hi
  rw [callFunc_body hX.fn hX.body hX.name] at hi
  refine hi.mono ?_
  intro e w' h
  cases e with
  | returned v =>
    obtain ⟨κ', _, hm, hv⟩ := h
    have hv' : v = .bool true ∧ True := hv
    refine ⟨by rw [hv'.1], hm.keep.os, hm.keep.tape, hm.keep.output, hm.keep.size, fun b hb _ => hm.keep.block b hb (fun ⟨_, _, h, _⟩ => by cases h)⟩
  | _ => exact h.elim
end Go.AM
