/-
  From the given rows to the plain law: a part.
-/
import Derived.Test.YtcihhhkmekdbnaaGreatDoorMf
import Derived.Test.YtcihhhkmekdbnaaGreatDoorRows
import Derived.Test.YtcihhhkmekdbnaaGreatDoorTie
import Derived.Test.YtcihhhkmekdbnaaGreatDoorCards
import Derived.ProofKit
import Derived.OpenShut
import Derived.Lib.LaidU8
import Derived.PinnedBridge
import Derived.Lay
import Derived.LaidOnce
import Derived.SevenTiedAt
/-
  From the given rows' conditions to what a law's call asks of the world.
-/
namespace Go.Proofs.YtcihhhkmekdbnaaGreatDoor
open Go Go.RowKit Go.ChangeShapes Go.WideShapes Go.ChangeAt
set_option maxRecDepth 100000
theorem strs_of_array {H : Type} {enc : TypeId × Value → H} {P : Program} {w : World} {base : Nat} {sp : Nat → Bool} {held : Bool} {fuel n : Nat} {t e : TypeId} {cs : List Value} {ss : List (List UInt8)} {p : List MemPlace} (ht : P.underlying t = some (.array n e)) (he : P.underlying e = some .string) (hc : P.cellsOf e = 1)
    (h : DataW.trod enc P w base sp held fuel t cs = some (.agg (ss.map fun s => .lit (.string s)), p)) : ∀ (j : Nat) (s : List UInt8), ss[j]? = some s → cs[j]? = some (.string ⟨s.toArray⟩) := by
  obtain ⟨xs, m, rfl, hx, hl, hn, hel⟩ := DataW.trod_array ht h
  intro j s hj
  have hxs : xs.map (·.1) = ss.map fun s => (DataW.lit (.string s) : DataW H) := by
    have := congrArg Prod.fst hx
    simpa using this.symm
  have hlen : xs.length = ss.length := by simpa using congrArg List.length hxs
  have hjn : j < n := by have := (List.getElem?_eq_some_iff.1 hj).1; omega
  have h1 := hel j hjn
  rw [hc] at h1
  have hxj : xs[j]? = some (xs[j]'(by omega)) := List.getElem?_eq_getElem _
  rw [hxj] at h1
  obtain ⟨z, hz, e1, _⟩ := DataW.trod_string he h1
  have h2 : (xs.map (·.1))[j]? = some (DataW.lit (.string z.data.toList) : DataW H) := by simp [hxj, e1]
  rw [hxs] at h2
  simp only [List.getElem?_map, hj, Option.map_some, Option.some.injEq, DataW.lit.injEq, Lit.string.injEq] at h2
  have h3 : cs[j]? = some (.string z) := by
    have := congrArg (·[0]?) hz
    simpa [List.getElem?_take, List.getElem?_drop] using this
  rw [h3, h2]
def dataOf (l : List ByteArray) : DataW Unit := .agg ((l.map fun s => s.data.toList).map fun s => .lit (.string s))
theorem cells_of_reads {w : World} {n : String} {g t : Nat} {e : TypeId} {k : Nat} {l : List ByteArray} (hg : Tryz.prog.globalNamed n = some g) (hgt : (Tryz.prog.globals[g]?).map (·.type) = some t) (ht : Tryz.prog.underlying t = some (.array k e)) (he : Tryz.prog.underlying e = some .string) (hc : Tryz.prog.cellsOf e = 1)
    (h : Lib.VarReads Tryz.prog w n (dataOf l)) : ∀ j s, l[j]? = some s → w.cell? ⟨g, j, none⟩ = some (.string s) := by
  obtain ⟨g', t', cs, fuel, p, h1, h2, h3, h4⟩ := h
  obtain rfl := Option.some.inj (hg.symm.trans h1)
  obtain rfl := Option.some.inj (hgt.symm.trans h2)
  intro j s hj
  have h5 := strs_of_array ht he hc h4 j s.data.toList (by simp [hj])
  have h6 := World.var?_cell hg h3 j
  have h7 : w.cell? ⟨g, j, none⟩ = cs[j]? := by simpa using h6
  rw [h7, ← Array.getElem?_toList, h5]
theorem laid0_of {W : World} {l : List (String × DataW Unit)} (h : laidMet Tryz.prog l W) (h1 : ("intervalmon/parser.groups", Rows.laid_intervalmon_parser_groups) ∈ l) (h2 : ("intervalmon/parser.functions", Rows.laid_intervalmon_parser_functions) ∈ l) : AM.Laid0 W :=
  ⟨cells_of_reads (n := "intervalmon/parser.groups") (t := 175) (e := 9) (k := 5) (by kernel_rfl) (by kernel_rfl) (by kernel_rfl) (by kernel_rfl) (by kernel_rfl) (Lib.laidMet.reads h h1), cells_of_reads (n := "intervalmon/parser.functions") (t := 200) (e := 9) (k := 8) (by kernel_rfl) (by kernel_rfl) (by kernel_rfl) (by kernel_rfl) (by kernel_rfl) (Lib.laidMet.reads h h2)⟩
theorem own : ownKnob Tryz.prog.godebug = none := by kernel_rfl
end Go.Proofs.YtcihhhkmekdbnaaGreatDoor
