/-
  PlanLimits: for all n and many the law's call returns true: the row, and the card. No condition beside those of the given statement.
-/
import Derived.Test.YtcihhhkmekdbnaaGreatDoorMf
import Derived.Test.YtcihhhkmekdbnaaGreatDoorRows
import Derived.Test.YtcihhhkmekdbnaaGreatDoorTie
import Derived.Test.YtcihhhkmekdbnaaGreatDoorCards
import Derived.ProofKit
import Derived.OpenShut
import Derived.Lib.LaidU8
import Derived.PinnedBridge
import Derived.Lay
import Derived.LaidOnce
import Derived.SevenTiedAt
import Derived.Test.YtcihhhkmekdbnaaGreatDoorMp0
/-
  From the given rows' conditions to what a law's call asks of the world.
-/
namespace Go.Proofs.YtcihhhkmekdbnaaGreatDoor
open Go Go.RowKit Go.ChangeShapes Go.WideShapes Go.ChangeAt
set_option maxRecDepth 100000
theorem strs_of_array {H : Type} {enc : TypeId × Value → H} {P : Program} {w : World} {base : Nat} {sp : Nat → Bool} {held : Bool} {fuel n : Nat} {t e : TypeId} {cs : List Value} {ss : List (List UInt8)} {p : List MemPlace} (ht : P.underlying t = some (.array n e)) (he : P.underlying e = some .string) (hc : P.cellsOf e = 1)
    (h : DataW.trod enc P w base sp held fuel t cs = some (.agg (ss.map fun s => .lit (.string s)), p)) : ∀ (j : Nat) (s : List UInt8), ss[j]? = some s → cs[j]? = some (.string ⟨s.toArray⟩) := by
  obtain ⟨xs, m, rfl, hx, hl, hn, hel⟩ := DataW.trod_array ht h
  intro j s hj
  have hxs : xs.map (·.1) = ss.map fun s => (DataW.lit (.string s) : DataW H) := by
    have := congrArg Prod.fst hx
    simpa using this.symm
  have hlen : xs.length = ss.length := by simpa using congrArg List.length hxs
  have hjn : j < n := by have := (List.getElem?_eq_some_iff.1 hj).1; omega
  have h1 := hel j hjn
  rw [hc] at h1
  have hxj : xs[j]? = some (xs[j]'(by omega)) := List.getElem?_eq_getElem _
  rw [hxj] at h1
  obtain ⟨z, hz, e1, _⟩ := DataW.trod_string he h1
  have h2 : (xs.map (·.1))[j]? = some (DataW.lit (.string z.data.toList) : DataW H) := by simp [hxj, e1]
  rw [hxs] at h2
  simp only [List.getElem?_map, hj, Option.map_some, Option.some.injEq, DataW.lit.injEq, Lit.string.injEq] at h2
  have h3 : cs[j]? = some (.string z) := by
    have := congrArg (·[0]?) hz
    simpa [List.getElem?_take, List.getElem?_drop] using this
  rw [h3, h2]
def dataOf (l : List ByteArray) : DataW Unit := .agg ((l.map fun s => s.data.toList).map fun s => .lit (.string s))
theorem cells_of_reads {w : World} {n : String} {g t : Nat} {e : TypeId} {k : Nat} {l : List ByteArray} (hg : Tryz.prog.globalNamed n = some g) (hgt : (Tryz.prog.globals[g]?).map (·.type) = some t) (ht : Tryz.prog.underlying t = some (.array k e)) (he : Tryz.prog.underlying e = some .string) (hc : Tryz.prog.cellsOf e = 1)
    (h : Lib.VarReads Tryz.prog w n (dataOf l)) : ∀ j s, l[j]? = some s → w.cell? ⟨g, j, none⟩ = some (.string s) := by
  obtain ⟨g', t', cs, fuel, p, h1, h2, h3, h4⟩ := h
  obtain rfl := Option.some.inj (hg.symm.trans h1)
  obtain rfl := Option.some.inj (hgt.symm.trans h2)
  intro j s hj
  have h5 := strs_of_array ht he hc h4 j s.data.toList (by simp [hj])
  have h6 := World.var?_cell hg h3 j
  have h7 : w.cell? ⟨g, j, none⟩ = cs[j]? := by simpa using h6
  rw [h7, ← Array.getElem?_toList, h5]
theorem laid0_of {W : World} {l : List (String × DataW Unit)} (h : laidMet Tryz.prog l W) (h1 : ("intervalmon/parser.groups", Rows.laid_intervalmon_parser_groups) ∈ l) (h2 : ("intervalmon/parser.functions", Rows.laid_intervalmon_parser_functions) ∈ l) : AM.Laid0 W :=
  ⟨cells_of_reads (n := "intervalmon/parser.groups") (t := 175) (e := 9) (k := 5) (by kernel_rfl) (by kernel_rfl) (by kernel_rfl) (by kernel_rfl) (by kernel_rfl) (Lib.laidMet.reads h h1), cells_of_reads (n := "intervalmon/parser.functions") (t := 200) (e := 9) (k := 8) (by kernel_rfl) (by kernel_rfl) (by kernel_rfl) (by kernel_rfl) (by kernel_rfl) (Lib.laidMet.reads h h2)⟩
theorem own : ownKnob Tryz.prog.godebug = none := by kernel_rfl
end Go.Proofs.YtcihhhkmekdbnaaGreatDoor
/-
  PlanLimits: for all n and many the law's call returns true: the row, and the card. No condition beside those of the given statement.
-/
namespace Go.Proofs.YtcihhhkmekdbnaaGreatDoor
open Go Go.RowKit Go.ChangeShapes Go.WideShapes Go.ChangeAt
set_option maxRecDepth 100000
theorem limits_calls (n m : Int) (hn : IntKind.i64.has n) (hm : IntKind.i64.has m) {W : World} (hl : AM.Laid0 W) :
    Calls Tryz.prog 5 #[.int .i64 n, .int .i64 m] W fun e w' => e = .returned (.bool true) ∧ AM.Keeps (fun _ => False) W w' := by
  have hS : AM.S_law23_PlanLimits AM.L0 (n, m) = some true := AM.PlanLimits_pure n m hn hm
  exact AM.law_calls (slots := [(0, .int .i64), (1, .int .i64)]) AM.mem_law23_PlanLimits hS hl (κ := fun _ => .nilIface) (vs := [.int .i64 n, .int .i64 m]) ⟨_, _, rfl, ⟨rfl, hn⟩, _, _, rfl, ⟨rfl, hm⟩, rfl⟩
theorem limits_lifted (os : Os) (started : os.Started) (H : Type) (enc : TypeId × Value → H) :
    ReturnsInHanded {} Tryz.checked os 5 .any (fun w args => (Rows.planLimitsSpec.pre enc Tryz.prog Tryz.f5 [] false w args ∧ laidMetH Tryz.prog Rows.planLimitsRow.laid w) ∧ sizedMet enc Tryz.prog Tryz.f5 (OpenSpec.ofChange Rows.planLimitsSpec) false w args)
      (Rows.planLimitsSpec.post enc Tryz.prog Tryz.f5 false true false false) := by
  refine returnsInHanded_of_change_and (C := Tryz.checked) (X := fun w _ => laidMetH Tryz.prog Rows.planLimitsRow.laid w) (fun _ _ _ hh h => h.of_heap hh) own started (by kernel_rfl) Tryz.func5
    (ChangeSpec.witness_shaped (enc := enc) (C := Tryz.checked) (os := os) (X := fun w _ => laidMetH Tryz.prog Rows.planLimitsRow.laid w) false (World.laidAll Tryz.prog os Rows.planLimitsRow.laid) #[.int .i64 0, .int .i64 0] 8 (World.laidAll_os _ _ _)
      (World.shaped_of_ZipB (by kernel_rfl) (by kernel_rfl)) (by kernel_rfl) (by kernel_rfl) (by kernel_rfl)
      (by rw [MakeChecks.laidMetH_plain _ _ _ (by kernel_rfl)]; exact laidMet_laidAll _ (by kernel_rfl) (by kernel_rfl))) ?_
  intro W base args ds gs before hval0 hW _ _ hL _
  have hval : ∀ (j : Nat) t v, Tryz.f5.params[j]? = some t → args[j]? = some v → Value.okWide Tryz.prog W .any base t v := hval0
  have hW' := hW
  obtain ⟨p, q, hA0, hV, rfl, _, _⟩ := hW
  have hA : DataW.TrodAll enc Tryz.prog W 0 (fun _ => true) true Tryz.f5.params.toList args.toList ds p := hA0
  rw [Tryz.params5] at hA hval
  obtain ⟨v0, v1, d0, d1, q0, q1, rfl, rfl, rfl, h0, h1⟩ := trodAll_two hA
  obtain ⟨rfl, rfl⟩ := trodVars_none hV
  obtain ⟨x, rfl, rfl, rfl, wx⟩ := open_int Tryz.underlying3 (hval 0 3 v0 rfl rfl) h0
  obtain ⟨y, rfl, rfl, rfl, wy⟩ := open_int Tryz.underlying3 (hval 1 3 v1 rfl rfl) h1
  simp only [List.append_nil] at hW'
  have hx : IntKind.i64.has x := by simpa [Lit.wf, IntKind.has] using wx
  have hy : IntKind.i64.has y := by simpa [Lit.wf, IntKind.has] using wy
  rw [MakeChecks.laidMetH_plain _ _ _ (by kernel_rfl)] at hL
  have hl : AM.Laid0 W := laid0_of hL (by simp [Rows.planLimitsRow]) (by simp [Rows.planLimitsRow])
  refine (limits_calls x y hx hy hl).mono fun e W' ⟨he, hk⟩ => ?_
  subst he
  have hb : Below W.heap.size W W' := ⟨hk.os, hk.tape, hk.output, hk.size, fun k hk' => hk.block k hk' (fun h => h)⟩
  exact ⟨_, rfl, _, _, _, [], [], [], hW', trodAll_mk1 (shut_bool Tryz.underlying4 _), trodAll_mk2 (shut_int Tryz.underlying3 wx) (shut_int Tryz.underlying3 wy), rfl, hb.frame _, fun h => by cases h⟩
theorem limits_row : Rows.PlanLimitsSaid :=
  OpenClaim.holds_of_wide 5 Tryz.f5 rfl rfl rfl rfl rfl rfl rfl ⟨rfl, rfl, rfl, rfl, rfl⟩ rfl rfl rfl rfl rfl (by kernel_rfl) Tryz.func5 (by kernel_rfl)
    (of_decide_eq_true (by kernel_rfl)) (by unfold Func.isWrapper; first | (rw [if_pos (by decide +kernel)]; kernel_rfl) | (rw [if_neg (by decide +kernel)]; exact ⟨rfl, rfl⟩))
    (fun os started H enc _ => limits_lifted os started H enc)
theorem planLimits_card_holds : Rows.PlanLimitsCardSaid :=
  Claim7.holds_tied_plain_at .later [] [.data, .widerDeep, .widerDeep, .pinned] true (true, "85290e54748b43e8235c588103e62c946ce62ef7cd2a3c0d8e2af1a3208ee674") true limits_row (fun _ h => by cases h) (by kernel_rfl) (fun _ h => by cases h) planLimits_row_tie rfl ⟨rfl, rfl⟩ (by kernel_rfl) rfl
    (fun f fn hf hfn => by
      obtain rfl : f = 5 := Option.some.inj ((show Tryz.prog.funcNamed "intervalmon/intervalmonlaw23.PlanLimits" = some 5 by kernel_rfl).symm.trans hf) |>.symm
      obtain rfl : fn = Tryz.f5 := (Option.some.inj (Tryz.func5.symm.trans hfn)).symm
      exact ⟨by kernel_rfl, fun j t ht => by
        rw [Tryz.params5] at ht
        have hm := Array.mem_of_getElem? ht
        have hall : (Tryz.f5.params.toList.all fun u => !Tryz.prog.wantsStandIn u) = true := by kernel_rfl
        rw [Tryz.params5] at hall
        exact (show Tryz.prog.wantsStandIn t = false by simpa using List.all_eq_true.1 hall t (by simpa using hm))⟩)
    (by kernel_rfl)
#print axioms planLimits_card_holds
end Go.Proofs.YtcihhhkmekdbnaaGreatDoor
