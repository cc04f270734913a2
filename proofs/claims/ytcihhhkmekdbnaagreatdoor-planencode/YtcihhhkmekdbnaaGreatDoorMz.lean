/-
  PlanEncode: plans written: the row, and the card. No condition beside those of the given statement.
-/
import Derived.Test.YtcihhhkmekdbnaaGreatDoorMEntry2
import Derived.Test.YtcihhhkmekdbnaaGreatDoorMp1
/-
  PlanEncode: plans written: the row, and the card. No condition beside those of the given statement.
-/
namespace Go.Proofs.YtcihhhkmekdbnaaGreatDoor
open Go Go.RowKit Go.ChangeShapes Go.WideShapes Go.ChangeAt
set_option maxRecDepth 100000
set_option maxHeartbeats 1000000
theorem planEncode_main {H : Type} {enc : TypeId × Value → H} {W : World} {base : Nat} {args : Array Value} {ds : List (DataW H)} {p : List MemPlace} (hl : AM.Laid0 W) (hval : ∀ (j : Nat) t v, Tryz.f7.params[j]? = some t → args[j]? = some v → Value.okWide Tryz.prog W .any base t v)
    (hw : (DataW.weightsEach Tryz.prog Tryz.f7.params.toList ds).all (· ≤ reachBytes) = true) (hA : DataW.TrodAll enc Tryz.prog W 0 (fun _ => true) true Tryz.f7.params.toList args.toList ds p) :
    Calls Tryz.prog 7 args W fun e w' => e = .returned (.bool true) ∧ AM.Keeps (fun _ => False) W w' := by
  rw [Tryz.params7] at hA hval hw
  obtain ⟨v0, vs0, d0, ds0, p0, q0, ha0, hd0, rfl, h0, hr0⟩ := trodAll_cons hA
  obtain ⟨v1, vs1, d1, ds1, p1, q1, ha1, hd1, rfl, h1, hr1⟩ := trodAll_cons hr0
  obtain ⟨v2, vs2, d2, ds2, p2, q2, ha2, hd2, rfl, h2, hr2⟩ := trodAll_cons hr1
  obtain ⟨v3, vs3, d3, ds3, p3, q3, ha3, hd3, rfl, h3, hr3⟩ := trodAll_cons hr2
  obtain ⟨rfl, rfl, rfl⟩ := trodAll_nil hr3
  subst hd3
  subst hd2
  subst hd1
  subst hd0
  subst ha3
  subst ha2
  subst ha1
  have hargs : args = #[v0, v1, v2, v3] := by cases args; simpa using ha0
  subst hargs
  obtain ⟨fu0, hf0⟩ : ∃ fu, DataW.trod enc Tryz.prog W 0 (fun _ => true) true fu 22 v0.cells.toList = some (d0, p0) := h0
  obtain ⟨x0, u0, e0, hq0, hx0⟩ := AM.open_ints0 (ok := AM.okB (fun _ => False) (fun _ => .nilIface) []) (fun b => ⟨fun h => h, fun ⟨_, _, h, _⟩ => by cases h⟩) hf0 (wt_of hw (j := 0) rfl rfl)
  have ev0 : v0 = u0 := AM.cells_slice (show Tryz.prog.underlying 22 = some (.slice 3) by kernel_rfl) (hval 0 22 v0 rfl rfl) e0
  subst ev0
  obtain ⟨x1, rfl, _, _, wx1⟩ := open_int Tryz.underlying3 (hval 1 3 v1 rfl rfl) h1
  have hx1 : IntKind.i64.has x1 := by simpa [Lit.wf, IntKind.has] using wx1
  obtain ⟨x2, rfl, _, _, wx2⟩ := open_int Tryz.underlying3 (hval 2 3 v2 rfl rfl) h2
  have hx2 : IntKind.i64.has x2 := by simpa [Lit.wf, IntKind.has] using wx2
  obtain ⟨x3, rfl, _, _, wx3⟩ := open_int Tryz.underlying3 (hval 3 3 v3 rfl rfl) h3
  have hx3 : IntKind.i64.has x3 := by simpa [Lit.wf, IntKind.has] using wx3
  have hS : AM.S_law23_PlanEncode AM.L0 (x0, (x1, (x2, x3))) = some true := AM.PlanEncode_pure hx0 hx1 hx2 hx3
  exact AM.law_calls (slots := [(0, (.list (.i .i64))), (1, .int .i64), (2, .int .i64), (3, .int .i64)]) AM.mem_law23_PlanEncode hS hl (κ := fun _ => .nilIface) (vs := [v0, .int .i64 x1, .int .i64 x2, .int .i64 x3]) ⟨_, _, rfl, hq0, _, _, rfl, ⟨rfl, hx1⟩, _, _, rfl, ⟨rfl, hx2⟩, _, _, rfl, ⟨rfl, hx3⟩, rfl⟩
theorem planEncode_lifted (os : Os) (started : os.Started) (H : Type) (enc : TypeId × Value → H) :
    ReturnsInHanded {} Tryz.checked os 7 .any (fun w args => (Rows.planEncodeSpec.pre enc Tryz.prog Tryz.f7 [] false w args ∧ laidMetH Tryz.prog Rows.planEncodeRow.laid w) ∧ sizedMet enc Tryz.prog Tryz.f7 (OpenSpec.ofChange Rows.planEncodeSpec) false w args)
      (Rows.planEncodeSpec.post enc Tryz.prog Tryz.f7 false true false false) := by
  refine returnsInHanded_of_change_and (C := Tryz.checked) (X := fun w _ => laidMetH Tryz.prog Rows.planEncodeRow.laid w) (fun _ _ _ hh h => h.of_heap hh) own started (by kernel_rfl) Tryz.func7
    (ChangeSpec.witness_shaped (enc := enc) (C := Tryz.checked) (os := os) (X := fun w _ => laidMetH Tryz.prog Rows.planEncodeRow.laid w) false (World.laidAll Tryz.prog os Rows.planEncodeRow.laid) #[.slice none 0 0, .int .i64 0, .int .i64 0, .int .i64 0] 8 (World.laidAll_os _ _ _)
      (World.shaped_of_ZipB (by kernel_rfl) (by kernel_rfl)) (by kernel_rfl) (by kernel_rfl) (by kernel_rfl)
      (by rw [MakeChecks.laidMetH_plain _ _ _ (by kernel_rfl)]; exact laidMet_laidAll _ (by kernel_rfl) (by kernel_rfl))) ?_
  intro W base args ds gs before hval hW _ hwt hL _
  rw [MakeChecks.laidMetH_plain _ _ _ (by kernel_rfl)] at hL
  have hl : AM.Laid0 W := laid0_of hL (by simp [Rows.planEncodeRow]) (by simp [Rows.planEncodeRow])
  refine contract_of (ts := Tryz.f7.params.toList) rfl rfl (by kernel_rfl) (by kernel_rfl) (fun ds hds => ?_) hW (fun p hA => planEncode_main hl hval ?_ hA)
  · have hlen : ds.length = 4 := hds.trans (by kernel_rfl)
    match ds, hlen with
    | [_, _, _, _], _ => rfl
  · obtain ⟨_, _, _, hV, _⟩ := hW
    obtain ⟨rfl, _⟩ := trodVars_none hV
    have hwt' : (DataW.weightsEach Tryz.prog (Tryz.f7.params.toList ++ []) (ds ++ [])).all (· ≤ reachBytes) = true := hwt
    simpa only [List.append_nil] using hwt'
theorem planEncode_row : Rows.PlanEncodeSaid :=
  OpenClaim.holds_of_wide 7 Tryz.f7 rfl rfl rfl rfl rfl rfl rfl ⟨rfl, rfl, rfl, rfl, rfl⟩ rfl rfl rfl rfl rfl (by kernel_rfl) Tryz.func7 (by kernel_rfl)
    (of_decide_eq_true (by kernel_rfl)) (by unfold Func.isWrapper; first | (rw [if_pos (by decide +kernel)]; kernel_rfl) | (rw [if_neg (by decide +kernel)]; exact ⟨rfl, rfl⟩))
    (fun os started H enc _ => planEncode_lifted os started H enc)
theorem planEncode_card_holds : Rows.PlanEncodeCardSaid :=
  Claim7.holds_tied_plain_at .later [] [.data, .widerDeep, .widerDeep, .pinned] true (true, "85290e54748b43e8235c588103e62c946ce62ef7cd2a3c0d8e2af1a3208ee674") true planEncode_row (fun _ h => by cases h) (by kernel_rfl) (fun _ h => by cases h) planEncode_row_tie rfl ⟨rfl, rfl⟩ (by kernel_rfl) rfl
    (fun f fn hf hfn => by
      obtain rfl : f = 7 := Option.some.inj ((show Tryz.prog.funcNamed "intervalmon/intervalmonlaw23.PlanEncode" = some 7 by kernel_rfl).symm.trans hf) |>.symm
      obtain rfl : fn = Tryz.f7 := (Option.some.inj (Tryz.func7.symm.trans hfn)).symm
      exact ⟨by kernel_rfl, fun j t ht => by
        rw [Tryz.params7] at ht
        have hm := Array.mem_of_getElem? ht
        have hall : (Tryz.f7.params.toList.all fun u => !Tryz.prog.wantsStandIn u) = true := by kernel_rfl
        rw [Tryz.params7] at hall
        exact (show Tryz.prog.wantsStandIn t = false by simpa using List.all_eq_true.1 hall t (by simpa using hm))⟩)
    (by kernel_rfl)
#print axioms planEncode_card_holds
end Go.Proofs.YtcihhhkmekdbnaaGreatDoor
