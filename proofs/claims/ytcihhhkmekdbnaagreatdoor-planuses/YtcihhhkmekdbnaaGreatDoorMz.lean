/-
  PlanUses: uses of declarations: the row, and the card. No condition beside those of the given statement.
-/
import Derived.Test.YtcihhhkmekdbnaaGreatDoorMEntry2
import Derived.Test.YtcihhhkmekdbnaaGreatDoorMp1
/-
  PlanUses: uses of declarations: the row, and the card. No condition beside those of the given statement.
-/
namespace Go.Proofs.YtcihhhkmekdbnaaGreatDoor
open Go Go.RowKit Go.ChangeShapes Go.WideShapes Go.ChangeAt
set_option maxRecDepth 100000
set_option maxHeartbeats 1000000
theorem planUses_main {H : Type} {enc : TypeId × Value → H} {W : World} {base : Nat} {args : Array Value} {ds : List (DataW H)} {p : List MemPlace} (hl : AM.Laid0 W) (hval : ∀ (j : Nat) t v, Tryz.f8.params[j]? = some t → args[j]? = some v → Value.okWide Tryz.prog W .any base t v)
    (hw : (DataW.weightsEach Tryz.prog Tryz.f8.params.toList ds).all (· ≤ reachBytes) = true) (hA : DataW.TrodAll enc Tryz.prog W 0 (fun _ => true) true Tryz.f8.params.toList args.toList ds p) :
    Calls Tryz.prog 8 args W fun e w' => e = .returned (.bool true) ∧ AM.Keeps (fun _ => False) W w' := by
  rw [Tryz.params8] at hA hval hw
  obtain ⟨v0, vs0, d0, ds0, p0, q0, ha0, hd0, rfl, h0, hr0⟩ := trodAll_cons hA
  obtain ⟨v1, vs1, d1, ds1, p1, q1, ha1, hd1, rfl, h1, hr1⟩ := trodAll_cons hr0
  obtain ⟨v2, vs2, d2, ds2, p2, q2, ha2, hd2, rfl, h2, hr2⟩ := trodAll_cons hr1
  obtain ⟨v3, vs3, d3, ds3, p3, q3, ha3, hd3, rfl, h3, hr3⟩ := trodAll_cons hr2
  obtain ⟨v4, vs4, d4, ds4, p4, q4, ha4, hd4, rfl, h4, hr4⟩ := trodAll_cons hr3
  obtain ⟨rfl, rfl, rfl⟩ := trodAll_nil hr4
  subst hd4
  subst hd3
  subst hd2
  subst hd1
  subst hd0
  subst ha4
  subst ha3
  subst ha2
  subst ha1
  have hargs : args = #[v0, v1, v2, v3, v4] := by cases args; simpa using ha0
  subst hargs
  obtain ⟨fu0, hf0⟩ : ∃ fu, DataW.trod enc Tryz.prog W 0 (fun _ => true) true fu 22 v0.cells.toList = some (d0, p0) := h0
  obtain ⟨x0, u0, e0, hq0, hx0⟩ := AM.open_ints0 (ok := AM.okB (fun _ => False) (fun _ => .nilIface) []) (fun b => ⟨fun h => h, fun ⟨_, _, h, _⟩ => by cases h⟩) hf0 (wt_of hw (j := 0) rfl rfl)
  have ev0 : v0 = u0 := AM.cells_slice (show Tryz.prog.underlying 22 = some (.slice 3) by kernel_rfl) (hval 0 22 v0 rfl rfl) e0
  subst ev0
  obtain ⟨fu1, hf1⟩ : ∃ fu, DataW.trod enc Tryz.prog W 0 (fun _ => true) true fu 22 v1.cells.toList = some (d1, p1) := h1
  obtain ⟨x1, u1, e1, hq1, hx1⟩ := AM.open_ints0 (ok := AM.okB (fun _ => False) (fun _ => .nilIface) []) (fun b => ⟨fun h => h, fun ⟨_, _, h, _⟩ => by cases h⟩) hf1 (wt_of hw (j := 1) rfl rfl)
  have ev1 : v1 = u1 := AM.cells_slice (show Tryz.prog.underlying 22 = some (.slice 3) by kernel_rfl) (hval 1 22 v1 rfl rfl) e1
  subst ev1
  obtain ⟨x2, rfl, _, _, wx2⟩ := open_int Tryz.underlying3 (hval 2 3 v2 rfl rfl) h2
  have hx2 : IntKind.i64.has x2 := by simpa [Lit.wf, IntKind.has] using wx2
  obtain ⟨x3, rfl, _, _, wx3⟩ := open_int Tryz.underlying3 (hval 3 3 v3 rfl rfl) h3
  have hx3 : IntKind.i64.has x3 := by simpa [Lit.wf, IntKind.has] using wx3
  obtain ⟨x4, rfl, _, _, wx4⟩ := open_int Tryz.underlying3 (hval 4 3 v4 rfl rfl) h4
  have hx4 : IntKind.i64.has x4 := by simpa [Lit.wf, IntKind.has] using wx4
  have hS : AM.S_law23_PlanUses AM.L0 (x0, (x1, (x2, (x3, x4)))) = some true := AM.PlanUses_pure hx0 hx1 hx2 hx3 hx4
  exact AM.law_calls (slots := [(0, (.list (.i .i64))), (1, (.list (.i .i64))), (2, .int .i64), (3, .int .i64), (4, .int .i64)]) AM.mem_law23_PlanUses hS hl (κ := fun _ => .nilIface) (vs := [v0, v1, .int .i64 x2, .int .i64 x3, .int .i64 x4]) ⟨_, _, rfl, hq0, _, _, rfl, hq1, _, _, rfl, ⟨rfl, hx2⟩, _, _, rfl, ⟨rfl, hx3⟩, _, _, rfl, ⟨rfl, hx4⟩, rfl⟩
theorem planUses_lifted (os : Os) (started : os.Started) (H : Type) (enc : TypeId × Value → H) :
    ReturnsInHanded {} Tryz.checked os 8 .any (fun w args => (Rows.planUsesSpec.pre enc Tryz.prog Tryz.f8 [] false w args ∧ laidMetH Tryz.prog Rows.planUsesRow.laid w) ∧ sizedMet enc Tryz.prog Tryz.f8 (OpenSpec.ofChange Rows.planUsesSpec) false w args)
      (Rows.planUsesSpec.post enc Tryz.prog Tryz.f8 false true false false) := by
  refine returnsInHanded_of_change_and (C := Tryz.checked) (X := fun w _ => laidMetH Tryz.prog Rows.planUsesRow.laid w) (fun _ _ _ hh h => h.of_heap hh) own started (by kernel_rfl) Tryz.func8
    (ChangeSpec.witness_shaped (enc := enc) (C := Tryz.checked) (os := os) (X := fun w _ => laidMetH Tryz.prog Rows.planUsesRow.laid w) false (World.laidAll Tryz.prog os Rows.planUsesRow.laid) #[.slice none 0 0, .slice none 0 0, .int .i64 0, .int .i64 0, .int .i64 0] 8 (World.laidAll_os _ _ _)
      (World.shaped_of_ZipB (by kernel_rfl) (by kernel_rfl)) (by kernel_rfl) (by kernel_rfl) (by kernel_rfl)
      (by rw [MakeChecks.laidMetH_plain _ _ _ (by kernel_rfl)]; exact laidMet_laidAll _ (by kernel_rfl) (by kernel_rfl))) ?_
  intro W base args ds gs before hval hW _ hwt hL _
  rw [MakeChecks.laidMetH_plain _ _ _ (by kernel_rfl)] at hL
  have hl : AM.Laid0 W := laid0_of hL (by simp [Rows.planUsesRow]) (by simp [Rows.planUsesRow])
  refine contract_of (ts := Tryz.f8.params.toList) rfl rfl (by kernel_rfl) (by kernel_rfl) (fun ds hds => ?_) hW (fun p hA => planUses_main hl hval ?_ hA)
  · have hlen : ds.length = 5 := hds.trans (by kernel_rfl)
    match ds, hlen with
    | [_, _, _, _, _], _ => rfl
  · obtain ⟨_, _, _, hV, _⟩ := hW
    obtain ⟨rfl, _⟩ := trodVars_none hV
    have hwt' : (DataW.weightsEach Tryz.prog (Tryz.f8.params.toList ++ []) (ds ++ [])).all (· ≤ reachBytes) = true := hwt
    simpa only [List.append_nil] using hwt'
theorem planUses_row : Rows.PlanUsesSaid :=
  OpenClaim.holds_of_wide 8 Tryz.f8 rfl rfl rfl rfl rfl rfl rfl ⟨rfl, rfl, rfl, rfl, rfl⟩ rfl rfl rfl rfl rfl (by kernel_rfl) Tryz.func8 (by kernel_rfl)
    (of_decide_eq_true (by kernel_rfl)) (by unfold Func.isWrapper; first | (rw [if_pos (by decide +kernel)]; kernel_rfl) | (rw [if_neg (by decide +kernel)]; exact ⟨rfl, rfl⟩))
    (fun os started H enc _ => planUses_lifted os started H enc)
theorem planUses_card_holds : Rows.PlanUsesCardSaid :=
  Claim7.holds_tied_plain_at .later [] [.data, .widerDeep, .widerDeep, .pinned] true (true, "85290e54748b43e8235c588103e62c946ce62ef7cd2a3c0d8e2af1a3208ee674") true planUses_row (fun _ h => by cases h) (by kernel_rfl) (fun _ h => by cases h) planUses_row_tie rfl ⟨rfl, rfl⟩ (by kernel_rfl) rfl
    (fun f fn hf hfn => by
      obtain rfl : f = 8 := Option.some.inj ((show Tryz.prog.funcNamed "intervalmon/intervalmonlaw23.PlanUses" = some 8 by kernel_rfl).symm.trans hf) |>.symm
      obtain rfl : fn = Tryz.f8 := (Option.some.inj (Tryz.func8.symm.trans hfn)).symm
      exact ⟨by kernel_rfl, fun j t ht => by
        rw [Tryz.params8] at ht
        have hm := Array.mem_of_getElem? ht
        have hall : (Tryz.f8.params.toList.all fun u => !Tryz.prog.wantsStandIn u) = true := by kernel_rfl
        rw [Tryz.params8] at hall
        exact (show Tryz.prog.wantsStandIn t = false by simpa using List.all_eq_true.1 hall t (by simpa using hm))⟩)
    (by kernel_rfl)
#print axioms planUses_card_holds
end Go.Proofs.YtcihhhkmekdbnaaGreatDoor
