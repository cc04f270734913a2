/-
  What the functions of the program compute, as text: bodies and their equations.
-/
import Derived.Test.YtcihhhkmekdbnaaGreatDoorMd
namespace Go.AM
open Go
set_option maxRecDepth 100000
noncomputable def B_law23_PlanLimits (L : Lvl) (x0 : Int) (x1 : Int) : Option Bool :=
  (S_ref01_Around L (x0, (11 : Int))).bind fun (y2 : Int) =>
    P_law23_PlanLimits_0 L ((x1, ((IntKind.wrap .i64 ((95 : Int) + y2)), (1 : Int))), ((Go.AM.DIns.mk (0 : Int) (0 : Int) (0 : Int) (0 : Int) (0 : Int) (Go.AM.DFrac.mk (1 : Int) (1 : Int)) zeroS ([] : List DMatcher) ([] : List ByteArray)), ((Go.AM.DIns.mk (0 : Int) (0 : Int) (0 : Int) (0 : Int) (0 : Int) (Go.AM.DFrac.mk (1 : Int) (1 : Int)) zeroS ([] : List DMatcher) ([] : List ByteArray)) :: ([] : List DIns))))
theorem e_law23_PlanLimits (L : Lvl) (x0 : Int) (x1 : Int) : r_law23_PlanLimits.tree prg0.G (prg0.calls L) (L.P r_law23_PlanLimits) prg0.N [] (r_law23_PlanLimits.X.inp.mk' (x0, x1) 64) = B_law23_PlanLimits L x0 x1 := by kernel_rfl
noncomputable def B_law23_PlanLimits_0 (L : Lvl) (x0 : Int) (x1 : Int) (x2 : Int) (x3 : DIns) (x4 : (List DIns)) : Option Bool :=
  if (decide (x2 < x1)) = true then
    if (true && (decide ((((List.length x4) + (List.length (x3 :: ((Go.AM.DIns.mk (3 : Int) (0 : Int) (0 : Int) (0 : Int) (0 : Int) (Go.AM.DFrac.mk (0 : Int) (0 : Int)) zeroS ([] : List DMatcher) ([] : List ByteArray)) :: ([] : List DIns))))) * (120 : Nat)) ≤ (140737488355328 : Nat)))) = true then
    P_law23_PlanLimits_0 L ((x0, (x1, (IntKind.wrap .i64 (x2 + (1 : Int))))), (x3, (x4 ++ (x3 :: ((Go.AM.DIns.mk (3 : Int) (0 : Int) (0 : Int) (0 : Int) (0 : Int) (Go.AM.DFrac.mk (0 : Int) (0 : Int)) zeroS ([] : List DMatcher) ([] : List ByteArray)) :: ([] : List DIns))))))
    else none
  else
    (S_ref01_Around L (x0, (206 : Int))).bind fun (y5 : Int) =>
      P_law23_PlanLimits_1 L ((x1, y5), (x3, (x4, ([] : List DIns))))
theorem e_law23_PlanLimits_0 (L : Lvl) (x0 : Int) (x1 : Int) (x2 : Int) (x3 : DIns) (x4 : (List DIns)) : r_law23_PlanLimits.tree prg0.G (prg0.calls L) (L.P r_law23_PlanLimits) prg0.N [0, 0, 1, 0, 1, 1, 1, 1] (q_law23_PlanLimits_0.mk' ((x0, (x1, x2)), (x3, x4)) 64) = B_law23_PlanLimits_0 L x0 x1 x2 x3 x4 := by kernel_rfl
noncomputable def B_law23_PlanLimits_1 (L : Lvl) (x0 : Int) (x1 : Int) (x2 : DIns) (x3 : (List DIns)) (x4 : (List DIns)) : Option Bool :=
  if (decide (x1 > (0 : Int))) = true then
    if (true && (decide ((((List.length x4) + (List.length (x2 :: ([] : List DIns)))) * (120 : Nat)) ≤ (140737488355328 : Nat)))) = true then
    P_law23_PlanLimits_1 L ((x0, (IntKind.wrap .i64 (x1 - (1 : Int)))), (x2, (x3, (x4 ++ (x2 :: ([] : List DIns))))))
    else none
  else
    (S_law23_balanced L x0).bind fun (y5 : (List DIns)) =>
      (S_plan_Check L y5).bind fun (y6 : Int) =>
        (S_ref23_Check L y5).bind fun (y7 : Int) =>
          if (y6 == y7) = true then
            (S_plan_Check L x3).bind fun (y8 : Int) =>
              (S_ref23_Check L x3).bind fun (y9 : Int) =>
                if (y8 == y9) = true then
                  (S_plan_Check L x4).bind fun (y10 : Int) =>
                    (S_ref23_Check L x4).bind fun (y11 : Int) =>
                      if (y10 == y11) = true then
                        (S_law23_lives L ()).bind fun (y12 : Bool) =>
                          some y12
                      else
                        some false
                else
                  some false
          else
            some false
theorem e_law23_PlanLimits_1 (L : Lvl) (x0 : Int) (x1 : Int) (x2 : DIns) (x3 : (List DIns)) (x4 : (List DIns)) : r_law23_PlanLimits.tree prg0.G (prg0.calls L) (L.P r_law23_PlanLimits) prg0.N [0, 0, 1, 0, 1, 1, 1, 1, 1, 1] (q_law23_PlanLimits_1.mk' ((x0, x1), (x2, (x3, x4))) 64) = B_law23_PlanLimits_1 L x0 x1 x2 x3 x4 := by kernel_rfl
noncomputable def B_law23_lives (L : Lvl)  : Option Bool :=
  (S_parser_Parse L (⟨#[97, 46, 109, 101, 97, 110, 40, 51, 41, 64, 49, 32, 45, 32, 50]⟩ : ByteArray)).bind fun ((y0, (y1, y2)) : (DExpr × (Int × Int))) =>
    (S_plan_Compile L (Go.AM.eE y0)).bind fun ((y3, y4) : ((List DIns) × Int)) =>
      (S_plan_Check L ((Go.AM.DIns.mk (3 : Int) (0 : Int) (0 : Int) (0 : Int) (0 : Int) (Go.AM.DFrac.mk (0 : Int) (0 : Int)) zeroS ([] : List DMatcher) ([] : List ByteArray)) :: ([] : List DIns))).bind fun (y5 : Int) =>
        if (y2 == (0 : Int)) = true then
          if (y4 == (0 : Int)) = true then
            if ((((List.length y3) : Nat) : Int) == (3 : Int)) = true then
              if (decide (((0 : Int) ≤ (0 : Int)) ∧ ((0 : Int) < (((List.length y3) : Nat) : Int)))) = true then
              if ((List.getD y3 (0 : Nat) (dflt .ins)).window == (3 : Int)) = true then
                if (decide (((0 : Int) ≤ (2 : Int)) ∧ ((2 : Int) < (((List.length y3) : Nat) : Int)))) = true then
                if ((List.getD y3 (2 : Nat) (dflt .ins)).kind == (3 : Int)) = true then
                  (S_plan_Reach L y3).bind fun (y6 : Int) =>
                    if (y6 == (-3 : Int)) = true then
                      some (y5 == (1 : Int))
                    else
                      some false
                else
                  some false
                else none
              else
                some false
              else none
            else
              some false
          else
            some false
        else
          some false
theorem e_law23_lives (L : Lvl)  : r_law23_lives.tree prg0.G (prg0.calls L) (L.P r_law23_lives) prg0.N [] (r_law23_lives.X.inp.mk' () 64) = B_law23_lives L  := by kernel_rfl
noncomputable def B_ref23_Compile (L : Lvl) (x0 : DExpr) : Option ((List DIns) × Int) :=
  (S_ref07_Valid L (Go.AM.eE x0)).bind fun (y1 : Int) =>
    if (y1 != (0 : Int)) = true then
      some (([] : List DIns), y1)
    else
      (S_ref23_postfix L (Go.AM.eE x0)).bind fun (y2 : (List DIns)) =>
        some (y2, (0 : Int))
theorem e_ref23_Compile (L : Lvl) (x0 : DExpr) : r_ref23_Compile.tree prg0.G (prg0.calls L) (L.P r_ref23_Compile) prg0.N [] (r_ref23_Compile.X.inp.mk' x0 64) = B_ref23_Compile L x0 := by kernel_rfl
noncomputable def B_ref01_Around (L : Lvl) (x0 : Int) (x1 : Int) : Option Int :=
  if (decide (x0 < (0 : Int))) = true then
    if (decide (x1 ≠ (0 : Int))) = true then
    some (Int.tmod (IntKind.wrap .i64 ((0 : Int) - (IntKind.wrap .i64 (x0 + (1 : Int))))) x1)
    else none
  else
    if (decide (x1 ≠ (0 : Int))) = true then
    some (Int.tmod x0 x1)
    else none
theorem e_ref01_Around (L : Lvl) (x0 : Int) (x1 : Int) : r_ref01_Around.tree prg0.G (prg0.calls L) (L.P r_ref01_Around) prg0.N [] (r_ref01_Around.X.inp.mk' (x0, x1) 64) = B_ref01_Around L x0 x1 := by kernel_rfl
noncomputable def B_law23_balanced (L : Lvl) (x0 : Int) : Option (List DIns) :=
  if (decide (x0 ≤ (1 : Int))) = true then
    some ((Go.AM.DIns.mk (0 : Int) (0 : Int) (0 : Int) (0 : Int) (0 : Int) (Go.AM.DFrac.mk (1 : Int) (1 : Int)) zeroS ([] : List DMatcher) ([] : List ByteArray)) :: ([] : List DIns))
  else
    (S_law23_balanced L (IntKind.wrap .i64 (Int.tdiv x0 (2 : Int)))).bind fun (y1 : (List DIns)) =>
      (S_law23_balanced L (IntKind.wrap .i64 (x0 - (IntKind.wrap .i64 (Int.tdiv x0 (2 : Int)))))).bind fun (y2 : (List DIns)) =>
        if (true && (decide ((((List.length y1) + (List.length y2)) * (120 : Nat)) ≤ (140737488355328 : Nat)))) = true then
        if (true && (decide ((((List.length (y1 ++ y2)) + (1 : Nat)) * (120 : Nat)) ≤ (140737488355328 : Nat)))) = true then
        some ((y1 ++ y2) ++ ((Go.AM.DIns.mk (3 : Int) (0 : Int) (0 : Int) (0 : Int) (0 : Int) (Go.AM.DFrac.mk (0 : Int) (0 : Int)) zeroS ([] : List DMatcher) ([] : List ByteArray)) :: ([] : List DIns)))
        else none
        else none
theorem e_law23_balanced (L : Lvl) (x0 : Int) : r_law23_balanced.tree prg0.G (prg0.calls L) (L.P r_law23_balanced) prg0.N [] (r_law23_balanced.X.inp.mk' x0 64) = B_law23_balanced L x0 := by kernel_rfl
noncomputable def B_plan_Check (L : Lvl) (x0 : (List DIns)) : Option Int :=
  (S_plan_Tree L x0).bind fun ((y1, y2) : (DExpr × Int)) =>
    some y2
theorem e_plan_Check (L : Lvl) (x0 : (List DIns)) : r_plan_Check.tree prg0.G (prg0.calls L) (L.P r_plan_Check) prg0.N [] (r_plan_Check.X.inp.mk' x0 64) = B_plan_Check L x0 := by kernel_rfl
noncomputable def B_ref23_Check (L : Lvl) (x0 : (List DIns)) : Option Int :=
  (S_ref23_Tree L x0).bind fun ((y1, y2) : (DExpr × Int)) =>
    some y2
theorem e_ref23_Check (L : Lvl) (x0 : (List DIns)) : r_ref23_Check.tree prg0.G (prg0.calls L) (L.P r_ref23_Check) prg0.N [] (r_ref23_Check.X.inp.mk' x0 64) = B_ref23_Check L x0 := by kernel_rfl
noncomputable def B_plan_Compile (L : Lvl) (x0 : DExpr) : Option ((List DIns) × Int) :=
  (S_parser_Valid L (Go.AM.eE x0)).bind fun (y1 : Int) =>
    if (y1 != (0 : Int)) = true then
      some (([] : List DIns), y1)
    else
      (S_plan_postfix L (Go.AM.eE x0)).bind fun (y2 : DExpr) =>
        (S_plan_postfix_1 L (([] : List DIns), (Go.AM.eE y2))).bind fun ((y3, y4) : (DExpr × (List DIns))) =>
          some (y4, (0 : Int))
theorem e_plan_Compile (L : Lvl) (x0 : DExpr) : r_plan_Compile.tree prg0.G (prg0.calls L) (L.P r_plan_Compile) prg0.N [] (r_plan_Compile.X.inp.mk' x0 64) = B_plan_Compile L x0 := by kernel_rfl
noncomputable def B_plan_Reach (L : Lvl) (x0 : (List DIns)) : Option Int :=
  (S_plan_Check L x0).bind fun (y1 : Int) =>
    if (y1 != (0 : Int)) = true then
      some (0 : Int)
    else
      P_plan_Reach_0 L ((0 : Int), (x0, ((((List.length x0) : Nat) : Int), (0 : Int))))
theorem e_plan_Reach (L : Lvl) (x0 : (List DIns)) : r_plan_Reach.tree prg0.G (prg0.calls L) (L.P r_plan_Reach) prg0.N [] (r_plan_Reach.X.inp.mk' x0 64) = B_plan_Reach L x0 := by kernel_rfl
noncomputable def B_plan_Reach_0 (L : Lvl) (x0 : Int) (x1 : (List DIns)) (x2 : Int) (x3 : Int) : Option Int :=
  if (decide (x3 < x2)) = true then
    if (decide (((0 : Int) ≤ x3) ∧ (x3 < (((List.length x1) : Nat) : Int)))) = true then
    if ((rdx .ins x1 x3).kind != (1 : Int)) = true then
      P_plan_Reach_0 L (x0, (x1, (x2, (IntKind.wrap .i64 (x3 + (1 : Int))))))
    else
      if ((rdx .ins x1 x3).fn == (0 : Int)) = true then
        if ((rdx .ins x1 x3).fn == (0 : Int)) = true then
          P_plan_Reach_0 L ((ite ((IntKind.wrap .i64 ((0 : Int) - (IntKind.wrap .i64 ((rdx .ins x1 x3).offset + (rdx .ins x1 x3).window)))) < x0) (IntKind.wrap .i64 ((0 : Int) - (IntKind.wrap .i64 ((rdx .ins x1 x3).offset + (rdx .ins x1 x3).window)))) x0), (x1, (x2, (IntKind.wrap .i64 (x3 + (1 : Int))))))
        else
          P_plan_Reach_0 L ((ite ((IntKind.wrap .i64 ((0 : Int) - (IntKind.wrap .i64 ((IntKind.wrap .i64 ((rdx .ins x1 x3).offset + (rdx .ins x1 x3).window)) - (1 : Int))))) < x0) (IntKind.wrap .i64 ((0 : Int) - (IntKind.wrap .i64 ((IntKind.wrap .i64 ((rdx .ins x1 x3).offset + (rdx .ins x1 x3).window)) - (1 : Int))))) x0), (x1, (x2, (IntKind.wrap .i64 (x3 + (1 : Int))))))
      else
        if ((rdx .ins x1 x3).fn == (5 : Int)) = true then
          if ((rdx .ins x1 x3).fn == (5 : Int)) = true then
            P_plan_Reach_0 L ((ite ((IntKind.wrap .i64 ((0 : Int) - (IntKind.wrap .i64 ((rdx .ins x1 x3).offset + (rdx .ins x1 x3).window)))) < x0) (IntKind.wrap .i64 ((0 : Int) - (IntKind.wrap .i64 ((rdx .ins x1 x3).offset + (rdx .ins x1 x3).window)))) x0), (x1, (x2, (IntKind.wrap .i64 (x3 + (1 : Int))))))
          else
            P_plan_Reach_0 L ((ite ((IntKind.wrap .i64 ((0 : Int) - (IntKind.wrap .i64 ((IntKind.wrap .i64 ((rdx .ins x1 x3).offset + (rdx .ins x1 x3).window)) - (1 : Int))))) < x0) (IntKind.wrap .i64 ((0 : Int) - (IntKind.wrap .i64 ((IntKind.wrap .i64 ((rdx .ins x1 x3).offset + (rdx .ins x1 x3).window)) - (1 : Int))))) x0), (x1, (x2, (IntKind.wrap .i64 (x3 + (1 : Int))))))
        else
          if ((rdx .ins x1 x3).fn == (6 : Int)) = true then
            P_plan_Reach_0 L ((ite ((IntKind.wrap .i64 ((0 : Int) - (IntKind.wrap .i64 ((rdx .ins x1 x3).offset + (rdx .ins x1 x3).window)))) < x0) (IntKind.wrap .i64 ((0 : Int) - (IntKind.wrap .i64 ((rdx .ins x1 x3).offset + (rdx .ins x1 x3).window)))) x0), (x1, (x2, (IntKind.wrap .i64 (x3 + (1 : Int))))))
          else
            P_plan_Reach_0 L ((ite ((IntKind.wrap .i64 ((0 : Int) - (IntKind.wrap .i64 ((IntKind.wrap .i64 ((rdx .ins x1 x3).offset + (rdx .ins x1 x3).window)) - (1 : Int))))) < x0) (IntKind.wrap .i64 ((0 : Int) - (IntKind.wrap .i64 ((IntKind.wrap .i64 ((rdx .ins x1 x3).offset + (rdx .ins x1 x3).window)) - (1 : Int))))) x0), (x1, (x2, (IntKind.wrap .i64 (x3 + (1 : Int))))))
    else none
  else
    some x0
theorem e_plan_Reach_0 (L : Lvl) (x0 : Int) (x1 : (List DIns)) (x2 : Int) (x3 : Int) : r_plan_Reach.tree prg0.G (prg0.calls L) (L.P r_plan_Reach) prg0.N [0, 0, 1, 0, 1, 1, 1] (q_plan_Reach_0.mk' (x0, (x1, (x2, x3))) 64) = B_plan_Reach_0 L x0 x1 x2 x3 := by kernel_rfl
noncomputable def B_plan_Tree (L : Lvl) (x0 : (List DIns)) : Option (DExpr × Int) :=
  if (decide ((((List.length x0) : Nat) : Int) > (200 : Int))) = true then
    some ((Go.AM.DExpr.mk (0 : Int) (0 : Int) (0 : Int) (0 : Int) (0 : Int) (Go.AM.DFrac.mk (0 : Int) (0 : Int)) zeroS ([] : List DMatcher) ([] : List ByteArray) ([] : List DExpr)), (4 : Int))
  else
    P_plan_Tree_0 L ((x0, ((((List.length x0) : Nat) : Int), (0 : Int))), (((0 : Int), ((0 : Int), ((0 : Int), ((0 : Int), ((0 : Int), ((0 : Int), ((0 : Int), zeroS))))))), (([] : List DMatcher), (([] : List ByteArray), (([] : List DExpr), ([] : List DExpr))))))
theorem e_plan_Tree (L : Lvl) (x0 : (List DIns)) : r_plan_Tree.tree prg0.G (prg0.calls L) (L.P r_plan_Tree) prg0.N [] (r_plan_Tree.X.inp.mk' x0 64) = B_plan_Tree L x0 := by kernel_rfl
noncomputable def B_plan_Tree_0 (L : Lvl) (x0 : (List DIns)) (x1 : Int) (x2 : Int) (x3 : Int) (x4 : Int) (x5 : Int) (x6 : Int) (x7 : Int) (x8 : Int) (x9 : Int) (x10 : ByteArray) (x11 : (List DMatcher)) (x12 : (List ByteArray)) (x13 : (List DExpr)) (x14 : (List DExpr)) : Option (DExpr × Int) :=
  if (decide (x2 < x1)) = true then
    if (decide (((0 : Int) ≤ x2) ∧ (x2 < (((List.length x0) : Nat) : Int)))) = true then
    if ((rdx .ins x0 x2).kind == (0 : Int)) = true then
      if ((rdx .ins x0 x2).kind == (0 : Int)) = true then
        if (decide ((IntKind.wrap .i64 ((((List.length x14) : Nat) : Int) - (0 : Int))) < (0 : Int))) = true then
          some ((Go.AM.DExpr.mk (0 : Int) (0 : Int) (0 : Int) (0 : Int) (0 : Int) (Go.AM.DFrac.mk (0 : Int) (0 : Int)) zeroS ([] : List DMatcher) ([] : List ByteArray) ([] : List DExpr)), (1 : Int))
        else
          if (decide (((List.length (rdx .ins x0 x2).ms) * (40 : Nat)) ≤ (140737488355328 : Nat))) = true then
          if (decide (((List.length (rdx .ins x0 x2).by_) * (16 : Nat)) ≤ (140737488355328 : Nat))) = true then
          if (decide (((0 : Int) ≤ (IntKind.wrap .i64 ((((List.length x14) : Nat) : Int) - (0 : Int)))) ∧ (((IntKind.wrap .i64 ((((List.length x14) : Nat) : Int) - (0 : Int))) ≤ (((List.length x14) : Nat) : Int)) ∧ ((((List.length x14) : Nat) : Int) ≤ (((List.length x14) : Nat) : Int))))) = true then
          if (decide (((List.length (List.take (Int.toNat ((((List.length x14) : Nat) : Int) - (IntKind.wrap .i64 ((((List.length x14) : Nat) : Int) - (0 : Int))))) (List.drop (Int.toNat (IntKind.wrap .i64 ((((List.length x14) : Nat) : Int) - (0 : Int)))) x14))) * (144 : Nat)) ≤ (140737488355328 : Nat))) = true then
          if (decide (((0 : Int) ≤ (0 : Int)) ∧ (((0 : Int) ≤ (IntKind.wrap .i64 ((((List.length x14) : Nat) : Int) - (0 : Int)))) ∧ ((IntKind.wrap .i64 ((((List.length x14) : Nat) : Int) - (0 : Int))) ≤ (((List.length x14) : Nat) : Int))))) = true then
          if ((decide ((Int.toNat ((IntKind.wrap .i64 ((((List.length x14) : Nat) : Int) - (0 : Int))) - (0 : Int))) ≤ (List.length x14))) && (decide ((((List.length (List.take (Int.toNat ((IntKind.wrap .i64 ((((List.length x14) : Nat) : Int) - (0 : Int))) - (0 : Int))) x14)) + (List.length ((Go.AM.DExpr.mk (rdx .ins x0 x2).kind (rdx .ins x0 x2).fn (rdx .ins x0 x2).window (rdx .ins x0 x2).offset (rdx .ins x0 x2).k (rdx .ins x0 x2).num (rdx .ins x0 x2).name (rdx .ins x0 x2).ms (rdx .ins x0 x2).by_ (List.take (Int.toNat ((((List.length x14) : Nat) : Int) - (IntKind.wrap .i64 ((((List.length x14) : Nat) : Int) - (0 : Int))))) (List.drop (Int.toNat (IntKind.wrap .i64 ((((List.length x14) : Nat) : Int) - (0 : Int)))) x14))) :: ([] : List DExpr)))) * (144 : Nat)) ≤ (140737488355328 : Nat)))) = true then
          P_plan_Tree_0 L ((x0, (x1, (IntKind.wrap .i64 (x2 + (1 : Int))))), ((x3, (x4, (x5, (x6, (x7, (x8, (x9, x10))))))), (x11, (x12, (x13, ((List.take (Int.toNat ((IntKind.wrap .i64 ((((List.length x14) : Nat) : Int) - (0 : Int))) - (0 : Int))) x14) ++ ((Go.AM.DExpr.mk (rdx .ins x0 x2).kind (rdx .ins x0 x2).fn (rdx .ins x0 x2).window (rdx .ins x0 x2).offset (rdx .ins x0 x2).k (rdx .ins x0 x2).num (rdx .ins x0 x2).name (rdx .ins x0 x2).ms (rdx .ins x0 x2).by_ (List.take (Int.toNat ((((List.length x14) : Nat) : Int) - (IntKind.wrap .i64 ((((List.length x14) : Nat) : Int) - (0 : Int))))) (List.drop (Int.toNat (IntKind.wrap .i64 ((((List.length x14) : Nat) : Int) - (0 : Int)))) x14))) :: ([] : List DExpr))))))))
          else none
          else none
          else none
          else none
          else none
          else none
      else
        if ((rdx .ins x0 x2).kind == (2 : Int)) = true then
          if (decide ((IntKind.wrap .i64 ((((List.length x14) : Nat) : Int) - (1 : Int))) < (0 : Int))) = true then
            some ((Go.AM.DExpr.mk (0 : Int) (0 : Int) (0 : Int) (0 : Int) (0 : Int) (Go.AM.DFrac.mk (0 : Int) (0 : Int)) zeroS ([] : List DMatcher) ([] : List ByteArray) ([] : List DExpr)), (1 : Int))
          else
            if (decide (((List.length (rdx .ins x0 x2).ms) * (40 : Nat)) ≤ (140737488355328 : Nat))) = true then
            if (decide (((List.length (rdx .ins x0 x2).by_) * (16 : Nat)) ≤ (140737488355328 : Nat))) = true then
            if (decide (((0 : Int) ≤ (IntKind.wrap .i64 ((((List.length x14) : Nat) : Int) - (1 : Int)))) ∧ (((IntKind.wrap .i64 ((((List.length x14) : Nat) : Int) - (1 : Int))) ≤ (((List.length x14) : Nat) : Int)) ∧ ((((List.length x14) : Nat) : Int) ≤ (((List.length x14) : Nat) : Int))))) = true then
            if (decide (((List.length (List.take (Int.toNat ((((List.length x14) : Nat) : Int) - (IntKind.wrap .i64 ((((List.length x14) : Nat) : Int) - (1 : Int))))) (List.drop (Int.toNat (IntKind.wrap .i64 ((((List.length x14) : Nat) : Int) - (1 : Int)))) x14))) * (144 : Nat)) ≤ (140737488355328 : Nat))) = true then
            if (decide (((0 : Int) ≤ (0 : Int)) ∧ (((0 : Int) ≤ (IntKind.wrap .i64 ((((List.length x14) : Nat) : Int) - (1 : Int)))) ∧ ((IntKind.wrap .i64 ((((List.length x14) : Nat) : Int) - (1 : Int))) ≤ (((List.length x14) : Nat) : Int))))) = true then
            if ((decide ((Int.toNat ((IntKind.wrap .i64 ((((List.length x14) : Nat) : Int) - (1 : Int))) - (0 : Int))) ≤ (List.length x14))) && (decide ((((List.length (List.take (Int.toNat ((IntKind.wrap .i64 ((((List.length x14) : Nat) : Int) - (1 : Int))) - (0 : Int))) x14)) + (List.length ((Go.AM.DExpr.mk (rdx .ins x0 x2).kind (rdx .ins x0 x2).fn (rdx .ins x0 x2).window (rdx .ins x0 x2).offset (rdx .ins x0 x2).k (rdx .ins x0 x2).num (rdx .ins x0 x2).name (rdx .ins x0 x2).ms (rdx .ins x0 x2).by_ (List.take (Int.toNat ((((List.length x14) : Nat) : Int) - (IntKind.wrap .i64 ((((List.length x14) : Nat) : Int) - (1 : Int))))) (List.drop (Int.toNat (IntKind.wrap .i64 ((((List.length x14) : Nat) : Int) - (1 : Int)))) x14))) :: ([] : List DExpr)))) * (144 : Nat)) ≤ (140737488355328 : Nat)))) = true then
            P_plan_Tree_0 L ((x0, (x1, (IntKind.wrap .i64 (x2 + (1 : Int))))), ((x3, (x4, (x5, (x6, (x7, (x8, (x9, x10))))))), (x11, (x12, (x13, ((List.take (Int.toNat ((IntKind.wrap .i64 ((((List.length x14) : Nat) : Int) - (1 : Int))) - (0 : Int))) x14) ++ ((Go.AM.DExpr.mk (rdx .ins x0 x2).kind (rdx .ins x0 x2).fn (rdx .ins x0 x2).window (rdx .ins x0 x2).offset (rdx .ins x0 x2).k (rdx .ins x0 x2).num (rdx .ins x0 x2).name (rdx .ins x0 x2).ms (rdx .ins x0 x2).by_ (List.take (Int.toNat ((((List.length x14) : Nat) : Int) - (IntKind.wrap .i64 ((((List.length x14) : Nat) : Int) - (1 : Int))))) (List.drop (Int.toNat (IntKind.wrap .i64 ((((List.length x14) : Nat) : Int) - (1 : Int)))) x14))) :: ([] : List DExpr))))))))
            else none
            else none
            else none
            else none
            else none
            else none
        else
          if ((rdx .ins x0 x2).kind == (3 : Int)) = true then
            if (decide ((IntKind.wrap .i64 ((((List.length x14) : Nat) : Int) - (2 : Int))) < (0 : Int))) = true then
              some ((Go.AM.DExpr.mk (0 : Int) (0 : Int) (0 : Int) (0 : Int) (0 : Int) (Go.AM.DFrac.mk (0 : Int) (0 : Int)) zeroS ([] : List DMatcher) ([] : List ByteArray) ([] : List DExpr)), (1 : Int))
            else
              if (decide (((List.length (rdx .ins x0 x2).ms) * (40 : Nat)) ≤ (140737488355328 : Nat))) = true then
              if (decide (((List.length (rdx .ins x0 x2).by_) * (16 : Nat)) ≤ (140737488355328 : Nat))) = true then
              if (decide (((0 : Int) ≤ (IntKind.wrap .i64 ((((List.length x14) : Nat) : Int) - (2 : Int)))) ∧ (((IntKind.wrap .i64 ((((List.length x14) : Nat) : Int) - (2 : Int))) ≤ (((List.length x14) : Nat) : Int)) ∧ ((((List.length x14) : Nat) : Int) ≤ (((List.length x14) : Nat) : Int))))) = true then
              if (decide (((List.length (List.take (Int.toNat ((((List.length x14) : Nat) : Int) - (IntKind.wrap .i64 ((((List.length x14) : Nat) : Int) - (2 : Int))))) (List.drop (Int.toNat (IntKind.wrap .i64 ((((List.length x14) : Nat) : Int) - (2 : Int)))) x14))) * (144 : Nat)) ≤ (140737488355328 : Nat))) = true then
              if (decide (((0 : Int) ≤ (0 : Int)) ∧ (((0 : Int) ≤ (IntKind.wrap .i64 ((((List.length x14) : Nat) : Int) - (2 : Int)))) ∧ ((IntKind.wrap .i64 ((((List.length x14) : Nat) : Int) - (2 : Int))) ≤ (((List.length x14) : Nat) : Int))))) = true then
              if ((decide ((Int.toNat ((IntKind.wrap .i64 ((((List.length x14) : Nat) : Int) - (2 : Int))) - (0 : Int))) ≤ (List.length x14))) && (decide ((((List.length (List.take (Int.toNat ((IntKind.wrap .i64 ((((List.length x14) : Nat) : Int) - (2 : Int))) - (0 : Int))) x14)) + (List.length ((Go.AM.DExpr.mk (rdx .ins x0 x2).kind (rdx .ins x0 x2).fn (rdx .ins x0 x2).window (rdx .ins x0 x2).offset (rdx .ins x0 x2).k (rdx .ins x0 x2).num (rdx .ins x0 x2).name (rdx .ins x0 x2).ms (rdx .ins x0 x2).by_ (List.take (Int.toNat ((((List.length x14) : Nat) : Int) - (IntKind.wrap .i64 ((((List.length x14) : Nat) : Int) - (2 : Int))))) (List.drop (Int.toNat (IntKind.wrap .i64 ((((List.length x14) : Nat) : Int) - (2 : Int)))) x14))) :: ([] : List DExpr)))) * (144 : Nat)) ≤ (140737488355328 : Nat)))) = true then
              P_plan_Tree_0 L ((x0, (x1, (IntKind.wrap .i64 (x2 + (1 : Int))))), ((x3, (x4, (x5, (x6, (x7, (x8, (x9, x10))))))), (x11, (x12, (x13, ((List.take (Int.toNat ((IntKind.wrap .i64 ((((List.length x14) : Nat) : Int) - (2 : Int))) - (0 : Int))) x14) ++ ((Go.AM.DExpr.mk (rdx .ins x0 x2).kind (rdx .ins x0 x2).fn (rdx .ins x0 x2).window (rdx .ins x0 x2).offset (rdx .ins x0 x2).k (rdx .ins x0 x2).num (rdx .ins x0 x2).name (rdx .ins x0 x2).ms (rdx .ins x0 x2).by_ (List.take (Int.toNat ((((List.length x14) : Nat) : Int) - (IntKind.wrap .i64 ((((List.length x14) : Nat) : Int) - (2 : Int))))) (List.drop (Int.toNat (IntKind.wrap .i64 ((((List.length x14) : Nat) : Int) - (2 : Int)))) x14))) :: ([] : List DExpr))))))))
              else none
              else none
              else none
              else none
              else none
              else none
          else
            some ((Go.AM.DExpr.mk (0 : Int) (0 : Int) (0 : Int) (0 : Int) (0 : Int) (Go.AM.DFrac.mk (0 : Int) (0 : Int)) zeroS ([] : List DMatcher) ([] : List ByteArray) ([] : List DExpr)), (1 : Int))
    else
      if ((rdx .ins x0 x2).kind == (1 : Int)) = true then
        if (decide ((IntKind.wrap .i64 ((((List.length x14) : Nat) : Int) - (0 : Int))) < (0 : Int))) = true then
          some ((Go.AM.DExpr.mk (0 : Int) (0 : Int) (0 : Int) (0 : Int) (0 : Int) (Go.AM.DFrac.mk (0 : Int) (0 : Int)) zeroS ([] : List DMatcher) ([] : List ByteArray) ([] : List DExpr)), (1 : Int))
        else
          if (decide (((List.length (rdx .ins x0 x2).ms) * (40 : Nat)) ≤ (140737488355328 : Nat))) = true then
          if (decide (((List.length (rdx .ins x0 x2).by_) * (16 : Nat)) ≤ (140737488355328 : Nat))) = true then
          if (decide (((0 : Int) ≤ (IntKind.wrap .i64 ((((List.length x14) : Nat) : Int) - (0 : Int)))) ∧ (((IntKind.wrap .i64 ((((List.length x14) : Nat) : Int) - (0 : Int))) ≤ (((List.length x14) : Nat) : Int)) ∧ ((((List.length x14) : Nat) : Int) ≤ (((List.length x14) : Nat) : Int))))) = true then
          if (decide (((List.length (List.take (Int.toNat ((((List.length x14) : Nat) : Int) - (IntKind.wrap .i64 ((((List.length x14) : Nat) : Int) - (0 : Int))))) (List.drop (Int.toNat (IntKind.wrap .i64 ((((List.length x14) : Nat) : Int) - (0 : Int)))) x14))) * (144 : Nat)) ≤ (140737488355328 : Nat))) = true then
          if (decide (((0 : Int) ≤ (0 : Int)) ∧ (((0 : Int) ≤ (IntKind.wrap .i64 ((((List.length x14) : Nat) : Int) - (0 : Int)))) ∧ ((IntKind.wrap .i64 ((((List.length x14) : Nat) : Int) - (0 : Int))) ≤ (((List.length x14) : Nat) : Int))))) = true then
          if ((decide ((Int.toNat ((IntKind.wrap .i64 ((((List.length x14) : Nat) : Int) - (0 : Int))) - (0 : Int))) ≤ (List.length x14))) && (decide ((((List.length (List.take (Int.toNat ((IntKind.wrap .i64 ((((List.length x14) : Nat) : Int) - (0 : Int))) - (0 : Int))) x14)) + (List.length ((Go.AM.DExpr.mk (rdx .ins x0 x2).kind (rdx .ins x0 x2).fn (rdx .ins x0 x2).window (rdx .ins x0 x2).offset (rdx .ins x0 x2).k (rdx .ins x0 x2).num (rdx .ins x0 x2).name (rdx .ins x0 x2).ms (rdx .ins x0 x2).by_ (List.take (Int.toNat ((((List.length x14) : Nat) : Int) - (IntKind.wrap .i64 ((((List.length x14) : Nat) : Int) - (0 : Int))))) (List.drop (Int.toNat (IntKind.wrap .i64 ((((List.length x14) : Nat) : Int) - (0 : Int)))) x14))) :: ([] : List DExpr)))) * (144 : Nat)) ≤ (140737488355328 : Nat)))) = true then
          P_plan_Tree_0 L ((x0, (x1, (IntKind.wrap .i64 (x2 + (1 : Int))))), ((x3, (x4, (x5, (x6, (x7, (x8, (x9, x10))))))), (x11, (x12, (x13, ((List.take (Int.toNat ((IntKind.wrap .i64 ((((List.length x14) : Nat) : Int) - (0 : Int))) - (0 : Int))) x14) ++ ((Go.AM.DExpr.mk (rdx .ins x0 x2).kind (rdx .ins x0 x2).fn (rdx .ins x0 x2).window (rdx .ins x0 x2).offset (rdx .ins x0 x2).k (rdx .ins x0 x2).num (rdx .ins x0 x2).name (rdx .ins x0 x2).ms (rdx .ins x0 x2).by_ (List.take (Int.toNat ((((List.length x14) : Nat) : Int) - (IntKind.wrap .i64 ((((List.length x14) : Nat) : Int) - (0 : Int))))) (List.drop (Int.toNat (IntKind.wrap .i64 ((((List.length x14) : Nat) : Int) - (0 : Int)))) x14))) :: ([] : List DExpr))))))))
          else none
          else none
          else none
          else none
          else none
          else none
      else
        if ((rdx .ins x0 x2).kind == (2 : Int)) = true then
          if (decide ((IntKind.wrap .i64 ((((List.length x14) : Nat) : Int) - (1 : Int))) < (0 : Int))) = true then
            some ((Go.AM.DExpr.mk (0 : Int) (0 : Int) (0 : Int) (0 : Int) (0 : Int) (Go.AM.DFrac.mk (0 : Int) (0 : Int)) zeroS ([] : List DMatcher) ([] : List ByteArray) ([] : List DExpr)), (1 : Int))
          else
            if (decide (((List.length (rdx .ins x0 x2).ms) * (40 : Nat)) ≤ (140737488355328 : Nat))) = true then
            if (decide (((List.length (rdx .ins x0 x2).by_) * (16 : Nat)) ≤ (140737488355328 : Nat))) = true then
            if (decide (((0 : Int) ≤ (IntKind.wrap .i64 ((((List.length x14) : Nat) : Int) - (1 : Int)))) ∧ (((IntKind.wrap .i64 ((((List.length x14) : Nat) : Int) - (1 : Int))) ≤ (((List.length x14) : Nat) : Int)) ∧ ((((List.length x14) : Nat) : Int) ≤ (((List.length x14) : Nat) : Int))))) = true then
            if (decide (((List.length (List.take (Int.toNat ((((List.length x14) : Nat) : Int) - (IntKind.wrap .i64 ((((List.length x14) : Nat) : Int) - (1 : Int))))) (List.drop (Int.toNat (IntKind.wrap .i64 ((((List.length x14) : Nat) : Int) - (1 : Int)))) x14))) * (144 : Nat)) ≤ (140737488355328 : Nat))) = true then
            if (decide (((0 : Int) ≤ (0 : Int)) ∧ (((0 : Int) ≤ (IntKind.wrap .i64 ((((List.length x14) : Nat) : Int) - (1 : Int)))) ∧ ((IntKind.wrap .i64 ((((List.length x14) : Nat) : Int) - (1 : Int))) ≤ (((List.length x14) : Nat) : Int))))) = true then
            if ((decide ((Int.toNat ((IntKind.wrap .i64 ((((List.length x14) : Nat) : Int) - (1 : Int))) - (0 : Int))) ≤ (List.length x14))) && (decide ((((List.length (List.take (Int.toNat ((IntKind.wrap .i64 ((((List.length x14) : Nat) : Int) - (1 : Int))) - (0 : Int))) x14)) + (List.length ((Go.AM.DExpr.mk (rdx .ins x0 x2).kind (rdx .ins x0 x2).fn (rdx .ins x0 x2).window (rdx .ins x0 x2).offset (rdx .ins x0 x2).k (rdx .ins x0 x2).num (rdx .ins x0 x2).name (rdx .ins x0 x2).ms (rdx .ins x0 x2).by_ (List.take (Int.toNat ((((List.length x14) : Nat) : Int) - (IntKind.wrap .i64 ((((List.length x14) : Nat) : Int) - (1 : Int))))) (List.drop (Int.toNat (IntKind.wrap .i64 ((((List.length x14) : Nat) : Int) - (1 : Int)))) x14))) :: ([] : List DExpr)))) * (144 : Nat)) ≤ (140737488355328 : Nat)))) = true then
            P_plan_Tree_0 L ((x0, (x1, (IntKind.wrap .i64 (x2 + (1 : Int))))), ((x3, (x4, (x5, (x6, (x7, (x8, (x9, x10))))))), (x11, (x12, (x13, ((List.take (Int.toNat ((IntKind.wrap .i64 ((((List.length x14) : Nat) : Int) - (1 : Int))) - (0 : Int))) x14) ++ ((Go.AM.DExpr.mk (rdx .ins x0 x2).kind (rdx .ins x0 x2).fn (rdx .ins x0 x2).window (rdx .ins x0 x2).offset (rdx .ins x0 x2).k (rdx .ins x0 x2).num (rdx .ins x0 x2).name (rdx .ins x0 x2).ms (rdx .ins x0 x2).by_ (List.take (Int.toNat ((((List.length x14) : Nat) : Int) - (IntKind.wrap .i64 ((((List.length x14) : Nat) : Int) - (1 : Int))))) (List.drop (Int.toNat (IntKind.wrap .i64 ((((List.length x14) : Nat) : Int) - (1 : Int)))) x14))) :: ([] : List DExpr))))))))
            else none
            else none
            else none
            else none
            else none
            else none
        else
          if ((rdx .ins x0 x2).kind == (3 : Int)) = true then
            if (decide ((IntKind.wrap .i64 ((((List.length x14) : Nat) : Int) - (2 : Int))) < (0 : Int))) = true then
              some ((Go.AM.DExpr.mk (0 : Int) (0 : Int) (0 : Int) (0 : Int) (0 : Int) (Go.AM.DFrac.mk (0 : Int) (0 : Int)) zeroS ([] : List DMatcher) ([] : List ByteArray) ([] : List DExpr)), (1 : Int))
            else
              if (decide (((List.length (rdx .ins x0 x2).ms) * (40 : Nat)) ≤ (140737488355328 : Nat))) = true then
              if (decide (((List.length (rdx .ins x0 x2).by_) * (16 : Nat)) ≤ (140737488355328 : Nat))) = true then
              if (decide (((0 : Int) ≤ (IntKind.wrap .i64 ((((List.length x14) : Nat) : Int) - (2 : Int)))) ∧ (((IntKind.wrap .i64 ((((List.length x14) : Nat) : Int) - (2 : Int))) ≤ (((List.length x14) : Nat) : Int)) ∧ ((((List.length x14) : Nat) : Int) ≤ (((List.length x14) : Nat) : Int))))) = true then
              if (decide (((List.length (List.take (Int.toNat ((((List.length x14) : Nat) : Int) - (IntKind.wrap .i64 ((((List.length x14) : Nat) : Int) - (2 : Int))))) (List.drop (Int.toNat (IntKind.wrap .i64 ((((List.length x14) : Nat) : Int) - (2 : Int)))) x14))) * (144 : Nat)) ≤ (140737488355328 : Nat))) = true then
              if (decide (((0 : Int) ≤ (0 : Int)) ∧ (((0 : Int) ≤ (IntKind.wrap .i64 ((((List.length x14) : Nat) : Int) - (2 : Int)))) ∧ ((IntKind.wrap .i64 ((((List.length x14) : Nat) : Int) - (2 : Int))) ≤ (((List.length x14) : Nat) : Int))))) = true then
              if ((decide ((Int.toNat ((IntKind.wrap .i64 ((((List.length x14) : Nat) : Int) - (2 : Int))) - (0 : Int))) ≤ (List.length x14))) && (decide ((((List.length (List.take (Int.toNat ((IntKind.wrap .i64 ((((List.length x14) : Nat) : Int) - (2 : Int))) - (0 : Int))) x14)) + (List.length ((Go.AM.DExpr.mk (rdx .ins x0 x2).kind (rdx .ins x0 x2).fn (rdx .ins x0 x2).window (rdx .ins x0 x2).offset (rdx .ins x0 x2).k (rdx .ins x0 x2).num (rdx .ins x0 x2).name (rdx .ins x0 x2).ms (rdx .ins x0 x2).by_ (List.take (Int.toNat ((((List.length x14) : Nat) : Int) - (IntKind.wrap .i64 ((((List.length x14) : Nat) : Int) - (2 : Int))))) (List.drop (Int.toNat (IntKind.wrap .i64 ((((List.length x14) : Nat) : Int) - (2 : Int)))) x14))) :: ([] : List DExpr)))) * (144 : Nat)) ≤ (140737488355328 : Nat)))) = true then
              P_plan_Tree_0 L ((x0, (x1, (IntKind.wrap .i64 (x2 + (1 : Int))))), ((x3, (x4, (x5, (x6, (x7, (x8, (x9, x10))))))), (x11, (x12, (x13, ((List.take (Int.toNat ((IntKind.wrap .i64 ((((List.length x14) : Nat) : Int) - (2 : Int))) - (0 : Int))) x14) ++ ((Go.AM.DExpr.mk (rdx .ins x0 x2).kind (rdx .ins x0 x2).fn (rdx .ins x0 x2).window (rdx .ins x0 x2).offset (rdx .ins x0 x2).k (rdx .ins x0 x2).num (rdx .ins x0 x2).name (rdx .ins x0 x2).ms (rdx .ins x0 x2).by_ (List.take (Int.toNat ((((List.length x14) : Nat) : Int) - (IntKind.wrap .i64 ((((List.length x14) : Nat) : Int) - (2 : Int))))) (List.drop (Int.toNat (IntKind.wrap .i64 ((((List.length x14) : Nat) : Int) - (2 : Int)))) x14))) :: ([] : List DExpr))))))))
              else none
              else none
              else none
              else none
              else none
              else none
          else
            some ((Go.AM.DExpr.mk (0 : Int) (0 : Int) (0 : Int) (0 : Int) (0 : Int) (Go.AM.DFrac.mk (0 : Int) (0 : Int)) zeroS ([] : List DMatcher) ([] : List ByteArray) ([] : List DExpr)), (1 : Int))
    else none
  else
    if ((((List.length x14) : Nat) : Int) != (1 : Int)) = true then
      some ((Go.AM.DExpr.mk (0 : Int) (0 : Int) (0 : Int) (0 : Int) (0 : Int) (Go.AM.DFrac.mk (0 : Int) (0 : Int)) zeroS ([] : List DMatcher) ([] : List ByteArray) ([] : List DExpr)), (1 : Int))
    else
      if (decide (((0 : Int) ≤ (0 : Int)) ∧ ((0 : Int) < (((List.length x14) : Nat) : Int)))) = true then
      if (decide ((0 : Nat) < (List.length x14))) = true then
      (S_parser_Valid L (Go.AM.eE (List.getD x14 (0 : Nat) (dflt .expr)))).bind fun (y15 : Int) =>
        if (y15 != (0 : Int)) = true then
          some ((Go.AM.DExpr.mk (0 : Int) (0 : Int) (0 : Int) (0 : Int) (0 : Int) (Go.AM.DFrac.mk (0 : Int) (0 : Int)) zeroS ([] : List DMatcher) ([] : List ByteArray) ([] : List DExpr)), y15)
        else
          if (decide (((0 : Int) ≤ (0 : Int)) ∧ ((0 : Int) < (((List.length x14) : Nat) : Int)))) = true then
          if (decide ((0 : Nat) < (List.length x14))) = true then
          some ((Go.AM.eE (List.getD x14 (0 : Nat) (dflt .expr))), (0 : Int))
          else none
          else none
      else none
      else none
theorem e_plan_Tree_0 (L : Lvl) (x0 : (List DIns)) (x1 : Int) (x2 : Int) (x3 : Int) (x4 : Int) (x5 : Int) (x6 : Int) (x7 : Int) (x8 : Int) (x9 : Int) (x10 : ByteArray) (x11 : (List DMatcher)) (x12 : (List ByteArray)) (x13 : (List DExpr)) (x14 : (List DExpr)) : r_plan_Tree.tree prg0.G (prg0.calls L) (L.P r_plan_Tree) prg0.N [0, 0, 1, 0, 1, 1, 1] (q_plan_Tree_0.mk' ((x0, (x1, x2)), ((x3, (x4, (x5, (x6, (x7, (x8, (x9, x10))))))), (x11, (x12, (x13, x14))))) 64) = B_plan_Tree_0 L x0 x1 x2 x3 x4 x5 x6 x7 x8 x9 x10 x11 x12 x13 x14 := by kernel_rfl
noncomputable def B_parser_Equal (L : Lvl) (x0 : DExpr) (x1 : DExpr) : Option Bool :=
  if (x0.kind == x1.kind) = true then
    if (x0.fn == x1.fn) = true then
      if (x0.window == x1.window) = true then
        if (x0.offset == x1.offset) = true then
          if (x0.k == x1.k) = true then
            if (Go.AM.allB ((x0.num.num == x1.num.num) :: ((x0.num.den == x1.num.den) :: ([] : List Bool)))) = true then
              if ((ByteArray.toList x0.name) == (ByteArray.toList x1.name)) = true then
                (S_slices_Equal_Matcher L (x0.ms, x1.ms)).bind fun (y2 : Bool) =>
                  if y2 = true then
                    (S_slices_Equal_string L (x0.by_, x1.by_)).bind fun (y3 : Bool) =>
                      if y3 = true then
                        (S_slices_EqualFunc_Expr L (x0.kids, x1.kids)).bind fun (y4 : Bool) =>
                          some y4
                      else
                        some false
                  else
                    some false
              else
                some false
            else
              some false
          else
            some false
        else
          some false
      else
        some false
    else
      some false
  else
    some false
theorem e_parser_Equal (L : Lvl) (x0 : DExpr) (x1 : DExpr) : r_parser_Equal.tree prg0.G (prg0.calls L) (L.P r_parser_Equal) prg0.N [] (r_parser_Equal.X.inp.mk' (x0, x1) 64) = B_parser_Equal L x0 x1 := by kernel_rfl
noncomputable def B_parser_Nodes (L : Lvl) (x0 : DExpr) : Option Int :=
  P_parser_Nodes_0 L ((1 : Int), (x0.kids, ((((List.length x0.kids) : Nat) : Int), (0 : Int))))
theorem e_parser_Nodes (L : Lvl) (x0 : DExpr) : r_parser_Nodes.tree prg0.G (prg0.calls L) (L.P r_parser_Nodes) prg0.N [] (r_parser_Nodes.X.inp.mk' x0 64) = B_parser_Nodes L x0 := by kernel_rfl
noncomputable def B_parser_Nodes_0 (L : Lvl) (x0 : Int) (x1 : (List DExpr)) (x2 : Int) (x3 : Int) : Option Int :=
  if (decide (x3 < x2)) = true then
    if (decide (((0 : Int) ≤ x3) ∧ (x3 < (((List.length x1) : Nat) : Int)))) = true then
    (S_parser_Nodes L (Go.AM.eE (rdx .expr x1 x3))).bind fun (y4 : Int) =>
      P_parser_Nodes_0 L ((IntKind.wrap .i64 (x0 + y4)), (x1, (x2, (IntKind.wrap .i64 (x3 + (1 : Int))))))
    else none
  else
    some x0
theorem e_parser_Nodes_0 (L : Lvl) (x0 : Int) (x1 : (List DExpr)) (x2 : Int) (x3 : Int) : r_parser_Nodes.tree prg0.G (prg0.calls L) (L.P r_parser_Nodes) prg0.N [0, 0, 1, 0, 1, 1] (q_parser_Nodes_0.mk' (x0, (x1, (x2, x3))) 64) = B_parser_Nodes_0 L x0 x1 x2 x3 := by kernel_rfl
noncomputable def B_parser_Parse (L : Lvl) (x0 : ByteArray) : Option (DExpr × (Int × Int)) :=
  (S_lexer_Tokens L x0).bind fun ((y1, (y2, y3)) : ((List DTok) × (Int × Int))) =>
    if (y3 != (0 : Int)) = true then
      some ((Go.AM.DExpr.mk (0 : Int) (0 : Int) (0 : Int) (0 : Int) (0 : Int) (Go.AM.DFrac.mk (0 : Int) (0 : Int)) zeroS ([] : List DMatcher) ([] : List ByteArray) ([] : List DExpr)), (y2, y3))
    else
      exc (S_parser_reader_expression L (y1, (((ByteArray.size x0) : Nat) : Int))) (fun (y4 : DFrac) => none)
      (fun ((y5, (y6, y7)) : (DExpr × ((List DTok) × Int))) => if (decide ((((List.length y6) : Nat) : Int) > (0 : Int))) = true then
          exc (S_parser_reader_fail L ((2 : Int), (y6, y7))) (fun (y8 : DFrac) => none)
          (fun ((y9, y10) : ((List DTok) × Int)) => (S_parser_tooLarge L (Go.AM.eE y5)).bind fun (y11 : Bool) =>
              if y11 = true then
                exc (S_parser_reader_fail L ((4 : Int), (y9, y10))) (fun (y12 : DFrac) => none)
                (fun ((y13, y14) : ((List DTok) × Int)) => (some ((Go.AM.eE y5), ((0 : Int), (0 : Int)))).bind fun ((y15, (y16, y17)) : (DExpr × (Int × Int))) =>
                    some ((Go.AM.eE y15), (y16, y17)))
              else
                (some ((Go.AM.eE y5), ((0 : Int), (0 : Int)))).bind fun ((y18, (y19, y20)) : (DExpr × (Int × Int))) =>
                  some ((Go.AM.eE y18), (y19, y20)))
        else
          (S_parser_tooLarge L (Go.AM.eE y5)).bind fun (y21 : Bool) =>
            if y21 = true then
              exc (S_parser_reader_fail L ((4 : Int), (y6, y7))) (fun (y22 : DFrac) => none)
              (fun ((y23, y24) : ((List DTok) × Int)) => (some ((Go.AM.eE y5), ((0 : Int), (0 : Int)))).bind fun ((y25, (y26, y27)) : (DExpr × (Int × Int))) =>
                  some ((Go.AM.eE y25), (y26, y27)))
            else
              (some ((Go.AM.eE y5), ((0 : Int), (0 : Int)))).bind fun ((y28, (y29, y30)) : (DExpr × (Int × Int))) =>
                some ((Go.AM.eE y28), (y29, y30)))
theorem e_parser_Parse (L : Lvl) (x0 : ByteArray) : r_parser_Parse.tree prg0.G (prg0.calls L) (L.P r_parser_Parse) prg0.N [] (r_parser_Parse.X.inp.mk' x0 64) = B_parser_Parse L x0 := by kernel_rfl
noncomputable def B_ref07_Valid (L : Lvl) (x0 : DExpr) : Option Int :=
  (S_ref07_Depth L (Go.AM.eE x0)).bind fun (y1 : Int) =>
    if (decide (y1 > (12 : Int))) = true then
      some (4 : Int)
    else
      (S_ref07_Nodes L (Go.AM.eE x0)).bind fun (y2 : Int) =>
        if (decide (y2 > (200 : Int))) = true then
          some (4 : Int)
        else
          (S_ref07_valid L (Go.AM.eE x0)).bind fun (y3 : Int) =>
            some y3
theorem e_ref07_Valid (L : Lvl) (x0 : DExpr) : r_ref07_Valid.tree prg0.G (prg0.calls L) (L.P r_ref07_Valid) prg0.N [] (r_ref07_Valid.X.inp.mk' x0 64) = B_ref07_Valid L x0 := by kernel_rfl
noncomputable def B_ref23_postfix (L : Lvl) (x0 : DExpr) : Option (List DIns) :=
  P_ref23_postfix_0 L ((0 : Int), ((Go.AM.eE x0), ([] : List DIns)))
theorem e_ref23_postfix (L : Lvl) (x0 : DExpr) : r_ref23_postfix.tree prg0.G (prg0.calls L) (L.P r_ref23_postfix) prg0.N [] (r_ref23_postfix.X.inp.mk' x0 64) = B_ref23_postfix L x0 := by kernel_rfl
noncomputable def B_ref23_postfix_0 (L : Lvl) (x0 : Int) (x1 : DExpr) (x2 : (List DIns)) : Option (List DIns) :=
  if (decide (x0 < (((List.length x1.kids) : Nat) : Int))) = true then
    if (decide (((0 : Int) ≤ x0) ∧ (x0 < (((List.length x1.kids) : Nat) : Int)))) = true then
    (S_ref23_postfix L (Go.AM.eE (rdx .expr x1.kids x0))).bind fun (y3 : (List DIns)) =>
      if (true && (decide ((((List.length x2) + (List.length y3)) * (120 : Nat)) ≤ (140737488355328 : Nat)))) = true then
      P_ref23_postfix_0 L ((IntKind.wrap .i64 (x0 + (1 : Int))), ((Go.AM.eE x1), (x2 ++ y3)))
      else none
    else none
  else
    (S_ref23_Ins L (Go.AM.eE x1)).bind fun (y4 : DIns) =>
      if (true && (decide ((((List.length x2) + (List.length (y4 :: ([] : List DIns)))) * (120 : Nat)) ≤ (140737488355328 : Nat)))) = true then
      some (x2 ++ (y4 :: ([] : List DIns)))
      else none
theorem e_ref23_postfix_0 (L : Lvl) (x0 : Int) (x1 : DExpr) (x2 : (List DIns)) : r_ref23_postfix.tree prg0.G (prg0.calls L) (L.P r_ref23_postfix) prg0.N [0, 0, 1, 0, 1, 1] (q_ref23_postfix_0.mk' (x0, (x1, x2)) 64) = B_ref23_postfix_0 L x0 x1 x2 := by kernel_rfl
noncomputable def B_ref23_Tree (L : Lvl) (x0 : (List DIns)) : Option (DExpr × Int) :=
  if (decide ((((List.length x0) : Nat) : Int) > (200 : Int))) = true then
    some ((Go.AM.DExpr.mk (0 : Int) (0 : Int) (0 : Int) (0 : Int) (0 : Int) (Go.AM.DFrac.mk (0 : Int) (0 : Int)) zeroS ([] : List DMatcher) ([] : List ByteArray) ([] : List DExpr)), (4 : Int))
  else
    P_ref23_Tree_0 L ((x0, (0 : Int)), (((0 : Int), ((0 : Int), ((0 : Int), ((0 : Int), ((0 : Int), ((0 : Int), ((0 : Int), zeroS))))))), (([] : List DMatcher), (([] : List ByteArray), (([] : List DExpr), ([] : List DExpr))))))
theorem e_ref23_Tree (L : Lvl) (x0 : (List DIns)) : r_ref23_Tree.tree prg0.G (prg0.calls L) (L.P r_ref23_Tree) prg0.N [] (r_ref23_Tree.X.inp.mk' x0 64) = B_ref23_Tree L x0 := by kernel_rfl
noncomputable def B_ref23_Tree_0 (L : Lvl) (x0 : (List DIns)) (x1 : Int) (x2 : Int) (x3 : Int) (x4 : Int) (x5 : Int) (x6 : Int) (x7 : Int) (x8 : Int) (x9 : ByteArray) (x10 : (List DMatcher)) (x11 : (List ByteArray)) (x12 : (List DExpr)) (x13 : (List DExpr)) : Option (DExpr × Int) :=
  if (decide (x1 < (((List.length x0) : Nat) : Int))) = true then
    if (decide (((0 : Int) ≤ x1) ∧ (x1 < (((List.length x0) : Nat) : Int)))) = true then
    (S_ref23_node L (rdx .ins x0 x1)).bind fun (y14 : DIns) =>
      if (decide (y14.kind < (0 : Int))) = true then
        some ((Go.AM.DExpr.mk (0 : Int) (0 : Int) (0 : Int) (0 : Int) (0 : Int) (Go.AM.DFrac.mk (0 : Int) (0 : Int)) zeroS ([] : List DMatcher) ([] : List ByteArray) ([] : List DExpr)), (1 : Int))
      else
        if (decide (y14.kind > (3 : Int))) = true then
          some ((Go.AM.DExpr.mk (0 : Int) (0 : Int) (0 : Int) (0 : Int) (0 : Int) (Go.AM.DFrac.mk (0 : Int) (0 : Int)) zeroS ([] : List DMatcher) ([] : List ByteArray) ([] : List DExpr)), (1 : Int))
        else
          if (decide ((((List.length x13) : Nat) : Int) < (ite ((IntKind.wrap .i64 (y14.kind - (1 : Int))) > (0 : Int)) (IntKind.wrap .i64 (y14.kind - (1 : Int))) (0 : Int)))) = true then
            some ((Go.AM.DExpr.mk (0 : Int) (0 : Int) (0 : Int) (0 : Int) (0 : Int) (Go.AM.DFrac.mk (0 : Int) (0 : Int)) zeroS ([] : List DMatcher) ([] : List ByteArray) ([] : List DExpr)), (1 : Int))
          else
            if (decide (((0 : Int) ≤ (IntKind.wrap .i64 ((((List.length x13) : Nat) : Int) - (ite ((IntKind.wrap .i64 (y14.kind - (1 : Int))) > (0 : Int)) (IntKind.wrap .i64 (y14.kind - (1 : Int))) (0 : Int))))) ∧ (((IntKind.wrap .i64 ((((List.length x13) : Nat) : Int) - (ite ((IntKind.wrap .i64 (y14.kind - (1 : Int))) > (0 : Int)) (IntKind.wrap .i64 (y14.kind - (1 : Int))) (0 : Int)))) ≤ (((List.length x13) : Nat) : Int)) ∧ ((((List.length x13) : Nat) : Int) ≤ (((List.length x13) : Nat) : Int))))) = true then
            if (true && (decide ((((0 : Nat) + (List.length (List.take (Int.toNat ((((List.length x13) : Nat) : Int) - (IntKind.wrap .i64 ((((List.length x13) : Nat) : Int) - (ite ((IntKind.wrap .i64 (y14.kind - (1 : Int))) > (0 : Int)) (IntKind.wrap .i64 (y14.kind - (1 : Int))) (0 : Int)))))) (List.drop (Int.toNat (IntKind.wrap .i64 ((((List.length x13) : Nat) : Int) - (ite ((IntKind.wrap .i64 (y14.kind - (1 : Int))) > (0 : Int)) (IntKind.wrap .i64 (y14.kind - (1 : Int))) (0 : Int))))) x13)))) * (144 : Nat)) ≤ (140737488355328 : Nat)))) = true then
            if (decide (((0 : Int) ≤ (0 : Int)) ∧ (((0 : Int) ≤ (IntKind.wrap .i64 ((((List.length x13) : Nat) : Int) - (ite ((IntKind.wrap .i64 (y14.kind - (1 : Int))) > (0 : Int)) (IntKind.wrap .i64 (y14.kind - (1 : Int))) (0 : Int))))) ∧ ((IntKind.wrap .i64 ((((List.length x13) : Nat) : Int) - (ite ((IntKind.wrap .i64 (y14.kind - (1 : Int))) > (0 : Int)) (IntKind.wrap .i64 (y14.kind - (1 : Int))) (0 : Int)))) ≤ (((List.length x13) : Nat) : Int))))) = true then
            if ((decide ((Int.toNat ((IntKind.wrap .i64 ((((List.length x13) : Nat) : Int) - (ite ((IntKind.wrap .i64 (y14.kind - (1 : Int))) > (0 : Int)) (IntKind.wrap .i64 (y14.kind - (1 : Int))) (0 : Int)))) - (0 : Int))) ≤ (List.length x13))) && (decide ((((List.length (List.take (Int.toNat ((IntKind.wrap .i64 ((((List.length x13) : Nat) : Int) - (ite ((IntKind.wrap .i64 (y14.kind - (1 : Int))) > (0 : Int)) (IntKind.wrap .i64 (y14.kind - (1 : Int))) (0 : Int)))) - (0 : Int))) x13)) + (List.length ((Go.AM.DExpr.mk y14.kind y14.fn y14.window y14.offset y14.k y14.num y14.name y14.ms y14.by_ (([] : List DExpr) ++ (List.take (Int.toNat ((((List.length x13) : Nat) : Int) - (IntKind.wrap .i64 ((((List.length x13) : Nat) : Int) - (ite ((IntKind.wrap .i64 (y14.kind - (1 : Int))) > (0 : Int)) (IntKind.wrap .i64 (y14.kind - (1 : Int))) (0 : Int)))))) (List.drop (Int.toNat (IntKind.wrap .i64 ((((List.length x13) : Nat) : Int) - (ite ((IntKind.wrap .i64 (y14.kind - (1 : Int))) > (0 : Int)) (IntKind.wrap .i64 (y14.kind - (1 : Int))) (0 : Int))))) x13)))) :: ([] : List DExpr)))) * (144 : Nat)) ≤ (140737488355328 : Nat)))) = true then
            P_ref23_Tree_0 L ((x0, (IntKind.wrap .i64 (x1 + (1 : Int)))), ((x2, (x3, (x4, (x5, (x6, (x7, (x8, x9))))))), (x10, (x11, (x12, ((List.take (Int.toNat ((IntKind.wrap .i64 ((((List.length x13) : Nat) : Int) - (ite ((IntKind.wrap .i64 (y14.kind - (1 : Int))) > (0 : Int)) (IntKind.wrap .i64 (y14.kind - (1 : Int))) (0 : Int)))) - (0 : Int))) x13) ++ ((Go.AM.DExpr.mk y14.kind y14.fn y14.window y14.offset y14.k y14.num y14.name y14.ms y14.by_ (([] : List DExpr) ++ (List.take (Int.toNat ((((List.length x13) : Nat) : Int) - (IntKind.wrap .i64 ((((List.length x13) : Nat) : Int) - (ite ((IntKind.wrap .i64 (y14.kind - (1 : Int))) > (0 : Int)) (IntKind.wrap .i64 (y14.kind - (1 : Int))) (0 : Int)))))) (List.drop (Int.toNat (IntKind.wrap .i64 ((((List.length x13) : Nat) : Int) - (ite ((IntKind.wrap .i64 (y14.kind - (1 : Int))) > (0 : Int)) (IntKind.wrap .i64 (y14.kind - (1 : Int))) (0 : Int))))) x13)))) :: ([] : List DExpr))))))))
            else none
            else none
            else none
            else none
    else none
  else
    if ((((List.length x13) : Nat) : Int) != (1 : Int)) = true then
      some ((Go.AM.DExpr.mk (0 : Int) (0 : Int) (0 : Int) (0 : Int) (0 : Int) (Go.AM.DFrac.mk (0 : Int) (0 : Int)) zeroS ([] : List DMatcher) ([] : List ByteArray) ([] : List DExpr)), (1 : Int))
    else
      if (decide (((0 : Int) ≤ (0 : Int)) ∧ ((0 : Int) < (((List.length x13) : Nat) : Int)))) = true then
      if (decide ((0 : Nat) < (List.length x13))) = true then
      (S_ref07_Valid L (Go.AM.eE (List.getD x13 (0 : Nat) (dflt .expr)))).bind fun (y15 : Int) =>
        if (y15 != (0 : Int)) = true then
          some ((Go.AM.DExpr.mk (0 : Int) (0 : Int) (0 : Int) (0 : Int) (0 : Int) (Go.AM.DFrac.mk (0 : Int) (0 : Int)) zeroS ([] : List DMatcher) ([] : List ByteArray) ([] : List DExpr)), y15)
        else
          if (decide (((0 : Int) ≤ (0 : Int)) ∧ ((0 : Int) < (((List.length x13) : Nat) : Int)))) = true then
          if (decide ((0 : Nat) < (List.length x13))) = true then
          some ((Go.AM.eE (List.getD x13 (0 : Nat) (dflt .expr))), (0 : Int))
          else none
          else none
      else none
      else none
theorem e_ref23_Tree_0 (L : Lvl) (x0 : (List DIns)) (x1 : Int) (x2 : Int) (x3 : Int) (x4 : Int) (x5 : Int) (x6 : Int) (x7 : Int) (x8 : Int) (x9 : ByteArray) (x10 : (List DMatcher)) (x11 : (List ByteArray)) (x12 : (List DExpr)) (x13 : (List DExpr)) : r_ref23_Tree.tree prg0.G (prg0.calls L) (L.P r_ref23_Tree) prg0.N [0, 0, 1, 0, 1, 1, 1] (q_ref23_Tree_0.mk' ((x0, x1), ((x2, (x3, (x4, (x5, (x6, (x7, (x8, x9))))))), (x10, (x11, (x12, x13))))) 64) = B_ref23_Tree_0 L x0 x1 x2 x3 x4 x5 x6 x7 x8 x9 x10 x11 x12 x13 := by kernel_rfl
noncomputable def B_ref07_Equal (L : Lvl) (x0 : DExpr) (x1 : DExpr) : Option Bool :=
  if (x0.kind != x1.kind) = true then
    some false
  else
    if (x0.fn != x1.fn) = true then
      some false
    else
      if (x0.window != x1.window) = true then
        some false
      else
        if (x0.offset != x1.offset) = true then
          some false
        else
          if (x0.k != x1.k) = true then
            some false
          else
            if (!(Go.AM.allB ((x0.num.num == x1.num.num) :: ((x0.num.den == x1.num.den) :: ([] : List Bool))))) = true then
              some false
            else
              if (!((ByteArray.toList x0.name) == (ByteArray.toList x1.name))) = true then
                some false
              else
                if ((((List.length x0.kids) : Nat) : Int) != (((List.length x1.kids) : Nat) : Int)) = true then
                  some false
                else
                  (S_ref07_sameMatchers L (x0.ms, x1.ms)).bind fun (y2 : Bool) =>
                    if (!y2) = true then
                      some false
                    else
                      (S_ref01_SameTexts L (x0.by_, x1.by_)).bind fun (y3 : Bool) =>
                        if (!y3) = true then
                          some false
                        else
                          P_ref07_Equal_0 L ((0 : Int), ((Go.AM.eE x0), (Go.AM.eE x1)))
theorem e_ref07_Equal (L : Lvl) (x0 : DExpr) (x1 : DExpr) : r_ref07_Equal.tree prg0.G (prg0.calls L) (L.P r_ref07_Equal) prg0.N [] (r_ref07_Equal.X.inp.mk' (x0, x1) 64) = B_ref07_Equal L x0 x1 := by kernel_rfl
noncomputable def B_ref07_Equal_0 (L : Lvl) (x0 : Int) (x1 : DExpr) (x2 : DExpr) : Option Bool :=
  if (decide (x0 < (((List.length x1.kids) : Nat) : Int))) = true then
    if (decide (((0 : Int) ≤ x0) ∧ (x0 < (((List.length x1.kids) : Nat) : Int)))) = true then
    if (decide (((0 : Int) ≤ x0) ∧ (x0 < (((List.length x2.kids) : Nat) : Int)))) = true then
    (S_ref07_Equal L ((Go.AM.eE (rdx .expr x1.kids x0)), (Go.AM.eE (rdx .expr x2.kids x0)))).bind fun (y3 : Bool) =>
      if (!y3) = true then
        some false
      else
        P_ref07_Equal_0 L ((IntKind.wrap .i64 (x0 + (1 : Int))), ((Go.AM.eE x1), (Go.AM.eE x2)))
    else none
    else none
  else
    some true
theorem e_ref07_Equal_0 (L : Lvl) (x0 : Int) (x1 : DExpr) (x2 : DExpr) : r_ref07_Equal.tree prg0.G (prg0.calls L) (L.P r_ref07_Equal) prg0.N [0, 0, 1, 0, 1, 1, 1] (q_ref07_Equal_0.mk' (x0, (x1, x2)) 64) = B_ref07_Equal_0 L x0 x1 x2 := by kernel_rfl
noncomputable def B_parser_Valid (L : Lvl) (x0 : DExpr) : Option Int :=
  (S_parser_tooLarge L (Go.AM.eE x0)).bind fun (y1 : Bool) =>
    if y1 = true then
      some (4 : Int)
    else
      (S_parser_valid L (Go.AM.eE x0)).bind fun (y2 : Int) =>
        some y2
theorem e_parser_Valid (L : Lvl) (x0 : DExpr) : r_parser_Valid.tree prg0.G (prg0.calls L) (L.P r_parser_Valid) prg0.N [] (r_parser_Valid.X.inp.mk' x0 64) = B_parser_Valid L x0 := by kernel_rfl
noncomputable def B_plan_postfix (L : Lvl) (x0 : DExpr) : Option DExpr :=
  some (Go.AM.eE x0)
theorem e_plan_postfix (L : Lvl) (x0 : DExpr) : r_plan_postfix.tree prg0.G (prg0.calls L) (L.P r_plan_postfix) prg0.N [] (r_plan_postfix.X.inp.mk' x0 64) = B_plan_postfix L x0 := by kernel_rfl
noncomputable def B_ref23_node (L : Lvl) (x0 : DIns) : Option DIns :=
  some x0
theorem e_ref23_node (L : Lvl) (x0 : DIns) : r_ref23_node.tree prg0.G (prg0.calls L) (L.P r_ref23_node) prg0.N [] (r_ref23_node.X.inp.mk' x0 64) = B_ref23_node L x0 := by kernel_rfl
noncomputable def B_slices_Equal_Matcher (L : Lvl) (x0 : (List DMatcher)) (x1 : (List DMatcher)) : Option Bool :=
  if ((((List.length x0) : Nat) : Int) != (((List.length x1) : Nat) : Int)) = true then
    some false
  else
    P_slices_Equal_Matcher_0 L (x0, (x1, ((((List.length x0) : Nat) : Int), (0 : Int))))
theorem e_slices_Equal_Matcher (L : Lvl) (x0 : (List DMatcher)) (x1 : (List DMatcher)) : r_slices_Equal_Matcher.tree prg0.G (prg0.calls L) (L.P r_slices_Equal_Matcher) prg0.N [] (r_slices_Equal_Matcher.X.inp.mk' (x0, x1) 64) = B_slices_Equal_Matcher L x0 x1 := by kernel_rfl
noncomputable def B_slices_Equal_Matcher_0 (L : Lvl) (x0 : (List DMatcher)) (x1 : (List DMatcher)) (x2 : Int) (x3 : Int) : Option Bool :=
  if (decide (x3 < x2)) = true then
    if (decide (((0 : Int) ≤ x3) ∧ (x3 < (((List.length x0) : Nat) : Int)))) = true then
    if (decide (((0 : Int) ≤ x3) ∧ (x3 < (((List.length x1) : Nat) : Int)))) = true then
    if (!(Go.AM.allB (((ByteArray.toList (rdx .matcher x0 x3).name) == (ByteArray.toList (rdx .matcher x1 x3).name)) :: (((rdx .matcher x0 x3).kind == (rdx .matcher x1 x3).kind) :: (((ByteArray.toList (rdx .matcher x0 x3).value) == (ByteArray.toList (rdx .matcher x1 x3).value)) :: ([] : List Bool)))))) = true then
      some false
    else
      P_slices_Equal_Matcher_0 L (x0, (x1, (x2, (IntKind.wrap .i64 (x3 + (1 : Int))))))
    else none
    else none
  else
    some true
theorem e_slices_Equal_Matcher_0 (L : Lvl) (x0 : (List DMatcher)) (x1 : (List DMatcher)) (x2 : Int) (x3 : Int) : r_slices_Equal_Matcher.tree prg0.G (prg0.calls L) (L.P r_slices_Equal_Matcher) prg0.N [0, 0, 1, 0, 1, 1] (q_slices_Equal_Matcher_0.mk' (x0, (x1, (x2, x3))) 64) = B_slices_Equal_Matcher_0 L x0 x1 x2 x3 := by kernel_rfl
noncomputable def B_slices_Equal_string (L : Lvl) (x0 : (List ByteArray)) (x1 : (List ByteArray)) : Option Bool :=
  if ((((List.length x0) : Nat) : Int) != (((List.length x1) : Nat) : Int)) = true then
    some false
  else
    P_slices_Equal_string_0 L (x0, (x1, ((((List.length x0) : Nat) : Int), (0 : Int))))
theorem e_slices_Equal_string (L : Lvl) (x0 : (List ByteArray)) (x1 : (List ByteArray)) : r_slices_Equal_string.tree prg0.G (prg0.calls L) (L.P r_slices_Equal_string) prg0.N [] (r_slices_Equal_string.X.inp.mk' (x0, x1) 64) = B_slices_Equal_string L x0 x1 := by kernel_rfl
noncomputable def B_slices_Equal_string_0 (L : Lvl) (x0 : (List ByteArray)) (x1 : (List ByteArray)) (x2 : Int) (x3 : Int) : Option Bool :=
  if (decide (x3 < x2)) = true then
    if (decide (((0 : Int) ≤ x3) ∧ (x3 < (((List.length x0) : Nat) : Int)))) = true then
    if (decide (((0 : Int) ≤ x3) ∧ (x3 < (((List.length x1) : Nat) : Int)))) = true then
    if (!((ByteArray.toList (rdx .str x0 x3)) == (ByteArray.toList (rdx .str x1 x3)))) = true then
      some false
    else
      P_slices_Equal_string_0 L (x0, (x1, (x2, (IntKind.wrap .i64 (x3 + (1 : Int))))))
    else none
    else none
  else
    some true
theorem e_slices_Equal_string_0 (L : Lvl) (x0 : (List ByteArray)) (x1 : (List ByteArray)) (x2 : Int) (x3 : Int) : r_slices_Equal_string.tree prg0.G (prg0.calls L) (L.P r_slices_Equal_string) prg0.N [0, 0, 1, 0, 1, 1] (q_slices_Equal_string_0.mk' (x0, (x1, (x2, x3))) 64) = B_slices_Equal_string_0 L x0 x1 x2 x3 := by kernel_rfl
noncomputable def B_slices_EqualFunc_Expr (L : Lvl) (x0 : (List DExpr)) (x1 : (List DExpr)) : Option Bool :=
  if ((((List.length x0) : Nat) : Int) != (((List.length x1) : Nat) : Int)) = true then
    some false
  else
    P_slices_EqualFunc_Expr_0 L (x1, (x0, ((((List.length x0) : Nat) : Int), (0 : Int))))
theorem e_slices_EqualFunc_Expr (L : Lvl) (x0 : (List DExpr)) (x1 : (List DExpr)) : r_slices_EqualFunc_Expr.tree prg0.G (prg0.calls L) (L.P r_slices_EqualFunc_Expr) prg0.N [] (r_slices_EqualFunc_Expr.X.inp.mk' (x0, x1) 64) = B_slices_EqualFunc_Expr L x0 x1 := by kernel_rfl
noncomputable def B_slices_EqualFunc_Expr_0 (L : Lvl) (x0 : (List DExpr)) (x1 : (List DExpr)) (x2 : Int) (x3 : Int) : Option Bool :=
  if (decide (x3 < x2)) = true then
    if (decide (((0 : Int) ≤ x3) ∧ (x3 < (((List.length x1) : Nat) : Int)))) = true then
    if (decide (((0 : Int) ≤ x3) ∧ (x3 < (((List.length x0) : Nat) : Int)))) = true then
    (S_parser_Equal L ((Go.AM.eE (rdx .expr x1 x3)), (Go.AM.eE (rdx .expr x0 x3)))).bind fun (y4 : Bool) =>
      if (!y4) = true then
        some false
      else
        P_slices_EqualFunc_Expr_0 L (x0, (x1, (x2, (IntKind.wrap .i64 (x3 + (1 : Int))))))
    else none
    else none
  else
    some true
theorem e_slices_EqualFunc_Expr_0 (L : Lvl) (x0 : (List DExpr)) (x1 : (List DExpr)) (x2 : Int) (x3 : Int) : r_slices_EqualFunc_Expr.tree prg0.G (prg0.calls L) (L.P r_slices_EqualFunc_Expr) prg0.N [0, 0, 1, 0, 1, 1] (q_slices_EqualFunc_Expr_0.mk' (x0, (x1, (x2, x3))) 64) = B_slices_EqualFunc_Expr_0 L x0 x1 x2 x3 := by kernel_rfl
noncomputable def B_lexer_Tokens (L : Lvl) (x0 : ByteArray) : Option ((List DTok) × (Int × Int)) :=
  if (decide ((((ByteArray.size x0) : Nat) : Int) > (2000 : Int))) = true then
    some (([] : List DTok), ((2000 : Int), (4 : Int)))
  else
    (S_lexer_scanner_all L ((x0, ((0 : Int), (0 : Int))), ([] : List DTok))).bind fun (((y1, (y2, y3)), y4) : ((ByteArray × (Int × Int)) × (List DTok))) =>
      if (y3 != (0 : Int)) = true then
        some (([] : List DTok), (y2, y3))
      else
        some (y4, ((0 : Int), (0 : Int)))
theorem e_lexer_Tokens (L : Lvl) (x0 : ByteArray) : r_lexer_Tokens.tree prg0.G (prg0.calls L) (L.P r_lexer_Tokens) prg0.N [] (r_lexer_Tokens.X.inp.mk' x0 64) = B_lexer_Tokens L x0 := by kernel_rfl
noncomputable def B_parser_reader_expression (L : Lvl) (x0 : (List DTok)) (x1 : Int) : Option (Except DFrac (DExpr × ((List DTok) × Int))) :=
  exc (S_parser_reader_term L (x0, x1)) (fun (y2 : DFrac) => some (.error y2))
  (fun ((y3, (y4, y5)) : (DExpr × ((List DTok) × Int))) => P_parser_reader_expression_0 L ((y4, y5), (((0 : Int), ((0 : Int), ((0 : Int), ((0 : Int), ((0 : Int), ((0 : Int), ((0 : Int), zeroS))))))), ((Go.AM.eE y3), (([] : List DMatcher), (([] : List ByteArray), ([] : List DExpr)))))))
theorem e_parser_reader_expression (L : Lvl) (x0 : (List DTok)) (x1 : Int) : r_parser_reader_expression.tree prg0.G (prg0.calls L) (L.P r_parser_reader_expression) prg0.N [] (r_parser_reader_expression.X.inp.mk' (x0, x1) 64) = B_parser_reader_expression L x0 x1 := by kernel_rfl
noncomputable def B_parser_reader_expression_0 (L : Lvl) (x0 : (List DTok)) (x1 : Int) (x2 : Int) (x3 : Int) (x4 : Int) (x5 : Int) (x6 : Int) (x7 : Int) (x8 : Int) (x9 : ByteArray) (x10 : DExpr) (x11 : (List DMatcher)) (x12 : (List ByteArray)) (x13 : (List DExpr)) : Option (Except DFrac (DExpr × ((List DTok) × Int))) :=
  (S_parser_reader_accept L ((⟨#[43]⟩ : ByteArray), (x0, x1))).bind fun ((y14, (y15, y16)) : (Bool × ((List DTok) × Int))) =>
    if y14 = true then
      exc (S_parser_reader_term L (y15, y16)) (fun (y17 : DFrac) => some (.error y17))
      (fun ((y18, (y19, y20)) : (DExpr × ((List DTok) × Int))) => (S_parser_binary L ((0 : Int), ((Go.AM.eE x10), (Go.AM.eE y18)))).bind fun (y21 : DExpr) =>
          P_parser_reader_expression_0 L ((y19, y20), ((x2, (x3, (x4, (x5, (x6, (x7, (x8, x9))))))), ((Go.AM.eE y21), (x11, (x12, x13))))))
    else
      (S_parser_reader_accept L ((⟨#[45]⟩ : ByteArray), (y15, y16))).bind fun ((y22, (y23, y24)) : (Bool × ((List DTok) × Int))) =>
        if y22 = true then
          exc (S_parser_reader_term L (y23, y24)) (fun (y25 : DFrac) => some (.error y25))
          (fun ((y26, (y27, y28)) : (DExpr × ((List DTok) × Int))) => (S_parser_binary L ((1 : Int), ((Go.AM.eE x10), (Go.AM.eE y26)))).bind fun (y29 : DExpr) =>
              P_parser_reader_expression_0 L ((y27, y28), ((x2, (x3, (x4, (x5, (x6, (x7, (x8, x9))))))), ((Go.AM.eE y29), (x11, (x12, x13))))))
        else
          some (.ok ((Go.AM.eE x10), (y23, y24)))
theorem e_parser_reader_expression_0 (L : Lvl) (x0 : (List DTok)) (x1 : Int) (x2 : Int) (x3 : Int) (x4 : Int) (x5 : Int) (x6 : Int) (x7 : Int) (x8 : Int) (x9 : ByteArray) (x10 : DExpr) (x11 : (List DMatcher)) (x12 : (List ByteArray)) (x13 : (List DExpr)) : r_parser_reader_expression.tree prg0.G (prg0.calls L) (L.P r_parser_reader_expression) prg0.N [0, 0, 1, 1] (q_parser_reader_expression_0.mk' ((x0, x1), ((x2, (x3, (x4, (x5, (x6, (x7, (x8, x9))))))), (x10, (x11, (x12, x13))))) 64) = B_parser_reader_expression_0 L x0 x1 x2 x3 x4 x5 x6 x7 x8 x9 x10 x11 x12 x13 := by kernel_rfl
noncomputable def B_parser_reader_fail (L : Lvl) (x0 : Int) (x1 : (List DTok)) (x2 : Int) : Option (Except DFrac ((List DTok) × Int)) :=
  if (decide ((((List.length x1) : Nat) : Int) > (0 : Int))) = true then
    if (decide (((0 : Int) ≤ (0 : Int)) ∧ ((0 : Int) < (((List.length x1) : Nat) : Int)))) = true then
    some (.error (Go.AM.DFrac.mk (List.getD x1 (0 : Nat) (dflt .tok)).at_ x0))
    else none
  else
    some (.error (Go.AM.DFrac.mk x2 x0))
theorem e_parser_reader_fail (L : Lvl) (x0 : Int) (x1 : (List DTok)) (x2 : Int) : r_parser_reader_fail.tree prg0.G (prg0.calls L) (L.P r_parser_reader_fail) prg0.N [] (r_parser_reader_fail.X.inp.mk' (x0, (x1, x2)) 64) = B_parser_reader_fail L x0 x1 x2 := by kernel_rfl
noncomputable def B_parser_tooLarge (L : Lvl) (x0 : DExpr) : Option Bool :=
  (S_parser_Depth L (Go.AM.eE x0)).bind fun (y1 : Int) =>
    if (decide (y1 > (12 : Int))) = true then
      some true
    else
      (S_parser_Nodes L (Go.AM.eE x0)).bind fun (y2 : Int) =>
        some (decide (y2 > (200 : Int)))
theorem e_parser_tooLarge (L : Lvl) (x0 : DExpr) : r_parser_tooLarge.tree prg0.G (prg0.calls L) (L.P r_parser_tooLarge) prg0.N [] (r_parser_tooLarge.X.inp.mk' x0 64) = B_parser_tooLarge L x0 := by kernel_rfl
noncomputable def B_ref07_Depth (L : Lvl) (x0 : DExpr) : Option Int :=
  P_ref07_Depth_0 L (((0 : Int), (0 : Int)), (Go.AM.eE x0))
theorem e_ref07_Depth (L : Lvl) (x0 : DExpr) : r_ref07_Depth.tree prg0.G (prg0.calls L) (L.P r_ref07_Depth) prg0.N [] (r_ref07_Depth.X.inp.mk' x0 64) = B_ref07_Depth L x0 := by kernel_rfl
noncomputable def B_ref07_Depth_0 (L : Lvl) (x0 : Int) (x1 : Int) (x2 : DExpr) : Option Int :=
  if (decide (x1 < (((List.length x2.kids) : Nat) : Int))) = true then
    if (decide (((0 : Int) ≤ x1) ∧ (x1 < (((List.length x2.kids) : Nat) : Int)))) = true then
    (S_ref07_Depth L (Go.AM.eE (rdx .expr x2.kids x1))).bind fun (y3 : Int) =>
      P_ref07_Depth_0 L (((ite (y3 > x0) y3 x0), (IntKind.wrap .i64 (x1 + (1 : Int)))), (Go.AM.eE x2))
    else none
  else
    some (IntKind.wrap .i64 (x0 + (1 : Int)))
theorem e_ref07_Depth_0 (L : Lvl) (x0 : Int) (x1 : Int) (x2 : DExpr) : r_ref07_Depth.tree prg0.G (prg0.calls L) (L.P r_ref07_Depth) prg0.N [0, 0, 1, 0, 1, 1] (q_ref07_Depth_0.mk' ((x0, x1), x2) 64) = B_ref07_Depth_0 L x0 x1 x2 := by kernel_rfl
noncomputable def B_ref07_Nodes (L : Lvl) (x0 : DExpr) : Option Int :=
  P_ref07_Nodes_0 L (((1 : Int), (0 : Int)), (Go.AM.eE x0))
theorem e_ref07_Nodes (L : Lvl) (x0 : DExpr) : r_ref07_Nodes.tree prg0.G (prg0.calls L) (L.P r_ref07_Nodes) prg0.N [] (r_ref07_Nodes.X.inp.mk' x0 64) = B_ref07_Nodes L x0 := by kernel_rfl
noncomputable def B_ref07_Nodes_0 (L : Lvl) (x0 : Int) (x1 : Int) (x2 : DExpr) : Option Int :=
  if (decide (x1 < (((List.length x2.kids) : Nat) : Int))) = true then
    if (decide (((0 : Int) ≤ x1) ∧ (x1 < (((List.length x2.kids) : Nat) : Int)))) = true then
    (S_ref07_Nodes L (Go.AM.eE (rdx .expr x2.kids x1))).bind fun (y3 : Int) =>
      P_ref07_Nodes_0 L (((IntKind.wrap .i64 (x0 + y3)), (IntKind.wrap .i64 (x1 + (1 : Int)))), (Go.AM.eE x2))
    else none
  else
    some x0
theorem e_ref07_Nodes_0 (L : Lvl) (x0 : Int) (x1 : Int) (x2 : DExpr) : r_ref07_Nodes.tree prg0.G (prg0.calls L) (L.P r_ref07_Nodes) prg0.N [0, 0, 1, 0, 1, 1] (q_ref07_Nodes_0.mk' ((x0, x1), x2) 64) = B_ref07_Nodes_0 L x0 x1 x2 := by kernel_rfl
noncomputable def B_ref07_valid (L : Lvl) (x0 : DExpr) : Option Int :=
  (S_ref07_shaped L (Go.AM.eE x0)).bind fun (y1 : Bool) =>
    if (!y1) = true then
      some (1 : Int)
    else
      (S_ref07_named L (Go.AM.eE x0)).bind fun (y2 : Bool) =>
        if (!y2) = true then
          some (8 : Int)
        else
          if (decide ((((List.length x0.ms) : Nat) : Int) > (8 : Int))) = true then
            some (4 : Int)
          else
            if (decide ((((List.length x0.by_) : Nat) : Int) > (8 : Int))) = true then
              some (4 : Int)
            else
              (S_ref07_within L (Go.AM.eE x0)).bind fun (y3 : Bool) =>
                if (!y3) = true then
                  some (5 : Int)
                else
                  P_ref07_valid_0 L ((0 : Int), (Go.AM.eE x0))
theorem e_ref07_valid (L : Lvl) (x0 : DExpr) : r_ref07_valid.tree prg0.G (prg0.calls L) (L.P r_ref07_valid) prg0.N [] (r_ref07_valid.X.inp.mk' x0 64) = B_ref07_valid L x0 := by kernel_rfl
noncomputable def B_ref07_valid_0 (L : Lvl) (x0 : Int) (x1 : DExpr) : Option Int :=
  if (decide (x0 < (((List.length x1.kids) : Nat) : Int))) = true then
    if (decide (((0 : Int) ≤ x0) ∧ (x0 < (((List.length x1.kids) : Nat) : Int)))) = true then
    (S_ref07_valid L (Go.AM.eE (rdx .expr x1.kids x0))).bind fun (y2 : Int) =>
      if (y2 != (0 : Int)) = true then
        some y2
      else
        P_ref07_valid_0 L ((IntKind.wrap .i64 (x0 + (1 : Int))), (Go.AM.eE x1))
    else none
  else
    some (0 : Int)
theorem e_ref07_valid_0 (L : Lvl) (x0 : Int) (x1 : DExpr) : r_ref07_valid.tree prg0.G (prg0.calls L) (L.P r_ref07_valid) prg0.N [0, 0, 1, 0, 1, 1, 1, 1, 1] (q_ref07_valid_0.mk' (x0, x1) 64) = B_ref07_valid_0 L x0 x1 := by kernel_rfl
noncomputable def B_ref23_Ins (L : Lvl) (x0 : DExpr) : Option DIns :=
  some (Go.AM.DIns.mk x0.kind x0.fn x0.window x0.offset x0.k x0.num x0.name x0.ms x0.by_)
theorem e_ref23_Ins (L : Lvl) (x0 : DExpr) : r_ref23_Ins.tree prg0.G (prg0.calls L) (L.P r_ref23_Ins) prg0.N [] (r_ref23_Ins.X.inp.mk' x0 64) = B_ref23_Ins L x0 := by kernel_rfl
noncomputable def B_ref07_sameMatchers (L : Lvl) (x0 : (List DMatcher)) (x1 : (List DMatcher)) : Option Bool :=
  if ((((List.length x0) : Nat) : Int) != (((List.length x1) : Nat) : Int)) = true then
    some false
  else
    P_ref07_sameMatchers_0 L (x0, (x1, (0 : Int)))
theorem e_ref07_sameMatchers (L : Lvl) (x0 : (List DMatcher)) (x1 : (List DMatcher)) : r_ref07_sameMatchers.tree prg0.G (prg0.calls L) (L.P r_ref07_sameMatchers) prg0.N [] (r_ref07_sameMatchers.X.inp.mk' (x0, x1) 64) = B_ref07_sameMatchers L x0 x1 := by kernel_rfl
noncomputable def B_ref07_sameMatchers_0 (L : Lvl) (x0 : (List DMatcher)) (x1 : (List DMatcher)) (x2 : Int) : Option Bool :=
  if (decide (x2 < (((List.length x0) : Nat) : Int))) = true then
    if (decide (((0 : Int) ≤ x2) ∧ (x2 < (((List.length x0) : Nat) : Int)))) = true then
    if (decide (((0 : Int) ≤ x2) ∧ (x2 < (((List.length x1) : Nat) : Int)))) = true then
    if (!(Go.AM.allB (((ByteArray.toList (rdx .matcher x0 x2).name) == (ByteArray.toList (rdx .matcher x1 x2).name)) :: (((rdx .matcher x0 x2).kind == (rdx .matcher x1 x2).kind) :: (((ByteArray.toList (rdx .matcher x0 x2).value) == (ByteArray.toList (rdx .matcher x1 x2).value)) :: ([] : List Bool)))))) = true then
      some false
    else
      P_ref07_sameMatchers_0 L (x0, (x1, (IntKind.wrap .i64 (x2 + (1 : Int)))))
    else none
    else none
  else
    some true
theorem e_ref07_sameMatchers_0 (L : Lvl) (x0 : (List DMatcher)) (x1 : (List DMatcher)) (x2 : Int) : r_ref07_sameMatchers.tree prg0.G (prg0.calls L) (L.P r_ref07_sameMatchers) prg0.N [0, 0, 1, 0, 1, 1] (q_ref07_sameMatchers_0.mk' (x0, (x1, x2)) 64) = B_ref07_sameMatchers_0 L x0 x1 x2 := by kernel_rfl
noncomputable def B_ref01_SameTexts (L : Lvl) (x0 : (List ByteArray)) (x1 : (List ByteArray)) : Option Bool :=
  if ((((List.length x0) : Nat) : Int) != (((List.length x1) : Nat) : Int)) = true then
    some false
  else
    P_ref01_SameTexts_0 L (x0, (x1, (0 : Int)))
theorem e_ref01_SameTexts (L : Lvl) (x0 : (List ByteArray)) (x1 : (List ByteArray)) : r_ref01_SameTexts.tree prg0.G (prg0.calls L) (L.P r_ref01_SameTexts) prg0.N [] (r_ref01_SameTexts.X.inp.mk' (x0, x1) 64) = B_ref01_SameTexts L x0 x1 := by kernel_rfl
noncomputable def B_ref01_SameTexts_0 (L : Lvl) (x0 : (List ByteArray)) (x1 : (List ByteArray)) (x2 : Int) : Option Bool :=
  if (decide (x2 < (((List.length x0) : Nat) : Int))) = true then
    if (decide (((0 : Int) ≤ x2) ∧ (x2 < (((List.length x0) : Nat) : Int)))) = true then
    if (decide (((0 : Int) ≤ x2) ∧ (x2 < (((List.length x1) : Nat) : Int)))) = true then
    if (!((ByteArray.toList (rdx .str x0 x2)) == (ByteArray.toList (rdx .str x1 x2)))) = true then
      some false
    else
      P_ref01_SameTexts_0 L (x0, (x1, (IntKind.wrap .i64 (x2 + (1 : Int)))))
    else none
    else none
  else
    some true
theorem e_ref01_SameTexts_0 (L : Lvl) (x0 : (List ByteArray)) (x1 : (List ByteArray)) (x2 : Int) : r_ref01_SameTexts.tree prg0.G (prg0.calls L) (L.P r_ref01_SameTexts) prg0.N [0, 0, 1, 0, 1, 1] (q_ref01_SameTexts_0.mk' (x0, (x1, x2)) 64) = B_ref01_SameTexts_0 L x0 x1 x2 := by kernel_rfl
noncomputable def B_parser_valid (L : Lvl) (x0 : DExpr) : Option Int :=
  (S_parser_shaped L (Go.AM.eE x0)).bind fun (y1 : Bool) =>
    if (!y1) = true then
      some (1 : Int)
    else
      (S_parser_named L (Go.AM.eE x0)).bind fun (y2 : Bool) =>
        if (!y2) = true then
          some (8 : Int)
        else
          if (decide ((((List.length x0.ms) : Nat) : Int) > (8 : Int))) = true then
            some (4 : Int)
          else
            if (decide ((((List.length x0.by_) : Nat) : Int) > (8 : Int))) = true then
              some (4 : Int)
            else
              (S_parser_ranged L (Go.AM.eE x0)).bind fun (y3 : Bool) =>
                if (!y3) = true then
                  some (5 : Int)
                else
                  P_parser_valid_0 L (x0.kids, ((((List.length x0.kids) : Nat) : Int), (0 : Int)))
theorem e_parser_valid (L : Lvl) (x0 : DExpr) : r_parser_valid.tree prg0.G (prg0.calls L) (L.P r_parser_valid) prg0.N [] (r_parser_valid.X.inp.mk' x0 64) = B_parser_valid L x0 := by kernel_rfl
noncomputable def B_parser_valid_0 (L : Lvl) (x0 : (List DExpr)) (x1 : Int) (x2 : Int) : Option Int :=
  if (decide (x2 < x1)) = true then
    if (decide (((0 : Int) ≤ x2) ∧ (x2 < (((List.length x0) : Nat) : Int)))) = true then
    (S_parser_valid L (Go.AM.eE (rdx .expr x0 x2))).bind fun (y3 : Int) =>
      if (y3 != (0 : Int)) = true then
        some y3
      else
        P_parser_valid_0 L (x0, (x1, (IntKind.wrap .i64 (x2 + (1 : Int)))))
    else none
  else
    some (0 : Int)
theorem e_parser_valid_0 (L : Lvl) (x0 : (List DExpr)) (x1 : Int) (x2 : Int) : r_parser_valid.tree prg0.G (prg0.calls L) (L.P r_parser_valid) prg0.N [0, 0, 1, 0, 1, 1] (q_parser_valid_0.mk' (x0, (x1, x2)) 64) = B_parser_valid_0 L x0 x1 x2 := by kernel_rfl
noncomputable def B_plan_postfix_1 (L : Lvl) (x0 : (List DIns)) (x1 : DExpr) : Option (DExpr × (List DIns)) :=
  (S_plan_visit L ((Go.AM.eE x1), x0)).bind fun ((y2, y3) : (Bool × (List DIns))) =>
    some ((Go.AM.eE x1), y3)
theorem e_plan_postfix_1 (L : Lvl) (x0 : (List DIns)) (x1 : DExpr) : r_plan_postfix_1.tree prg0.G (prg0.calls L) (L.P r_plan_postfix_1) prg0.N [] (r_plan_postfix_1.X.inp.mk' (x0, x1) 64) = B_plan_postfix_1 L x0 x1 := by kernel_rfl
noncomputable def B_plan_visit (L : Lvl) (x0 : DExpr) (x1 : (List DIns)) : Option (Bool × (List DIns)) :=
  P_plan_visit_0 L ((x0.kids, ((((List.length x0.kids) : Nat) : Int), (0 : Int))), ((Go.AM.eE x0), x1))
theorem e_plan_visit (L : Lvl) (x0 : DExpr) (x1 : (List DIns)) : r_plan_visit.tree prg0.G (prg0.calls L) (L.P r_plan_visit) prg0.N [] (r_plan_visit.X.inp.mk' (x0, x1) 64) = B_plan_visit L x0 x1 := by kernel_rfl
noncomputable def B_plan_visit_0 (L : Lvl) (x0 : (List DExpr)) (x1 : Int) (x2 : Int) (x3 : DExpr) (x4 : (List DIns)) : Option (Bool × (List DIns)) :=
  if (decide (x2 < x1)) = true then
    if (decide (((0 : Int) ≤ x2) ∧ (x2 < (((List.length x0) : Nat) : Int)))) = true then
    (S_plan_visit L ((Go.AM.eE (rdx .expr x0 x2)), x4)).bind fun ((y5, y6) : (Bool × (List DIns))) =>
      if (!y5) = true then
        some (false, y6)
      else
        P_plan_visit_0 L ((x0, (x1, (IntKind.wrap .i64 (x2 + (1 : Int))))), ((Go.AM.eE x3), y6))
    else none
  else
    (Y_plan_Compile L ((Go.AM.eE x3), x4)).bind fun ((y7, y8) : (Bool × (List DIns))) =>
      some (y7, y8)
theorem e_plan_visit_0 (L : Lvl) (x0 : (List DExpr)) (x1 : Int) (x2 : Int) (x3 : DExpr) (x4 : (List DIns)) : r_plan_visit.tree prg0.G (prg0.calls L) (L.P r_plan_visit) prg0.N [0, 0, 1, 0, 1] (q_plan_visit_0.mk' ((x0, (x1, x2)), (x3, x4)) 64) = B_plan_visit_0 L x0 x1 x2 x3 x4 := by kernel_rfl
noncomputable def B_lexer_scanner_all (L : Lvl) (x0 : ByteArray) (x1 : Int) (x2 : Int) (x3 : (List DTok)) : Option ((ByteArray × (Int × Int)) × (List DTok)) :=
  P_lexer_scanner_all_0 L ((x0, (x1, x2)), x3)
theorem e_lexer_scanner_all (L : Lvl) (x0 : ByteArray) (x1 : Int) (x2 : Int) (x3 : (List DTok)) : r_lexer_scanner_all.tree prg0.G (prg0.calls L) (L.P r_lexer_scanner_all) prg0.N [] (r_lexer_scanner_all.X.inp.mk' ((x0, (x1, x2)), x3) 64) = B_lexer_scanner_all L x0 x1 x2 x3 := by kernel_rfl
noncomputable def B_lexer_scanner_all_0 (L : Lvl) (x0 : ByteArray) (x1 : Int) (x2 : Int) (x3 : (List DTok)) : Option ((ByteArray × (Int × Int)) × (List DTok)) :=
  if (decide (((0 : Int) ≤ x1) ∧ ((x1 ≤ (((ByteArray.size x0) : Nat) : Int)) ∧ ((((ByteArray.size x0) : Nat) : Int) ≤ (((ByteArray.size x0) : Nat) : Int))))) = true then
  (base_TrimLeft ((ByteArray.extract x0 (Int.toNat x1) (Int.toNat (((ByteArray.size x0) : Nat) : Int))), (⟨#[9, 10, 13, 32]⟩ : ByteArray))).bind fun (y4 : ByteArray) =>
    if ((ByteArray.toList y4) == (ByteArray.toList zeroS)) = true then
      some ((x0, ((IntKind.wrap .i64 ((((ByteArray.size x0) : Nat) : Int) - (((ByteArray.size y4) : Nat) : Int))), x2)), x3)
    else
      (S_lexer_token L y4).bind fun ((y5, (y6, y7)) : (DTok × (Int × Int))) =>
        if (y7 != (0 : Int)) = true then
          some ((x0, ((IntKind.wrap .i64 ((((ByteArray.size x0) : Nat) : Int) - (((ByteArray.size y4) : Nat) : Int))), y7)), x3)
        else
          (Y_lexer_Tokens L ((Go.AM.DTok.mk y5.kind y5.text y5.n (IntKind.wrap .i64 ((((ByteArray.size x0) : Nat) : Int) - (((ByteArray.size y4) : Nat) : Int)))), x3)).bind fun ((y8, y9) : (Bool × (List DTok))) =>
            if (!y8) = true then
              some ((x0, ((IntKind.wrap .i64 ((IntKind.wrap .i64 ((((ByteArray.size x0) : Nat) : Int) - (((ByteArray.size y4) : Nat) : Int))) + y6)), x2)), y9)
            else
              P_lexer_scanner_all_0 L ((x0, ((IntKind.wrap .i64 ((IntKind.wrap .i64 ((((ByteArray.size x0) : Nat) : Int) - (((ByteArray.size y4) : Nat) : Int))) + y6)), x2)), y9)
  else none
theorem e_lexer_scanner_all_0 (L : Lvl) (x0 : ByteArray) (x1 : Int) (x2 : Int) (x3 : (List DTok)) : r_lexer_scanner_all.tree prg0.G (prg0.calls L) (L.P r_lexer_scanner_all) prg0.N [0, 0] (q_lexer_scanner_all_0.mk' ((x0, (x1, x2)), x3) 64) = B_lexer_scanner_all_0 L x0 x1 x2 x3 := by kernel_rfl
noncomputable def B_parser_reader_term (L : Lvl) (x0 : (List DTok)) (x1 : Int) : Option (Except DFrac (DExpr × ((List DTok) × Int))) :=
  exc (S_parser_reader_factor L (x0, x1)) (fun (y2 : DFrac) => some (.error y2))
  (fun ((y3, (y4, y5)) : (DExpr × ((List DTok) × Int))) => P_parser_reader_term_0 L ((y4, y5), (((0 : Int), ((0 : Int), ((0 : Int), ((0 : Int), ((0 : Int), ((0 : Int), ((0 : Int), zeroS))))))), ((Go.AM.eE y3), (([] : List DMatcher), (([] : List ByteArray), ([] : List DExpr)))))))
theorem e_parser_reader_term (L : Lvl) (x0 : (List DTok)) (x1 : Int) : r_parser_reader_term.tree prg0.G (prg0.calls L) (L.P r_parser_reader_term) prg0.N [] (r_parser_reader_term.X.inp.mk' (x0, x1) 64) = B_parser_reader_term L x0 x1 := by kernel_rfl
noncomputable def B_parser_reader_term_0 (L : Lvl) (x0 : (List DTok)) (x1 : Int) (x2 : Int) (x3 : Int) (x4 : Int) (x5 : Int) (x6 : Int) (x7 : Int) (x8 : Int) (x9 : ByteArray) (x10 : DExpr) (x11 : (List DMatcher)) (x12 : (List ByteArray)) (x13 : (List DExpr)) : Option (Except DFrac (DExpr × ((List DTok) × Int))) :=
  (S_parser_reader_accept L ((⟨#[42]⟩ : ByteArray), (x0, x1))).bind fun ((y14, (y15, y16)) : (Bool × ((List DTok) × Int))) =>
    if y14 = true then
      exc (S_parser_reader_factor L (y15, y16)) (fun (y17 : DFrac) => some (.error y17))
      (fun ((y18, (y19, y20)) : (DExpr × ((List DTok) × Int))) => (S_parser_binary L ((2 : Int), ((Go.AM.eE x10), (Go.AM.eE y18)))).bind fun (y21 : DExpr) =>
          P_parser_reader_term_0 L ((y19, y20), ((x2, (x3, (x4, (x5, (x6, (x7, (x8, x9))))))), ((Go.AM.eE y21), (x11, (x12, x13))))))
    else
      (S_parser_reader_accept L ((⟨#[47]⟩ : ByteArray), (y15, y16))).bind fun ((y22, (y23, y24)) : (Bool × ((List DTok) × Int))) =>
        if y22 = true then
          exc (S_parser_reader_factor L (y23, y24)) (fun (y25 : DFrac) => some (.error y25))
          (fun ((y26, (y27, y28)) : (DExpr × ((List DTok) × Int))) => (S_parser_binary L ((3 : Int), ((Go.AM.eE x10), (Go.AM.eE y26)))).bind fun (y29 : DExpr) =>
              P_parser_reader_term_0 L ((y27, y28), ((x2, (x3, (x4, (x5, (x6, (x7, (x8, x9))))))), ((Go.AM.eE y29), (x11, (x12, x13))))))
        else
          some (.ok ((Go.AM.eE x10), (y23, y24)))
theorem e_parser_reader_term_0 (L : Lvl) (x0 : (List DTok)) (x1 : Int) (x2 : Int) (x3 : Int) (x4 : Int) (x5 : Int) (x6 : Int) (x7 : Int) (x8 : Int) (x9 : ByteArray) (x10 : DExpr) (x11 : (List DMatcher)) (x12 : (List ByteArray)) (x13 : (List DExpr)) : r_parser_reader_term.tree prg0.G (prg0.calls L) (L.P r_parser_reader_term) prg0.N [0, 0, 1, 1] (q_parser_reader_term_0.mk' ((x0, x1), ((x2, (x3, (x4, (x5, (x6, (x7, (x8, x9))))))), (x10, (x11, (x12, x13))))) 64) = B_parser_reader_term_0 L x0 x1 x2 x3 x4 x5 x6 x7 x8 x9 x10 x11 x12 x13 := by kernel_rfl
noncomputable def B_parser_reader_accept (L : Lvl) (x0 : ByteArray) (x1 : (List DTok)) (x2 : Int) : Option (Bool × ((List DTok) × Int)) :=
  (S_parser_reader_is L (x0, (x1, x2))).bind fun ((y3, (y4, y5)) : (Bool × ((List DTok) × Int))) =>
    if y3 = true then
      if (decide (((0 : Int) ≤ (1 : Int)) ∧ (((1 : Int) ≤ (((List.length y4) : Nat) : Int)) ∧ ((((List.length y4) : Nat) : Int) ≤ (((List.length y4) : Nat) : Int))))) = true then
      some (y3, ((List.take (Int.toNat ((((List.length y4) : Nat) : Int) - (1 : Int))) (List.drop (1 : Nat) y4)), y5))
      else none
    else
      some (y3, (y4, y5))
theorem e_parser_reader_accept (L : Lvl) (x0 : ByteArray) (x1 : (List DTok)) (x2 : Int) : r_parser_reader_accept.tree prg0.G (prg0.calls L) (L.P r_parser_reader_accept) prg0.N [] (r_parser_reader_accept.X.inp.mk' (x0, (x1, x2)) 64) = B_parser_reader_accept L x0 x1 x2 := by kernel_rfl
noncomputable def B_parser_binary (L : Lvl) (x0 : Int) (x1 : DExpr) (x2 : DExpr) : Option DExpr :=
  some (Go.AM.DExpr.mk (3 : Int) x0 (0 : Int) (0 : Int) (0 : Int) (Go.AM.DFrac.mk (0 : Int) (0 : Int)) zeroS ([] : List DMatcher) ([] : List ByteArray) ((Go.AM.eE x1) :: ((Go.AM.eE x2) :: ([] : List DExpr))))
theorem e_parser_binary (L : Lvl) (x0 : Int) (x1 : DExpr) (x2 : DExpr) : r_parser_binary.tree prg0.G (prg0.calls L) (L.P r_parser_binary) prg0.N [] (r_parser_binary.X.inp.mk' (x0, (x1, x2)) 64) = B_parser_binary L x0 x1 x2 := by kernel_rfl
noncomputable def B_parser_Depth (L : Lvl) (x0 : DExpr) : Option Int :=
  P_parser_Depth_0 L ((0 : Int), (x0.kids, ((((List.length x0.kids) : Nat) : Int), (0 : Int))))
theorem e_parser_Depth (L : Lvl) (x0 : DExpr) : r_parser_Depth.tree prg0.G (prg0.calls L) (L.P r_parser_Depth) prg0.N [] (r_parser_Depth.X.inp.mk' x0 64) = B_parser_Depth L x0 := by kernel_rfl
noncomputable def B_parser_Depth_0 (L : Lvl) (x0 : Int) (x1 : (List DExpr)) (x2 : Int) (x3 : Int) : Option Int :=
  if (decide (x3 < x2)) = true then
    if (decide (((0 : Int) ≤ x3) ∧ (x3 < (((List.length x1) : Nat) : Int)))) = true then
    (S_parser_Depth L (Go.AM.eE (rdx .expr x1 x3))).bind fun (y4 : Int) =>
      P_parser_Depth_0 L ((ite (y4 > x0) y4 x0), (x1, (x2, (IntKind.wrap .i64 (x3 + (1 : Int))))))
    else none
  else
    some (IntKind.wrap .i64 (x0 + (1 : Int)))
theorem e_parser_Depth_0 (L : Lvl) (x0 : Int) (x1 : (List DExpr)) (x2 : Int) (x3 : Int) : r_parser_Depth.tree prg0.G (prg0.calls L) (L.P r_parser_Depth) prg0.N [0, 0, 1, 0, 1, 1] (q_parser_Depth_0.mk' (x0, (x1, (x2, x3))) 64) = B_parser_Depth_0 L x0 x1 x2 x3 := by kernel_rfl
noncomputable def B_ref07_shaped (L : Lvl) (x0 : DExpr) : Option Bool :=
  if (decide (x0.kind < (0 : Int))) = true then
    some false
  else
    if (decide (x0.kind > (3 : Int))) = true then
      some false
    else
      if (decide (x0.fn < (0 : Int))) = true then
        some false
      else
        if (decide (((0 : Int) ≤ x0.kind) ∧ (x0.kind < (4 : Int)))) = true then
        if (decide ((Int.toNat x0.kind) < (4 : Nat))) = true then
        if (decide (x0.fn ≥ (rdx (.i .i64) ((1 : Int) :: ((8 : Int) :: ((5 : Int) :: ((4 : Int) :: ([] : List Int))))) x0.kind))) = true then
          some false
        else
          if (decide (((0 : Int) ≤ x0.kind) ∧ (x0.kind < (4 : Int)))) = true then
          if (decide ((Int.toNat x0.kind) < (4 : Nat))) = true then
          if ((((List.length x0.kids) : Nat) : Int) != (rdx (.i .i64) ((0 : Int) :: ((0 : Int) :: ((1 : Int) :: ((2 : Int) :: ([] : List Int))))) x0.kind)) = true then
            some false
          else
            if (x0.kind == (0 : Int)) = true then
              (S_ref03_Valid L x0.num).bind fun (y1 : Bool) =>
                if (!y1) = true then
                  some false
                else
                  if (x0.kind != (1 : Int)) = true then
                    if (x0.window != (0 : Int)) = true then
                      some false
                    else
                      if (x0.offset != (0 : Int)) = true then
                        some false
                      else
                        if (!((ByteArray.toList x0.name) == (ByteArray.toList zeroS))) = true then
                          some false
                        else
                          if (decide ((((List.length x0.ms) : Nat) : Int) > (0 : Int))) = true then
                            some false
                          else
                            if (x0.kind != (1 : Int)) = true then
                              if (x0.kind != (2 : Int)) = true then
                                if (x0.k != (0 : Int)) = true then
                                  some false
                                else
                                  if (x0.kind == (2 : Int)) = true then
                                    some true
                                  else
                                    some ((((List.length x0.by_) : Nat) : Int) == (0 : Int))
                              else
                                if (x0.kind == (2 : Int)) = true then
                                  some true
                                else
                                  some ((((List.length x0.by_) : Nat) : Int) == (0 : Int))
                            else
                              if (x0.kind == (2 : Int)) = true then
                                some true
                              else
                                some ((((List.length x0.by_) : Nat) : Int) == (0 : Int))
                  else
                    if (x0.kind != (1 : Int)) = true then
                      if (x0.kind != (2 : Int)) = true then
                        if (x0.k != (0 : Int)) = true then
                          some false
                        else
                          if (x0.kind == (2 : Int)) = true then
                            some true
                          else
                            some ((((List.length x0.by_) : Nat) : Int) == (0 : Int))
                      else
                        if (x0.kind == (2 : Int)) = true then
                          some true
                        else
                          some ((((List.length x0.by_) : Nat) : Int) == (0 : Int))
                    else
                      if (x0.kind == (2 : Int)) = true then
                        some true
                      else
                        some ((((List.length x0.by_) : Nat) : Int) == (0 : Int))
            else
              if (x0.num.num != (0 : Int)) = true then
                some false
              else
                if (x0.num.den != (0 : Int)) = true then
                  some false
                else
                  if (x0.kind != (1 : Int)) = true then
                    if (x0.window != (0 : Int)) = true then
                      some false
                    else
                      if (x0.offset != (0 : Int)) = true then
                        some false
                      else
                        if (!((ByteArray.toList x0.name) == (ByteArray.toList zeroS))) = true then
                          some false
                        else
                          if (decide ((((List.length x0.ms) : Nat) : Int) > (0 : Int))) = true then
                            some false
                          else
                            if (x0.kind != (1 : Int)) = true then
                              if (x0.kind != (2 : Int)) = true then
                                if (x0.k != (0 : Int)) = true then
                                  some false
                                else
                                  if (x0.kind == (2 : Int)) = true then
                                    some true
                                  else
                                    some ((((List.length x0.by_) : Nat) : Int) == (0 : Int))
                              else
                                if (x0.kind == (2 : Int)) = true then
                                  some true
                                else
                                  some ((((List.length x0.by_) : Nat) : Int) == (0 : Int))
                            else
                              if (x0.kind == (2 : Int)) = true then
                                some true
                              else
                                some ((((List.length x0.by_) : Nat) : Int) == (0 : Int))
                  else
                    if (x0.kind != (1 : Int)) = true then
                      if (x0.kind != (2 : Int)) = true then
                        if (x0.k != (0 : Int)) = true then
                          some false
                        else
                          if (x0.kind == (2 : Int)) = true then
                            some true
                          else
                            some ((((List.length x0.by_) : Nat) : Int) == (0 : Int))
                      else
                        if (x0.kind == (2 : Int)) = true then
                          some true
                        else
                          some ((((List.length x0.by_) : Nat) : Int) == (0 : Int))
                    else
                      if (x0.kind == (2 : Int)) = true then
                        some true
                      else
                        some ((((List.length x0.by_) : Nat) : Int) == (0 : Int))
          else none
          else none
        else none
        else none
theorem e_ref07_shaped (L : Lvl) (x0 : DExpr) : r_ref07_shaped.tree prg0.G (prg0.calls L) (L.P r_ref07_shaped) prg0.N [] (r_ref07_shaped.X.inp.mk' x0 64) = B_ref07_shaped L x0 := by kernel_rfl
noncomputable def B_ref07_named (L : Lvl) (x0 : DExpr) : Option Bool :=
  if (x0.kind == (1 : Int)) = true then
    (S_ref05_Name L x0.name).bind fun (y1 : Bool) =>
      if (!y1) = true then
        some false
      else
        (S_ref07_Groups L ()).bind fun (y2 : (List ByteArray)) =>
          (S_ref07_find L (y2, x0.name)).bind fun (y3 : Int) =>
            if (decide (y3 ≥ (0 : Int))) = true then
              some false
            else
              P_ref07_named_0 L ((0 : Int), (Go.AM.eE x0))
  else
    P_ref07_named_0 L ((0 : Int), (Go.AM.eE x0))
theorem e_ref07_named (L : Lvl) (x0 : DExpr) : r_ref07_named.tree prg0.G (prg0.calls L) (L.P r_ref07_named) prg0.N [] (r_ref07_named.X.inp.mk' x0 64) = B_ref07_named L x0 := by kernel_rfl
end Go.AM
