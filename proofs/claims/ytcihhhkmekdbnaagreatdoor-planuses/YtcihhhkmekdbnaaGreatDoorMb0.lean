/-
  What the functions of the program compute, as text: bodies and their equations.
-/
import Derived.Test.YtcihhhkmekdbnaaGreatDoorMd
namespace Go.AM
open Go
set_option maxRecDepth 100000
noncomputable def B_law23_PlanTree (L : Lvl) (x0 : (List Int)) (x1 : (List DIns)) (x2 : Int) (x3 : Int) (x4 : Int) : Option Bool :=
  (S_ref07_Expr L x0).bind fun (y5 : DExpr) =>
    (S_ref23_Compile L (Go.AM.eE y5)).bind fun ((y6, y7) : ((List DIns) × Int)) =>
      (S_ref23_Few L x1).bind fun (y8 : (List DIns)) =>
        (S_ref23_Changed L (y6, (x2, (x3, x4)))).bind fun (y9 : (List DIns)) =>
          (S_law23_rebuilds L y6).bind fun (y10 : Bool) =>
            if y10 = true then
              (S_law23_rebuilds L y8).bind fun (y11 : Bool) =>
                if y11 = true then
                  (S_law23_rebuilds L y9).bind fun (y12 : Bool) =>
                    if y12 = true then
                      (S_ref23_Changed L (y9, ((IntKind.wrap .i64 (Int.tdiv x2 (7 : Int))), ((IntKind.wrap .i64 (Int.tdiv x3 (7 : Int))), (IntKind.wrap .i64 (Int.tdiv x4 (7 : Int))))))).bind fun (y13 : (List DIns)) =>
                        (S_law23_rebuilds L y13).bind fun (y14 : Bool) =>
                          if y14 = true then
                            (S_law23_lives L ()).bind fun (y15 : Bool) =>
                              some y15
                          else
                            some false
                    else
                      some false
                else
                  some false
            else
              some false
theorem e_law23_PlanTree (L : Lvl) (x0 : (List Int)) (x1 : (List DIns)) (x2 : Int) (x3 : Int) (x4 : Int) : r_law23_PlanTree.tree prg0.G (prg0.calls L) (L.P r_law23_PlanTree) prg0.N [] (r_law23_PlanTree.X.inp.mk' (x0, (x1, (x2, (x3, x4)))) 64) = B_law23_PlanTree L x0 x1 x2 x3 x4 := by kernel_rfl
noncomputable def B_law23_PlanLimits (L : Lvl) (x0 : Int) (x1 : Int) : Option Bool :=
  (S_ref01_Around L (x0, (11 : Int))).bind fun (y2 : Int) =>
    P_law23_PlanLimits_0 L ((x1, ((IntKind.wrap .i64 ((95 : Int) + y2)), (1 : Int))), ((Go.AM.DIns.mk (0 : Int) (0 : Int) (0 : Int) (0 : Int) (0 : Int) (Go.AM.DFrac.mk (1 : Int) (1 : Int)) zeroS ([] : List DMatcher) ([] : List ByteArray)), ((Go.AM.DIns.mk (0 : Int) (0 : Int) (0 : Int) (0 : Int) (0 : Int) (Go.AM.DFrac.mk (1 : Int) (1 : Int)) zeroS ([] : List DMatcher) ([] : List ByteArray)) :: ([] : List DIns))))
theorem e_law23_PlanLimits (L : Lvl) (x0 : Int) (x1 : Int) : r_law23_PlanLimits.tree prg0.G (prg0.calls L) (L.P r_law23_PlanLimits) prg0.N [] (r_law23_PlanLimits.X.inp.mk' (x0, x1) 64) = B_law23_PlanLimits L x0 x1 := by kernel_rfl
noncomputable def B_law23_PlanLimits_0 (L : Lvl) (x0 : Int) (x1 : Int) (x2 : Int) (x3 : DIns) (x4 : (List DIns)) : Option Bool :=
  if (decide (x2 < x1)) = true then
    if (true && (decide ((((List.length x4) + (List.length (x3 :: ((Go.AM.DIns.mk (3 : Int) (0 : Int) (0 : Int) (0 : Int) (0 : Int) (Go.AM.DFrac.mk (0 : Int) (0 : Int)) zeroS ([] : List DMatcher) ([] : List ByteArray)) :: ([] : List DIns))))) * (120 : Nat)) ≤ (140737488355328 : Nat)))) = true then
    P_law23_PlanLimits_0 L ((x0, (x1, (IntKind.wrap .i64 (x2 + (1 : Int))))), (x3, (x4 ++ (x3 :: ((Go.AM.DIns.mk (3 : Int) (0 : Int) (0 : Int) (0 : Int) (0 : Int) (Go.AM.DFrac.mk (0 : Int) (0 : Int)) zeroS ([] : List DMatcher) ([] : List ByteArray)) :: ([] : List DIns))))))
    else none
  else
    (S_ref01_Around L (x0, (206 : Int))).bind fun (y5 : Int) =>
      P_law23_PlanLimits_1 L ((x1, y5), (x3, (x4, ([] : List DIns))))
theorem e_law23_PlanLimits_0 (L : Lvl) (x0 : Int) (x1 : Int) (x2 : Int) (x3 : DIns) (x4 : (List DIns)) : r_law23_PlanLimits.tree prg0.G (prg0.calls L) (L.P r_law23_PlanLimits) prg0.N [0, 0, 1, 0, 1, 1, 1, 1] (q_law23_PlanLimits_0.mk' ((x0, (x1, x2)), (x3, x4)) 64) = B_law23_PlanLimits_0 L x0 x1 x2 x3 x4 := by kernel_rfl
noncomputable def B_law23_PlanLimits_1 (L : Lvl) (x0 : Int) (x1 : Int) (x2 : DIns) (x3 : (List DIns)) (x4 : (List DIns)) : Option Bool :=
  if (decide (x1 > (0 : Int))) = true then
    if (true && (decide ((((List.length x4) + (List.length (x2 :: ([] : List DIns)))) * (120 : Nat)) ≤ (140737488355328 : Nat)))) = true then
    P_law23_PlanLimits_1 L ((x0, (IntKind.wrap .i64 (x1 - (1 : Int)))), (x2, (x3, (x4 ++ (x2 :: ([] : List DIns))))))
    else none
  else
    (S_law23_balanced L x0).bind fun (y5 : (List DIns)) =>
      (S_plan_Check L y5).bind fun (y6 : Int) =>
        (S_ref23_Check L y5).bind fun (y7 : Int) =>
          if (y6 == y7) = true then
            (S_plan_Check L x3).bind fun (y8 : Int) =>
              (S_ref23_Check L x3).bind fun (y9 : Int) =>
                if (y8 == y9) = true then
                  (S_plan_Check L x4).bind fun (y10 : Int) =>
                    (S_ref23_Check L x4).bind fun (y11 : Int) =>
                      if (y10 == y11) = true then
                        (S_law23_lives L ()).bind fun (y12 : Bool) =>
                          some y12
                      else
                        some false
                else
                  some false
          else
            some false
theorem e_law23_PlanLimits_1 (L : Lvl) (x0 : Int) (x1 : Int) (x2 : DIns) (x3 : (List DIns)) (x4 : (List DIns)) : r_law23_PlanLimits.tree prg0.G (prg0.calls L) (L.P r_law23_PlanLimits) prg0.N [0, 0, 1, 0, 1, 1, 1, 1, 1, 1] (q_law23_PlanLimits_1.mk' ((x0, x1), (x2, (x3, x4))) 64) = B_law23_PlanLimits_1 L x0 x1 x2 x3 x4 := by kernel_rfl
noncomputable def B_law23_PlanEncode (L : Lvl) (x0 : (List Int)) (x1 : Int) (x2 : Int) (x3 : Int) : Option Bool :=
  (S_ref07_Expr L x0).bind fun (y4 : DExpr) =>
    (S_ref23_Compile L (Go.AM.eE y4)).bind fun ((y5, y6) : ((List DIns) × Int)) =>
      (S_law23_encodes L y5).bind fun (y7 : Bool) =>
        if y7 = true then
          (S_ref23_Changed L (y5, (x1, (x2, x3)))).bind fun (y8 : (List DIns)) =>
            (S_law23_encodes L y8).bind fun (y9 : Bool) =>
              if y9 = true then
                (S_law23_lives L ()).bind fun (y10 : Bool) =>
                  some y10
              else
                some false
        else
          some false
theorem e_law23_PlanEncode (L : Lvl) (x0 : (List Int)) (x1 : Int) (x2 : Int) (x3 : Int) : r_law23_PlanEncode.tree prg0.G (prg0.calls L) (L.P r_law23_PlanEncode) prg0.N [] (r_law23_PlanEncode.X.inp.mk' (x0, (x1, (x2, x3))) 64) = B_law23_PlanEncode L x0 x1 x2 x3 := by kernel_rfl
noncomputable def B_law23_PlanUses (L : Lvl) (x0 : (List Int)) (x1 : (List Int)) (x2 : Int) (x3 : Int) (x4 : Int) : Option Bool :=
  (S_ref08_Decls L x0).bind fun (y5 : (List DDecl)) =>
    (S_ref08_Query L x1).bind fun (y6 : DExpr) =>
      (S_ref23_Compile L (Go.AM.eE y6)).bind fun ((y7, y8) : ((List DIns) × Int)) =>
        (S_ref23_Changed L (y7, (x2, (x3, x4)))).bind fun (y9 : (List DIns)) =>
          (S_plan_Uses L (y7, y5)).bind fun (y10 : (List Int)) =>
            (S_ref23_Uses L (y7, y5)).bind fun (y11 : (List Int)) =>
              (S_ref01_SameInts L (y10, y11)).bind fun (y12 : Bool) =>
                if y12 = true then
                  (S_plan_Uses L (y9, y5)).bind fun (y13 : (List Int)) =>
                    (S_ref23_Uses L (y9, y5)).bind fun (y14 : (List Int)) =>
                      (S_ref01_SameInts L (y13, y14)).bind fun (y15 : Bool) =>
                        if y15 = true then
                          (S_plan_Uses L (y7, ([] : List DDecl))).bind fun (y16 : (List Int)) =>
                            if ((((List.length y16) : Nat) : Int) == (0 : Int)) = true then
                              (S_law23_lives L ()).bind fun (y17 : Bool) =>
                                some y17
                            else
                              some false
                        else
                          some false
                else
                  some false
theorem e_law23_PlanUses (L : Lvl) (x0 : (List Int)) (x1 : (List Int)) (x2 : Int) (x3 : Int) (x4 : Int) : r_law23_PlanUses.tree prg0.G (prg0.calls L) (L.P r_law23_PlanUses) prg0.N [] (r_law23_PlanUses.X.inp.mk' (x0, (x1, (x2, (x3, x4)))) 64) = B_law23_PlanUses L x0 x1 x2 x3 x4 := by kernel_rfl
noncomputable def B_ref07_Expr (L : Lvl) (x0 : (List Int)) : Option DExpr :=
  (S_ref07_Make L (x0, (((⟨#[99, 112, 117]⟩ : ByteArray) :: ((⟨#[109, 101, 109]⟩ : ByteArray) :: ((⟨#[97]⟩ : ByteArray) :: ((⟨#[108, 97, 115, 116]⟩ : ByteArray) :: ((⟨#[98, 121]⟩ : ByteArray) :: ((⟨#[120, 95, 49]⟩ : ByteArray) :: ([] : List ByteArray))))))), (4096 : Int)))).bind fun (y1 : DExpr) =>
    some (Go.AM.eE y1)
theorem e_ref07_Expr (L : Lvl) (x0 : (List Int)) : r_ref07_Expr.tree prg0.G (prg0.calls L) (L.P r_ref07_Expr) prg0.N [] (r_ref07_Expr.X.inp.mk' x0 64) = B_ref07_Expr L x0 := by kernel_rfl
noncomputable def B_law23_lives (L : Lvl)  : Option Bool :=
  (S_parser_Parse L (⟨#[97, 46, 109, 101, 97, 110, 40, 51, 41, 64, 49, 32, 45, 32, 50]⟩ : ByteArray)).bind fun ((y0, (y1, y2)) : (DExpr × (Int × Int))) =>
    (S_plan_Compile L (Go.AM.eE y0)).bind fun ((y3, y4) : ((List DIns) × Int)) =>
      (S_plan_Check L ((Go.AM.DIns.mk (3 : Int) (0 : Int) (0 : Int) (0 : Int) (0 : Int) (Go.AM.DFrac.mk (0 : Int) (0 : Int)) zeroS ([] : List DMatcher) ([] : List ByteArray)) :: ([] : List DIns))).bind fun (y5 : Int) =>
        if (y2 == (0 : Int)) = true then
          if (y4 == (0 : Int)) = true then
            if ((((List.length y3) : Nat) : Int) == (3 : Int)) = true then
              if (decide (((0 : Int) ≤ (0 : Int)) ∧ ((0 : Int) < (((List.length y3) : Nat) : Int)))) = true then
              if ((List.getD y3 (0 : Nat) (dflt .ins)).window == (3 : Int)) = true then
                if (decide (((0 : Int) ≤ (2 : Int)) ∧ ((2 : Int) < (((List.length y3) : Nat) : Int)))) = true then
                if ((List.getD y3 (2 : Nat) (dflt .ins)).kind == (3 : Int)) = true then
                  (S_plan_Reach L y3).bind fun (y6 : Int) =>
                    if (y6 == (-3 : Int)) = true then
                      some (y5 == (1 : Int))
                    else
                      some false
                else
                  some false
                else none
              else
                some false
              else none
            else
              some false
          else
            some false
        else
          some false
theorem e_law23_lives (L : Lvl)  : r_law23_lives.tree prg0.G (prg0.calls L) (L.P r_law23_lives) prg0.N [] (r_law23_lives.X.inp.mk' () 64) = B_law23_lives L  := by kernel_rfl
noncomputable def B_ref23_Compile (L : Lvl) (x0 : DExpr) : Option ((List DIns) × Int) :=
  (S_ref07_Valid L (Go.AM.eE x0)).bind fun (y1 : Int) =>
    if (y1 != (0 : Int)) = true then
      some (([] : List DIns), y1)
    else
      (S_ref23_postfix L (Go.AM.eE x0)).bind fun (y2 : (List DIns)) =>
        some (y2, (0 : Int))
theorem e_ref23_Compile (L : Lvl) (x0 : DExpr) : r_ref23_Compile.tree prg0.G (prg0.calls L) (L.P r_ref23_Compile) prg0.N [] (r_ref23_Compile.X.inp.mk' x0 64) = B_ref23_Compile L x0 := by kernel_rfl
noncomputable def B_ref23_Few (L : Lvl) (x0 : (List DIns)) : Option (List DIns) :=
  P_ref23_Few_0 L ((x0, (0 : Int)), ([] : List DIns))
theorem e_ref23_Few (L : Lvl) (x0 : (List DIns)) : r_ref23_Few.tree prg0.G (prg0.calls L) (L.P r_ref23_Few) prg0.N [] (r_ref23_Few.X.inp.mk' x0 64) = B_ref23_Few L x0 := by kernel_rfl
noncomputable def B_ref23_Few_0 (L : Lvl) (x0 : (List DIns)) (x1 : Int) (x2 : (List DIns)) : Option (List DIns) :=
  if (decide (x1 < (((List.length x0) : Nat) : Int))) = true then
    if (decide (x1 < (12 : Int))) = true then
      if (decide (((0 : Int) ≤ x1) ∧ (x1 < (((List.length x0) : Nat) : Int)))) = true then
      (S_ref01_Short L ((rdx .ins x0 x1).name, (20 : Int))).bind fun (y3 : ByteArray) =>
        P_ref23_Few_1 L ((x0, (x1, (0 : Int))), (((rdx .ins x0 x1).kind, ((rdx .ins x0 x1).fn, ((rdx .ins x0 x1).window, ((rdx .ins x0 x1).offset, ((rdx .ins x0 x1).k, ((rdx .ins x0 x1).num.num, ((rdx .ins x0 x1).num.den, (y3, (rdx .ins x0 x1).by_)))))))), (([] : List DMatcher), x2)))
      else none
    else
      some x2
  else
    some x2
theorem e_ref23_Few_0 (L : Lvl) (x0 : (List DIns)) (x1 : Int) (x2 : (List DIns)) : r_ref23_Few.tree prg0.G (prg0.calls L) (L.P r_ref23_Few) prg0.N [0, 0, 1, 0, 1, 1] (q_ref23_Few_0.mk' ((x0, x1), x2) 64) = B_ref23_Few_0 L x0 x1 x2 := by kernel_rfl
noncomputable def B_ref23_Few_1 (L : Lvl) (x0 : (List DIns)) (x1 : Int) (x2 : Int) (x3 : Int) (x4 : Int) (x5 : Int) (x6 : Int) (x7 : Int) (x8 : Int) (x9 : Int) (x10 : ByteArray) (x11 : (List ByteArray)) (x12 : (List DMatcher)) (x13 : (List DIns)) : Option (List DIns) :=
  if (decide (((0 : Int) ≤ x1) ∧ (x1 < (((List.length x0) : Nat) : Int)))) = true then
  if (decide (x2 < (((List.length (rdx .ins x0 x1).ms) : Nat) : Int))) = true then
    if (decide (x2 < (3 : Int))) = true then
      if (decide (((0 : Int) ≤ x1) ∧ (x1 < (((List.length x0) : Nat) : Int)))) = true then
      if (decide (((0 : Int) ≤ x2) ∧ (x2 < (((List.length (rdx .ins x0 x1).ms) : Nat) : Int)))) = true then
      if (true && (decide ((((List.length x12) + (List.length ((rdx .matcher (rdx .ins x0 x1).ms x2) :: ([] : List DMatcher)))) * (40 : Nat)) ≤ (140737488355328 : Nat)))) = true then
      P_ref23_Few_1 L ((x0, (x1, (IntKind.wrap .i64 (x2 + (1 : Int))))), ((x3, (x4, (x5, (x6, (x7, (x8, (x9, (x10, x11)))))))), ((x12 ++ ((rdx .matcher (rdx .ins x0 x1).ms x2) :: ([] : List DMatcher))), x13)))
      else none
      else none
      else none
    else
      P_ref23_Few_2 L ((x0, (x1, (0 : Int))), ((x3, (x4, (x5, (x6, (x7, (x8, (x9, x10))))))), (x12, (([] : List ByteArray), x13))))
  else
    P_ref23_Few_2 L ((x0, (x1, (0 : Int))), ((x3, (x4, (x5, (x6, (x7, (x8, (x9, x10))))))), (x12, (([] : List ByteArray), x13))))
  else none
theorem e_ref23_Few_1 (L : Lvl) (x0 : (List DIns)) (x1 : Int) (x2 : Int) (x3 : Int) (x4 : Int) (x5 : Int) (x6 : Int) (x7 : Int) (x8 : Int) (x9 : Int) (x10 : ByteArray) (x11 : (List ByteArray)) (x12 : (List DMatcher)) (x13 : (List DIns)) : r_ref23_Few.tree prg0.G (prg0.calls L) (L.P r_ref23_Few) prg0.N [0, 0, 1, 0, 1, 1, 1, 0, 0, 1, 0, 0, 1, 0, 1, 1] (q_ref23_Few_1.mk' ((x0, (x1, x2)), ((x3, (x4, (x5, (x6, (x7, (x8, (x9, (x10, x11)))))))), (x12, x13))) 64) = B_ref23_Few_1 L x0 x1 x2 x3 x4 x5 x6 x7 x8 x9 x10 x11 x12 x13 := by kernel_rfl
noncomputable def B_ref23_Few_2 (L : Lvl) (x0 : (List DIns)) (x1 : Int) (x2 : Int) (x3 : Int) (x4 : Int) (x5 : Int) (x6 : Int) (x7 : Int) (x8 : Int) (x9 : Int) (x10 : ByteArray) (x11 : (List DMatcher)) (x12 : (List ByteArray)) (x13 : (List DIns)) : Option (List DIns) :=
  if (decide (((0 : Int) ≤ x1) ∧ (x1 < (((List.length x0) : Nat) : Int)))) = true then
  if (decide (x2 < (((List.length (rdx .ins x0 x1).by_) : Nat) : Int))) = true then
    if (decide (x2 < (3 : Int))) = true then
      if (decide (((0 : Int) ≤ x1) ∧ (x1 < (((List.length x0) : Nat) : Int)))) = true then
      if (decide (((0 : Int) ≤ x2) ∧ (x2 < (((List.length (rdx .ins x0 x1).by_) : Nat) : Int)))) = true then
      if (true && (decide ((((List.length x12) + (List.length ((rdx .str (rdx .ins x0 x1).by_ x2) :: ([] : List ByteArray)))) * (16 : Nat)) ≤ (140737488355328 : Nat)))) = true then
      P_ref23_Few_2 L ((x0, (x1, (IntKind.wrap .i64 (x2 + (1 : Int))))), ((x3, (x4, (x5, (x6, (x7, (x8, (x9, x10))))))), (x11, ((x12 ++ ((rdx .str (rdx .ins x0 x1).by_ x2) :: ([] : List ByteArray))), x13))))
      else none
      else none
      else none
    else
      if (true && (decide ((((List.length x13) + (List.length ((Go.AM.DIns.mk x3 x4 x5 x6 x7 (Go.AM.DFrac.mk x8 x9) x10 x11 x12) :: ([] : List DIns)))) * (120 : Nat)) ≤ (140737488355328 : Nat)))) = true then
      P_ref23_Few_0 L ((x0, (IntKind.wrap .i64 (x1 + (1 : Int)))), (x13 ++ ((Go.AM.DIns.mk x3 x4 x5 x6 x7 (Go.AM.DFrac.mk x8 x9) x10 x11 x12) :: ([] : List DIns))))
      else none
  else
    if (true && (decide ((((List.length x13) + (List.length ((Go.AM.DIns.mk x3 x4 x5 x6 x7 (Go.AM.DFrac.mk x8 x9) x10 x11 x12) :: ([] : List DIns)))) * (120 : Nat)) ≤ (140737488355328 : Nat)))) = true then
    P_ref23_Few_0 L ((x0, (IntKind.wrap .i64 (x1 + (1 : Int)))), (x13 ++ ((Go.AM.DIns.mk x3 x4 x5 x6 x7 (Go.AM.DFrac.mk x8 x9) x10 x11 x12) :: ([] : List DIns))))
    else none
  else none
theorem e_ref23_Few_2 (L : Lvl) (x0 : (List DIns)) (x1 : Int) (x2 : Int) (x3 : Int) (x4 : Int) (x5 : Int) (x6 : Int) (x7 : Int) (x8 : Int) (x9 : Int) (x10 : ByteArray) (x11 : (List DMatcher)) (x12 : (List ByteArray)) (x13 : (List DIns)) : r_ref23_Few.tree prg0.G (prg0.calls L) (L.P r_ref23_Few) prg0.N [0, 0, 1, 0, 1, 1, 1, 1, 1, 0, 0, 1, 0, 0, 1, 0, 1, 1] (q_ref23_Few_2.mk' ((x0, (x1, x2)), ((x3, (x4, (x5, (x6, (x7, (x8, (x9, x10))))))), (x11, (x12, x13)))) 64) = B_ref23_Few_2 L x0 x1 x2 x3 x4 x5 x6 x7 x8 x9 x10 x11 x12 x13 := by kernel_rfl
noncomputable def B_ref23_Changed (L : Lvl) (x0 : (List DIns)) (x1 : Int) (x2 : Int) (x3 : Int) : Option (List DIns) :=
  if (true && (decide ((((0 : Nat) + (List.length x0)) * (120 : Nat)) ≤ (140737488355328 : Nat)))) = true then
  if ((((List.length (([] : List DIns) ++ x0)) : Nat) : Int) == (0 : Int)) = true then
    some (([] : List DIns) ++ x0)
  else
    (S_ref01_Around L (x1, (((List.length (([] : List DIns) ++ x0)) : Nat) : Int))).bind fun (y4 : Int) =>
      (S_ref01_Around L (x2, (7 : Int))).bind fun (y5 : Int) =>
        if (y5 == (0 : Int)) = true then
          if (decide (((0 : Int) ≤ (0 : Int)) ∧ (((0 : Int) ≤ y4) ∧ (y4 ≤ (((List.length (([] : List DIns) ++ x0)) : Nat) : Int))))) = true then
          if (decide (((0 : Int) ≤ (IntKind.wrap .i64 (y4 + (1 : Int)))) ∧ (((IntKind.wrap .i64 (y4 + (1 : Int))) ≤ (((List.length x0) : Nat) : Int)) ∧ ((((List.length x0) : Nat) : Int) ≤ (((List.length x0) : Nat) : Int))))) = true then
          if ((decide ((Int.toNat (y4 - (0 : Int))) ≤ (List.length (([] : List DIns) ++ x0)))) && (decide ((((List.length (List.take (Int.toNat (y4 - (0 : Int))) (([] : List DIns) ++ x0))) + (List.length (List.take (Int.toNat ((((List.length x0) : Nat) : Int) - (IntKind.wrap .i64 (y4 + (1 : Int))))) (List.drop (Int.toNat (IntKind.wrap .i64 (y4 + (1 : Int)))) x0)))) * (120 : Nat)) ≤ (140737488355328 : Nat)))) = true then
          some ((List.take (Int.toNat (y4 - (0 : Int))) (([] : List DIns) ++ x0)) ++ (List.take (Int.toNat ((((List.length x0) : Nat) : Int) - (IntKind.wrap .i64 (y4 + (1 : Int))))) (List.drop (Int.toNat (IntKind.wrap .i64 (y4 + (1 : Int)))) x0)))
          else none
          else none
          else none
        else
          if (y5 == (1 : Int)) = true then
            if (decide (((0 : Int) ≤ y4) ∧ (y4 < (((List.length x0) : Nat) : Int)))) = true then
            if (true && (decide ((((List.length (([] : List DIns) ++ x0)) + (List.length ((rdx .ins x0 y4) :: ([] : List DIns)))) * (120 : Nat)) ≤ (140737488355328 : Nat)))) = true then
            some ((([] : List DIns) ++ x0) ++ ((rdx .ins x0 y4) :: ([] : List DIns)))
            else none
            else none
          else
            if (y5 == (2 : Int)) = true then
              if (decide ((IntKind.wrap .i64 (y4 + (1 : Int))) < (((List.length (([] : List DIns) ++ x0)) : Nat) : Int))) = true then
                if (decide (((0 : Int) ≤ (IntKind.wrap .i64 (y4 + (1 : Int)))) ∧ ((IntKind.wrap .i64 (y4 + (1 : Int))) < (((List.length x0) : Nat) : Int)))) = true then
                if (decide (((0 : Int) ≤ y4) ∧ (y4 < (((List.length (([] : List DIns) ++ x0)) : Nat) : Int)))) = true then
                if (decide ((Int.toNat y4) < (List.length (([] : List DIns) ++ x0)))) = true then
                if (decide (((0 : Int) ≤ y4) ∧ (y4 < (((List.length x0) : Nat) : Int)))) = true then
                if (decide (((0 : Int) ≤ (IntKind.wrap .i64 (y4 + (1 : Int)))) ∧ ((IntKind.wrap .i64 (y4 + (1 : Int))) < (((List.length (List.set (([] : List DIns) ++ x0) (Int.toNat y4) (rdx .ins x0 (IntKind.wrap .i64 (y4 + (1 : Int)))))) : Nat) : Int)))) = true then
                if (decide ((Int.toNat (IntKind.wrap .i64 (y4 + (1 : Int)))) < (List.length (List.set (([] : List DIns) ++ x0) (Int.toNat y4) (rdx .ins x0 (IntKind.wrap .i64 (y4 + (1 : Int)))))))) = true then
                some (List.set (List.set (([] : List DIns) ++ x0) (Int.toNat y4) (rdx .ins x0 (IntKind.wrap .i64 (y4 + (1 : Int))))) (Int.toNat (IntKind.wrap .i64 (y4 + (1 : Int)))) (rdx .ins x0 y4))
                else none
                else none
                else none
                else none
                else none
                else none
              else
                if (y5 == (3 : Int)) = true then
                  if (decide (((0 : Int) ≤ y4) ∧ (y4 < (((List.length (([] : List DIns) ++ x0)) : Nat) : Int)))) = true then
                  if (decide ((Int.toNat y4) < (List.length (([] : List DIns) ++ x0)))) = true then
                  some (List.set (([] : List DIns) ++ x0) (Int.toNat y4) (Go.AM.DIns.mk x3 (rdx .ins (([] : List DIns) ++ x0) y4).fn (rdx .ins (([] : List DIns) ++ x0) y4).window (rdx .ins (([] : List DIns) ++ x0) y4).offset (rdx .ins (([] : List DIns) ++ x0) y4).k (rdx .ins (([] : List DIns) ++ x0) y4).num (rdx .ins (([] : List DIns) ++ x0) y4).name (rdx .ins (([] : List DIns) ++ x0) y4).ms (rdx .ins (([] : List DIns) ++ x0) y4).by_))
                  else none
                  else none
                else
                  if (y5 == (4 : Int)) = true then
                    if (decide (((0 : Int) ≤ y4) ∧ (y4 < (((List.length (([] : List DIns) ++ x0)) : Nat) : Int)))) = true then
                    if (decide ((Int.toNat y4) < (List.length (([] : List DIns) ++ x0)))) = true then
                    some (List.set (([] : List DIns) ++ x0) (Int.toNat y4) (Go.AM.DIns.mk (rdx .ins (([] : List DIns) ++ x0) y4).kind x3 (rdx .ins (([] : List DIns) ++ x0) y4).window (rdx .ins (([] : List DIns) ++ x0) y4).offset (rdx .ins (([] : List DIns) ++ x0) y4).k (rdx .ins (([] : List DIns) ++ x0) y4).num (rdx .ins (([] : List DIns) ++ x0) y4).name (rdx .ins (([] : List DIns) ++ x0) y4).ms (rdx .ins (([] : List DIns) ++ x0) y4).by_))
                    else none
                    else none
                  else
                    if (y5 == (5 : Int)) = true then
                      if (decide (((0 : Int) ≤ y4) ∧ (y4 < (((List.length (([] : List DIns) ++ x0)) : Nat) : Int)))) = true then
                      if (decide ((Int.toNat y4) < (List.length (([] : List DIns) ++ x0)))) = true then
                      some (List.set (([] : List DIns) ++ x0) (Int.toNat y4) (Go.AM.DIns.mk (rdx .ins (([] : List DIns) ++ x0) y4).kind (rdx .ins (([] : List DIns) ++ x0) y4).fn (rdx .ins (([] : List DIns) ++ x0) y4).window (rdx .ins (([] : List DIns) ++ x0) y4).offset x3 (rdx .ins (([] : List DIns) ++ x0) y4).num (rdx .ins (([] : List DIns) ++ x0) y4).name (rdx .ins (([] : List DIns) ++ x0) y4).ms (rdx .ins (([] : List DIns) ++ x0) y4).by_))
                      else none
                      else none
                    else
                      if (y5 == (6 : Int)) = true then
                        if (decide (((0 : Int) ≤ y4) ∧ (y4 < (((List.length (([] : List DIns) ++ x0)) : Nat) : Int)))) = true then
                        if (decide ((Int.toNat y4) < (List.length (([] : List DIns) ++ x0)))) = true then
                        some (List.set (([] : List DIns) ++ x0) (Int.toNat y4) (Go.AM.DIns.mk (rdx .ins (([] : List DIns) ++ x0) y4).kind (rdx .ins (([] : List DIns) ++ x0) y4).fn x3 (rdx .ins (([] : List DIns) ++ x0) y4).offset (rdx .ins (([] : List DIns) ++ x0) y4).k (rdx .ins (([] : List DIns) ++ x0) y4).num (rdx .ins (([] : List DIns) ++ x0) y4).name (rdx .ins (([] : List DIns) ++ x0) y4).ms (rdx .ins (([] : List DIns) ++ x0) y4).by_))
                        else none
                        else none
                      else
                        some (([] : List DIns) ++ x0)
            else
              if (y5 == (3 : Int)) = true then
                if (decide (((0 : Int) ≤ y4) ∧ (y4 < (((List.length (([] : List DIns) ++ x0)) : Nat) : Int)))) = true then
                if (decide ((Int.toNat y4) < (List.length (([] : List DIns) ++ x0)))) = true then
                some (List.set (([] : List DIns) ++ x0) (Int.toNat y4) (Go.AM.DIns.mk x3 (rdx .ins (([] : List DIns) ++ x0) y4).fn (rdx .ins (([] : List DIns) ++ x0) y4).window (rdx .ins (([] : List DIns) ++ x0) y4).offset (rdx .ins (([] : List DIns) ++ x0) y4).k (rdx .ins (([] : List DIns) ++ x0) y4).num (rdx .ins (([] : List DIns) ++ x0) y4).name (rdx .ins (([] : List DIns) ++ x0) y4).ms (rdx .ins (([] : List DIns) ++ x0) y4).by_))
                else none
                else none
              else
                if (y5 == (4 : Int)) = true then
                  if (decide (((0 : Int) ≤ y4) ∧ (y4 < (((List.length (([] : List DIns) ++ x0)) : Nat) : Int)))) = true then
                  if (decide ((Int.toNat y4) < (List.length (([] : List DIns) ++ x0)))) = true then
                  some (List.set (([] : List DIns) ++ x0) (Int.toNat y4) (Go.AM.DIns.mk (rdx .ins (([] : List DIns) ++ x0) y4).kind x3 (rdx .ins (([] : List DIns) ++ x0) y4).window (rdx .ins (([] : List DIns) ++ x0) y4).offset (rdx .ins (([] : List DIns) ++ x0) y4).k (rdx .ins (([] : List DIns) ++ x0) y4).num (rdx .ins (([] : List DIns) ++ x0) y4).name (rdx .ins (([] : List DIns) ++ x0) y4).ms (rdx .ins (([] : List DIns) ++ x0) y4).by_))
                  else none
                  else none
                else
                  if (y5 == (5 : Int)) = true then
                    if (decide (((0 : Int) ≤ y4) ∧ (y4 < (((List.length (([] : List DIns) ++ x0)) : Nat) : Int)))) = true then
                    if (decide ((Int.toNat y4) < (List.length (([] : List DIns) ++ x0)))) = true then
                    some (List.set (([] : List DIns) ++ x0) (Int.toNat y4) (Go.AM.DIns.mk (rdx .ins (([] : List DIns) ++ x0) y4).kind (rdx .ins (([] : List DIns) ++ x0) y4).fn (rdx .ins (([] : List DIns) ++ x0) y4).window (rdx .ins (([] : List DIns) ++ x0) y4).offset x3 (rdx .ins (([] : List DIns) ++ x0) y4).num (rdx .ins (([] : List DIns) ++ x0) y4).name (rdx .ins (([] : List DIns) ++ x0) y4).ms (rdx .ins (([] : List DIns) ++ x0) y4).by_))
                    else none
                    else none
                  else
                    if (y5 == (6 : Int)) = true then
                      if (decide (((0 : Int) ≤ y4) ∧ (y4 < (((List.length (([] : List DIns) ++ x0)) : Nat) : Int)))) = true then
                      if (decide ((Int.toNat y4) < (List.length (([] : List DIns) ++ x0)))) = true then
                      some (List.set (([] : List DIns) ++ x0) (Int.toNat y4) (Go.AM.DIns.mk (rdx .ins (([] : List DIns) ++ x0) y4).kind (rdx .ins (([] : List DIns) ++ x0) y4).fn x3 (rdx .ins (([] : List DIns) ++ x0) y4).offset (rdx .ins (([] : List DIns) ++ x0) y4).k (rdx .ins (([] : List DIns) ++ x0) y4).num (rdx .ins (([] : List DIns) ++ x0) y4).name (rdx .ins (([] : List DIns) ++ x0) y4).ms (rdx .ins (([] : List DIns) ++ x0) y4).by_))
                      else none
                      else none
                    else
                      some (([] : List DIns) ++ x0)
  else none
theorem e_ref23_Changed (L : Lvl) (x0 : (List DIns)) (x1 : Int) (x2 : Int) (x3 : Int) : r_ref23_Changed.tree prg0.G (prg0.calls L) (L.P r_ref23_Changed) prg0.N [] (r_ref23_Changed.X.inp.mk' (x0, (x1, (x2, x3))) 64) = B_ref23_Changed L x0 x1 x2 x3 := by kernel_rfl
noncomputable def B_law23_rebuilds (L : Lvl) (x0 : (List DIns)) : Option Bool :=
  (S_plan_Tree L x0).bind fun ((y1, y2) : (DExpr × Int)) =>
    (S_ref23_Tree L x0).bind fun ((y3, y4) : (DExpr × Int)) =>
      if (y2 == y4) = true then
        (S_ref07_Equal L ((Go.AM.eE y1), (Go.AM.eE y3))).bind fun (y5 : Bool) =>
          if y5 = true then
            (S_plan_Check L x0).bind fun (y6 : Int) =>
              some (y6 == y4)
          else
            some false
      else
        some false
theorem e_law23_rebuilds (L : Lvl) (x0 : (List DIns)) : r_law23_rebuilds.tree prg0.G (prg0.calls L) (L.P r_law23_rebuilds) prg0.N [] (r_law23_rebuilds.X.inp.mk' x0 64) = B_law23_rebuilds L x0 := by kernel_rfl
noncomputable def B_ref01_Around (L : Lvl) (x0 : Int) (x1 : Int) : Option Int :=
  if (decide (x0 < (0 : Int))) = true then
    if (decide (x1 ≠ (0 : Int))) = true then
    some (Int.tmod (IntKind.wrap .i64 ((0 : Int) - (IntKind.wrap .i64 (x0 + (1 : Int))))) x1)
    else none
  else
    if (decide (x1 ≠ (0 : Int))) = true then
    some (Int.tmod x0 x1)
    else none
theorem e_ref01_Around (L : Lvl) (x0 : Int) (x1 : Int) : r_ref01_Around.tree prg0.G (prg0.calls L) (L.P r_ref01_Around) prg0.N [] (r_ref01_Around.X.inp.mk' (x0, x1) 64) = B_ref01_Around L x0 x1 := by kernel_rfl
noncomputable def B_law23_balanced (L : Lvl) (x0 : Int) : Option (List DIns) :=
  if (decide (x0 ≤ (1 : Int))) = true then
    some ((Go.AM.DIns.mk (0 : Int) (0 : Int) (0 : Int) (0 : Int) (0 : Int) (Go.AM.DFrac.mk (1 : Int) (1 : Int)) zeroS ([] : List DMatcher) ([] : List ByteArray)) :: ([] : List DIns))
  else
    (S_law23_balanced L (IntKind.wrap .i64 (Int.tdiv x0 (2 : Int)))).bind fun (y1 : (List DIns)) =>
      (S_law23_balanced L (IntKind.wrap .i64 (x0 - (IntKind.wrap .i64 (Int.tdiv x0 (2 : Int)))))).bind fun (y2 : (List DIns)) =>
        if (true && (decide ((((List.length y1) + (List.length y2)) * (120 : Nat)) ≤ (140737488355328 : Nat)))) = true then
        if (true && (decide ((((List.length (y1 ++ y2)) + (1 : Nat)) * (120 : Nat)) ≤ (140737488355328 : Nat)))) = true then
        some ((y1 ++ y2) ++ ((Go.AM.DIns.mk (3 : Int) (0 : Int) (0 : Int) (0 : Int) (0 : Int) (Go.AM.DFrac.mk (0 : Int) (0 : Int)) zeroS ([] : List DMatcher) ([] : List ByteArray)) :: ([] : List DIns)))
        else none
        else none
theorem e_law23_balanced (L : Lvl) (x0 : Int) : r_law23_balanced.tree prg0.G (prg0.calls L) (L.P r_law23_balanced) prg0.N [] (r_law23_balanced.X.inp.mk' x0 64) = B_law23_balanced L x0 := by kernel_rfl
noncomputable def B_plan_Check (L : Lvl) (x0 : (List DIns)) : Option Int :=
  (S_plan_Tree L x0).bind fun ((y1, y2) : (DExpr × Int)) =>
    some y2
theorem e_plan_Check (L : Lvl) (x0 : (List DIns)) : r_plan_Check.tree prg0.G (prg0.calls L) (L.P r_plan_Check) prg0.N [] (r_plan_Check.X.inp.mk' x0 64) = B_plan_Check L x0 := by kernel_rfl
noncomputable def B_ref23_Check (L : Lvl) (x0 : (List DIns)) : Option Int :=
  (S_ref23_Tree L x0).bind fun ((y1, y2) : (DExpr × Int)) =>
    some y2
theorem e_ref23_Check (L : Lvl) (x0 : (List DIns)) : r_ref23_Check.tree prg0.G (prg0.calls L) (L.P r_ref23_Check) prg0.N [] (r_ref23_Check.X.inp.mk' x0 64) = B_ref23_Check L x0 := by kernel_rfl
noncomputable def B_ref07_Make (L : Lvl) (x0 : (List Int)) (x1 : (List ByteArray)) (x2 : Int) : Option DExpr :=
  (S_ref07_G_expr L ((4 : Int), (x0, ((0 : Int), (x1, (ite (x2 > (1 : Int)) x2 (1 : Int))))))).bind fun ((y3, (y4, (y5, (y6, y7)))) : (DExpr × ((List Int) × (Int × ((List ByteArray) × Int))))) =>
    some (Go.AM.eE y3)
theorem e_ref07_Make (L : Lvl) (x0 : (List Int)) (x1 : (List ByteArray)) (x2 : Int) : r_ref07_Make.tree prg0.G (prg0.calls L) (L.P r_ref07_Make) prg0.N [] (r_ref07_Make.X.inp.mk' (x0, (x1, x2)) 64) = B_ref07_Make L x0 x1 x2 := by kernel_rfl
noncomputable def B_plan_Compile (L : Lvl) (x0 : DExpr) : Option ((List DIns) × Int) :=
  (S_parser_Valid L (Go.AM.eE x0)).bind fun (y1 : Int) =>
    if (y1 != (0 : Int)) = true then
      some (([] : List DIns), y1)
    else
      (S_plan_postfix L (Go.AM.eE x0)).bind fun (y2 : DExpr) =>
        (S_plan_postfix_1 L (([] : List DIns), (Go.AM.eE y2))).bind fun ((y3, y4) : (DExpr × (List DIns))) =>
          some (y4, (0 : Int))
theorem e_plan_Compile (L : Lvl) (x0 : DExpr) : r_plan_Compile.tree prg0.G (prg0.calls L) (L.P r_plan_Compile) prg0.N [] (r_plan_Compile.X.inp.mk' x0 64) = B_plan_Compile L x0 := by kernel_rfl
noncomputable def B_plan_Reach (L : Lvl) (x0 : (List DIns)) : Option Int :=
  (S_plan_Check L x0).bind fun (y1 : Int) =>
    if (y1 != (0 : Int)) = true then
      some (0 : Int)
    else
      P_plan_Reach_0 L ((0 : Int), (x0, ((((List.length x0) : Nat) : Int), (0 : Int))))
theorem e_plan_Reach (L : Lvl) (x0 : (List DIns)) : r_plan_Reach.tree prg0.G (prg0.calls L) (L.P r_plan_Reach) prg0.N [] (r_plan_Reach.X.inp.mk' x0 64) = B_plan_Reach L x0 := by kernel_rfl
noncomputable def B_plan_Reach_0 (L : Lvl) (x0 : Int) (x1 : (List DIns)) (x2 : Int) (x3 : Int) : Option Int :=
  if (decide (x3 < x2)) = true then
    if (decide (((0 : Int) ≤ x3) ∧ (x3 < (((List.length x1) : Nat) : Int)))) = true then
    if ((rdx .ins x1 x3).kind != (1 : Int)) = true then
      P_plan_Reach_0 L (x0, (x1, (x2, (IntKind.wrap .i64 (x3 + (1 : Int))))))
    else
      if ((rdx .ins x1 x3).fn == (0 : Int)) = true then
        if ((rdx .ins x1 x3).fn == (0 : Int)) = true then
          P_plan_Reach_0 L ((ite ((IntKind.wrap .i64 ((0 : Int) - (IntKind.wrap .i64 ((rdx .ins x1 x3).offset + (rdx .ins x1 x3).window)))) < x0) (IntKind.wrap .i64 ((0 : Int) - (IntKind.wrap .i64 ((rdx .ins x1 x3).offset + (rdx .ins x1 x3).window)))) x0), (x1, (x2, (IntKind.wrap .i64 (x3 + (1 : Int))))))
        else
          P_plan_Reach_0 L ((ite ((IntKind.wrap .i64 ((0 : Int) - (IntKind.wrap .i64 ((IntKind.wrap .i64 ((rdx .ins x1 x3).offset + (rdx .ins x1 x3).window)) - (1 : Int))))) < x0) (IntKind.wrap .i64 ((0 : Int) - (IntKind.wrap .i64 ((IntKind.wrap .i64 ((rdx .ins x1 x3).offset + (rdx .ins x1 x3).window)) - (1 : Int))))) x0), (x1, (x2, (IntKind.wrap .i64 (x3 + (1 : Int))))))
      else
        if ((rdx .ins x1 x3).fn == (5 : Int)) = true then
          if ((rdx .ins x1 x3).fn == (5 : Int)) = true then
            P_plan_Reach_0 L ((ite ((IntKind.wrap .i64 ((0 : Int) - (IntKind.wrap .i64 ((rdx .ins x1 x3).offset + (rdx .ins x1 x3).window)))) < x0) (IntKind.wrap .i64 ((0 : Int) - (IntKind.wrap .i64 ((rdx .ins x1 x3).offset + (rdx .ins x1 x3).window)))) x0), (x1, (x2, (IntKind.wrap .i64 (x3 + (1 : Int))))))
          else
            P_plan_Reach_0 L ((ite ((IntKind.wrap .i64 ((0 : Int) - (IntKind.wrap .i64 ((IntKind.wrap .i64 ((rdx .ins x1 x3).offset + (rdx .ins x1 x3).window)) - (1 : Int))))) < x0) (IntKind.wrap .i64 ((0 : Int) - (IntKind.wrap .i64 ((IntKind.wrap .i64 ((rdx .ins x1 x3).offset + (rdx .ins x1 x3).window)) - (1 : Int))))) x0), (x1, (x2, (IntKind.wrap .i64 (x3 + (1 : Int))))))
        else
          if ((rdx .ins x1 x3).fn == (6 : Int)) = true then
            P_plan_Reach_0 L ((ite ((IntKind.wrap .i64 ((0 : Int) - (IntKind.wrap .i64 ((rdx .ins x1 x3).offset + (rdx .ins x1 x3).window)))) < x0) (IntKind.wrap .i64 ((0 : Int) - (IntKind.wrap .i64 ((rdx .ins x1 x3).offset + (rdx .ins x1 x3).window)))) x0), (x1, (x2, (IntKind.wrap .i64 (x3 + (1 : Int))))))
          else
            P_plan_Reach_0 L ((ite ((IntKind.wrap .i64 ((0 : Int) - (IntKind.wrap .i64 ((IntKind.wrap .i64 ((rdx .ins x1 x3).offset + (rdx .ins x1 x3).window)) - (1 : Int))))) < x0) (IntKind.wrap .i64 ((0 : Int) - (IntKind.wrap .i64 ((IntKind.wrap .i64 ((rdx .ins x1 x3).offset + (rdx .ins x1 x3).window)) - (1 : Int))))) x0), (x1, (x2, (IntKind.wrap .i64 (x3 + (1 : Int))))))
    else none
  else
    some x0
theorem e_plan_Reach_0 (L : Lvl) (x0 : Int) (x1 : (List DIns)) (x2 : Int) (x3 : Int) : r_plan_Reach.tree prg0.G (prg0.calls L) (L.P r_plan_Reach) prg0.N [0, 0, 1, 0, 1, 1, 1] (q_plan_Reach_0.mk' (x0, (x1, (x2, x3))) 64) = B_plan_Reach_0 L x0 x1 x2 x3 := by kernel_rfl
noncomputable def B_law23_encodes (L : Lvl) (x0 : (List DIns)) : Option Bool :=
  (S_plan_Encode L x0).bind fun ((y1, y2) : ((List Int) × Int)) =>
    (S_ref23_Encode L x0).bind fun ((y3, y4) : ((List Int) × Int)) =>
      if (y2 == y4) = true then
        (S_ref01_SameBytes L (y1, y3)).bind fun (y5 : Bool) =>
          some y5
      else
        some false
theorem e_law23_encodes (L : Lvl) (x0 : (List DIns)) : r_law23_encodes.tree prg0.G (prg0.calls L) (L.P r_law23_encodes) prg0.N [] (r_law23_encodes.X.inp.mk' x0 64) = B_law23_encodes L x0 := by kernel_rfl
noncomputable def B_ref08_Decls (L : Lvl) (x0 : (List Int)) : Option (List DDecl) :=
  P_ref08_Decls_0 L ((x0, (0 : Int)), (((⟨#[99, 112, 117]⟩ : ByteArray) :: ((⟨#[109, 101, 109]⟩ : ByteArray) :: ((⟨#[97]⟩ : ByteArray) :: ([] : List ByteArray)))), (((Go.AM.DUnit.mk (0 : Int) (0 : Int) (1 : Int)) :: ((Go.AM.DUnit.mk (0 : Int) (1 : Int) (0 : Int)) :: ((Go.AM.DUnit.mk (1 : Int) (0 : Int) (0 : Int)) :: ((Go.AM.DUnit.mk (0 : Int) (0 : Int) (0 : Int)) :: ((Go.AM.DUnit.mk (-2 : Int) (0 : Int) (3 : Int)) :: ((Go.AM.DUnit.mk (0 : Int) (-3 : Int) (-3 : Int)) :: ((Go.AM.DUnit.mk (4 : Int) (0 : Int) (0 : Int)) :: ((Go.AM.DUnit.mk (0 : Int) (0 : Int) (-4 : Int)) :: ([] : List DUnit))))))))), ([] : List DDecl))))
theorem e_ref08_Decls (L : Lvl) (x0 : (List Int)) : r_ref08_Decls.tree prg0.G (prg0.calls L) (L.P r_ref08_Decls) prg0.N [] (r_ref08_Decls.X.inp.mk' x0 64) = B_ref08_Decls L x0 := by kernel_rfl
noncomputable def B_ref08_Decls_0 (L : Lvl) (x0 : (List Int)) (x1 : Int) (x2 : (List ByteArray)) (x3 : (List DUnit)) (x4 : (List DDecl)) : Option (List DDecl) :=
  (S_ref01_Pick L (x0, ((0 : Int), (6 : Int)))).bind fun (y5 : Int) =>
    if (decide (x1 < y5)) = true then
      (S_ref01_Pick L (x0, ((IntKind.wrap .i64 ((IntKind.wrap .i64 ((4 : Int) * x1)) + (1 : Int))), (3 : Int)))).bind fun (y6 : Int) =>
        (S_ref01_Pick L (x0, ((IntKind.wrap .i64 ((IntKind.wrap .i64 ((4 : Int) * x1)) + (2 : Int))), (40 : Int)))).bind fun (y7 : Int) =>
          if (decide (y7 ≥ (((List.length x3) : Nat) : Int))) = true then
            (S_ref01_Pick L (x0, ((IntKind.wrap .i64 ((IntKind.wrap .i64 ((4 : Int) * x1)) + (3 : Int))), (100000 : Int)))).bind fun (y8 : Int) =>
              (S_ref05_Set L (y8 :: ((IntKind.wrap .i64 (Int.tdiv y8 (64 : Int))) :: ((IntKind.wrap .i64 (Int.tdiv y8 (64 : Int))) :: ((IntKind.wrap .i64 (Int.tdiv y8 (64 : Int))) :: ((IntKind.wrap .i64 (Int.tdiv y8 (64 : Int))) :: ((IntKind.wrap .i64 (Int.tdiv y8 (64 : Int))) :: ((IntKind.wrap .i64 (Int.tdiv y8 (64 : Int))) :: ([] : List Int))))))))).bind fun (y9 : (List DLabel)) =>
                if (decide (((0 : Int) ≤ y6) ∧ (y6 < (((List.length x2) : Nat) : Int)))) = true then
                if (decide ((Int.toNat y6) < (List.length x2))) = true then
                if (decide (((0 : Int) ≤ y6) ∧ (y6 < (((List.length x3) : Nat) : Int)))) = true then
                if (decide ((Int.toNat y6) < (List.length x3))) = true then
                if (true && (decide ((((List.length x4) + (List.length ((Go.AM.DDecl.mk (rdx .str x2 y6) y9 (rdx .unit x3 y6) (0 : Int) (0 : Int) (0 : Int) (0 : Int) (0 : Int) (0 : Int) (0 : Int)) :: ([] : List DDecl)))) * (120 : Nat)) ≤ (140737488355328 : Nat)))) = true then
                P_ref08_Decls_0 L ((x0, (IntKind.wrap .i64 (x1 + (1 : Int)))), (x2, (x3, (x4 ++ ((Go.AM.DDecl.mk (rdx .str x2 y6) y9 (rdx .unit x3 y6) (0 : Int) (0 : Int) (0 : Int) (0 : Int) (0 : Int) (0 : Int) (0 : Int)) :: ([] : List DDecl))))))
                else none
                else none
                else none
                else none
                else none
          else
            (S_ref01_Pick L (x0, ((IntKind.wrap .i64 ((IntKind.wrap .i64 ((4 : Int) * x1)) + (3 : Int))), (100000 : Int)))).bind fun (y10 : Int) =>
              (S_ref05_Set L (y10 :: ((IntKind.wrap .i64 (Int.tdiv y10 (64 : Int))) :: ((IntKind.wrap .i64 (Int.tdiv y10 (64 : Int))) :: ((IntKind.wrap .i64 (Int.tdiv y10 (64 : Int))) :: ((IntKind.wrap .i64 (Int.tdiv y10 (64 : Int))) :: ((IntKind.wrap .i64 (Int.tdiv y10 (64 : Int))) :: ((IntKind.wrap .i64 (Int.tdiv y10 (64 : Int))) :: ([] : List Int))))))))).bind fun (y11 : (List DLabel)) =>
                if (decide (((0 : Int) ≤ y6) ∧ (y6 < (((List.length x2) : Nat) : Int)))) = true then
                if (decide ((Int.toNat y6) < (List.length x2))) = true then
                if (decide (((0 : Int) ≤ y7) ∧ (y7 < (((List.length x3) : Nat) : Int)))) = true then
                if (decide ((Int.toNat y7) < (List.length x3))) = true then
                if (true && (decide ((((List.length x4) + (List.length ((Go.AM.DDecl.mk (rdx .str x2 y6) y11 (rdx .unit x3 y7) (0 : Int) (0 : Int) (0 : Int) (0 : Int) (0 : Int) (0 : Int) (0 : Int)) :: ([] : List DDecl)))) * (120 : Nat)) ≤ (140737488355328 : Nat)))) = true then
                P_ref08_Decls_0 L ((x0, (IntKind.wrap .i64 (x1 + (1 : Int)))), (x2, (x3, (x4 ++ ((Go.AM.DDecl.mk (rdx .str x2 y6) y11 (rdx .unit x3 y7) (0 : Int) (0 : Int) (0 : Int) (0 : Int) (0 : Int) (0 : Int) (0 : Int)) :: ([] : List DDecl))))))
                else none
                else none
                else none
                else none
                else none
    else
      some x4
theorem e_ref08_Decls_0 (L : Lvl) (x0 : (List Int)) (x1 : Int) (x2 : (List ByteArray)) (x3 : (List DUnit)) (x4 : (List DDecl)) : r_ref08_Decls.tree prg0.G (prg0.calls L) (L.P r_ref08_Decls) prg0.N [0, 0, 1, 0, 1, 1, 1, 1] (q_ref08_Decls_0.mk' ((x0, x1), (x2, (x3, x4))) 64) = B_ref08_Decls_0 L x0 x1 x2 x3 x4 := by kernel_rfl
noncomputable def B_ref08_Query (L : Lvl) (x0 : (List Int)) : Option DExpr :=
  if (decide ((((List.length x0) : Nat) : Int) > (0 : Int))) = true then
    if (decide (((0 : Int) ≤ (0 : Int)) ∧ ((0 : Int) < (((List.length x0) : Nat) : Int)))) = true then
    if ((Int.tmod (List.getD x0 (0 : Nat) (dflt (.i .i64))) (2 : Int)) == (0 : Int)) = true then
      if (decide (((0 : Int) ≤ (1 : Int)) ∧ (((1 : Int) ≤ (((List.length x0) : Nat) : Int)) ∧ ((((List.length x0) : Nat) : Int) ≤ (((List.length x0) : Nat) : Int))))) = true then
      (S_ref07_Make L ((List.take (Int.toNat ((((List.length x0) : Nat) : Int) - (1 : Int))) (List.drop (1 : Nat) x0)), (((⟨#[99, 112, 117]⟩ : ByteArray) :: ([] : List ByteArray)), (5 : Int)))).bind fun (y1 : DExpr) =>
        some (Go.AM.eE y1)
      else none
    else
      (S_ref07_Make L (x0, (((⟨#[99, 112, 117]⟩ : ByteArray) :: ((⟨#[109, 101, 109]⟩ : ByteArray) :: ((⟨#[97]⟩ : ByteArray) :: ([] : List ByteArray)))), (5 : Int)))).bind fun (y2 : DExpr) =>
        some (Go.AM.eE y2)
    else none
  else
    (S_ref07_Make L (x0, (((⟨#[99, 112, 117]⟩ : ByteArray) :: ((⟨#[109, 101, 109]⟩ : ByteArray) :: ((⟨#[97]⟩ : ByteArray) :: ([] : List ByteArray)))), (5 : Int)))).bind fun (y3 : DExpr) =>
      some (Go.AM.eE y3)
theorem e_ref08_Query (L : Lvl) (x0 : (List Int)) : r_ref08_Query.tree prg0.G (prg0.calls L) (L.P r_ref08_Query) prg0.N [] (r_ref08_Query.X.inp.mk' x0 64) = B_ref08_Query L x0 := by kernel_rfl
noncomputable def B_ref01_SameInts (L : Lvl) (x0 : (List Int)) (x1 : (List Int)) : Option Bool :=
  if ((((List.length x0) : Nat) : Int) != (((List.length x1) : Nat) : Int)) = true then
    some false
  else
    P_ref01_SameInts_0 L (x0, (x1, (0 : Int)))
theorem e_ref01_SameInts (L : Lvl) (x0 : (List Int)) (x1 : (List Int)) : r_ref01_SameInts.tree prg0.G (prg0.calls L) (L.P r_ref01_SameInts) prg0.N [] (r_ref01_SameInts.X.inp.mk' (x0, x1) 64) = B_ref01_SameInts L x0 x1 := by kernel_rfl
noncomputable def B_ref01_SameInts_0 (L : Lvl) (x0 : (List Int)) (x1 : (List Int)) (x2 : Int) : Option Bool :=
  if (decide (x2 < (((List.length x0) : Nat) : Int))) = true then
    if (decide (((0 : Int) ≤ x2) ∧ (x2 < (((List.length x0) : Nat) : Int)))) = true then
    if (decide (((0 : Int) ≤ x2) ∧ (x2 < (((List.length x1) : Nat) : Int)))) = true then
    if ((rdx (.i .i64) x0 x2) != (rdx (.i .i64) x1 x2)) = true then
      some false
    else
      P_ref01_SameInts_0 L (x0, (x1, (IntKind.wrap .i64 (x2 + (1 : Int)))))
    else none
    else none
  else
    some true
theorem e_ref01_SameInts_0 (L : Lvl) (x0 : (List Int)) (x1 : (List Int)) (x2 : Int) : r_ref01_SameInts.tree prg0.G (prg0.calls L) (L.P r_ref01_SameInts) prg0.N [0, 0, 1, 0, 1, 1] (q_ref01_SameInts_0.mk' (x0, (x1, x2)) 64) = B_ref01_SameInts_0 L x0 x1 x2 := by kernel_rfl
noncomputable def B_plan_Uses (L : Lvl) (x0 : (List DIns)) (x1 : (List DDecl)) : Option (List Int) :=
  (S_plan_Check L x0).bind fun (y2 : Int) =>
    if (y2 != (0 : Int)) = true then
      some ([] : List Int)
    else
      if (decide (((((List.length x1) : Nat) : Int) = (((List.length x1) : Nat) : Int)) ∧ (((0 : Int) ≤ (((List.length x1) : Nat) : Int)) ∧ (((((List.length x1) : Nat) : Int) * (8 : Int)) ≤ (140737488355328 : Int))))) = true then
      P_plan_Uses_0 L ((x1, (x0, ((((List.length x0) : Nat) : Int), (0 : Int)))), (List.replicate (Int.toNat (((List.length x1) : Nat) : Int)) (0 : Int)))
      else none
theorem e_plan_Uses (L : Lvl) (x0 : (List DIns)) (x1 : (List DDecl)) : r_plan_Uses.tree prg0.G (prg0.calls L) (L.P r_plan_Uses) prg0.N [] (r_plan_Uses.X.inp.mk' (x0, x1) 64) = B_plan_Uses L x0 x1 := by kernel_rfl
noncomputable def B_plan_Uses_0 (L : Lvl) (x0 : (List DDecl)) (x1 : (List DIns)) (x2 : Int) (x3 : Int) (x4 : (List Int)) : Option (List Int) :=
  if (decide (x3 < x2)) = true then
    if (decide (((0 : Int) ≤ x3) ∧ (x3 < (((List.length x1) : Nat) : Int)))) = true then
    P_plan_Uses_1 L ((x0, (x1, (x2, (x3, (x0, ((((List.length x0) : Nat) : Int), (0 : Int))))))), ((rdx .ins x1 x3), x4))
    else none
  else
    some x4
theorem e_plan_Uses_0 (L : Lvl) (x0 : (List DDecl)) (x1 : (List DIns)) (x2 : Int) (x3 : Int) (x4 : (List Int)) : r_plan_Uses.tree prg0.G (prg0.calls L) (L.P r_plan_Uses) prg0.N [0, 0, 1, 0, 1, 1, 1] (q_plan_Uses_0.mk' ((x0, (x1, (x2, x3))), x4) 64) = B_plan_Uses_0 L x0 x1 x2 x3 x4 := by kernel_rfl
noncomputable def B_plan_Uses_1 (L : Lvl) (x0 : (List DDecl)) (x1 : (List DIns)) (x2 : Int) (x3 : Int) (x4 : (List DDecl)) (x5 : Int) (x6 : Int) (x7 : DIns) (x8 : (List Int)) : Option (List Int) :=
  if (decide (x6 < x5)) = true then
    if (decide (((0 : Int) ≤ x6) ∧ (x6 < (((List.length x4) : Nat) : Int)))) = true then
    if (x7.kind == (1 : Int)) = true then
      if ((ByteArray.toList x7.name) == (ByteArray.toList (rdx .decl x4 x6).name)) = true then
        (S_labels_Match L ((rdx .decl x4 x6).labels, x7.ms)).bind fun (y9 : Bool) =>
          if y9 = true then
            if (decide (((0 : Int) ≤ x6) ∧ (x6 < (((List.length x8) : Nat) : Int)))) = true then
            if (decide ((Int.toNat x6) < (List.length x8))) = true then
            if (decide (((0 : Int) ≤ x6) ∧ (x6 < (((List.length x8) : Nat) : Int)))) = true then
            if (decide ((Int.toNat x6) < (List.length x8))) = true then
            P_plan_Uses_1 L ((x0, (x1, (x2, (x3, (x4, (x5, (IntKind.wrap .i64 (x6 + (1 : Int))))))))), (x7, (List.set x8 (Int.toNat x6) (IntKind.wrap .i64 ((rdx (.i .i64) x8 x6) + (1 : Int))))))
            else none
            else none
            else none
            else none
          else
            P_plan_Uses_1 L ((x0, (x1, (x2, (x3, (x4, (x5, (IntKind.wrap .i64 (x6 + (1 : Int))))))))), (x7, x8))
      else
        P_plan_Uses_1 L ((x0, (x1, (x2, (x3, (x4, (x5, (IntKind.wrap .i64 (x6 + (1 : Int))))))))), (x7, x8))
    else
      P_plan_Uses_1 L ((x0, (x1, (x2, (x3, (x4, (x5, (IntKind.wrap .i64 (x6 + (1 : Int))))))))), (x7, x8))
    else none
  else
    P_plan_Uses_0 L ((x0, (x1, (x2, (IntKind.wrap .i64 (x3 + (1 : Int)))))), x8)
theorem e_plan_Uses_1 (L : Lvl) (x0 : (List DDecl)) (x1 : (List DIns)) (x2 : Int) (x3 : Int) (x4 : (List DDecl)) (x5 : Int) (x6 : Int) (x7 : DIns) (x8 : (List Int)) : r_plan_Uses.tree prg0.G (prg0.calls L) (L.P r_plan_Uses) prg0.N [0, 0, 1, 1, 0, 0, 1, 1, 0, 0, 1, 0, 1, 1, 1] (q_plan_Uses_1.mk' ((x0, (x1, (x2, (x3, (x4, (x5, x6)))))), (x7, x8)) 64) = B_plan_Uses_1 L x0 x1 x2 x3 x4 x5 x6 x7 x8 := by kernel_rfl
noncomputable def B_ref23_Uses (L : Lvl) (x0 : (List DIns)) (x1 : (List DDecl)) : Option (List Int) :=
  (S_ref23_Check L x0).bind fun (y2 : Int) =>
    if (y2 != (0 : Int)) = true then
      some ([] : List Int)
    else
      P_ref23_Uses_0 L ((x0, (x1, (0 : Int))), ([] : List Int))
theorem e_ref23_Uses (L : Lvl) (x0 : (List DIns)) (x1 : (List DDecl)) : r_ref23_Uses.tree prg0.G (prg0.calls L) (L.P r_ref23_Uses) prg0.N [] (r_ref23_Uses.X.inp.mk' (x0, x1) 64) = B_ref23_Uses L x0 x1 := by kernel_rfl
noncomputable def B_ref23_Uses_0 (L : Lvl) (x0 : (List DIns)) (x1 : (List DDecl)) (x2 : Int) (x3 : (List Int)) : Option (List Int) :=
  if (decide (x2 < (((List.length x1) : Nat) : Int))) = true then
    P_ref23_Uses_1 L ((x0, (x1, (x2, ((0 : Int), (0 : Int))))), x3)
  else
    some x3
theorem e_ref23_Uses_0 (L : Lvl) (x0 : (List DIns)) (x1 : (List DDecl)) (x2 : Int) (x3 : (List Int)) : r_ref23_Uses.tree prg0.G (prg0.calls L) (L.P r_ref23_Uses) prg0.N [0, 0, 1, 0, 1, 1, 1] (q_ref23_Uses_0.mk' ((x0, (x1, x2)), x3) 64) = B_ref23_Uses_0 L x0 x1 x2 x3 := by kernel_rfl
noncomputable def B_ref23_Uses_1 (L : Lvl) (x0 : (List DIns)) (x1 : (List DDecl)) (x2 : Int) (x3 : Int) (x4 : Int) (x5 : (List Int)) : Option (List Int) :=
  if (decide (x4 < (((List.length x0) : Nat) : Int))) = true then
    if (decide (((0 : Int) ≤ x4) ∧ (x4 < (((List.length x0) : Nat) : Int)))) = true then
    if ((rdx .ins x0 x4).kind == (1 : Int)) = true then
      if (decide (((0 : Int) ≤ x4) ∧ (x4 < (((List.length x0) : Nat) : Int)))) = true then
      (S_ref23_node L (rdx .ins x0 x4)).bind fun (y6 : DIns) =>
        if (decide (((0 : Int) ≤ x2) ∧ (x2 < (((List.length x1) : Nat) : Int)))) = true then
        (S_ref08_Selects L ((Go.AM.DExpr.mk y6.kind y6.fn y6.window y6.offset y6.k y6.num y6.name y6.ms y6.by_ ([] : List DExpr)), (rdx .decl x1 x2))).bind fun (y7 : Bool) =>
          if y7 = true then
            P_ref23_Uses_1 L ((x0, (x1, (x2, ((IntKind.wrap .i64 (x3 + (1 : Int))), (IntKind.wrap .i64 (x4 + (1 : Int))))))), x5)
          else
            P_ref23_Uses_1 L ((x0, (x1, (x2, (x3, (IntKind.wrap .i64 (x4 + (1 : Int))))))), x5)
        else none
      else none
    else
      P_ref23_Uses_1 L ((x0, (x1, (x2, (x3, (IntKind.wrap .i64 (x4 + (1 : Int))))))), x5)
    else none
  else
    if (true && (decide ((((List.length x5) + (List.length (x3 :: ([] : List Int)))) * (8 : Nat)) ≤ (140737488355328 : Nat)))) = true then
    P_ref23_Uses_0 L ((x0, (x1, (IntKind.wrap .i64 (x2 + (1 : Int))))), (x5 ++ (x3 :: ([] : List Int))))
    else none
theorem e_ref23_Uses_1 (L : Lvl) (x0 : (List DIns)) (x1 : (List DDecl)) (x2 : Int) (x3 : Int) (x4 : Int) (x5 : (List Int)) : r_ref23_Uses.tree prg0.G (prg0.calls L) (L.P r_ref23_Uses) prg0.N [0, 0, 1, 0, 1, 0, 0, 1, 0, 0, 1, 0, 1, 1, 1] (q_ref23_Uses_1.mk' ((x0, (x1, (x2, (x3, x4)))), x5) 64) = B_ref23_Uses_1 L x0 x1 x2 x3 x4 x5 := by kernel_rfl
noncomputable def B_ref23_Encode (L : Lvl) (x0 : (List DIns)) : Option ((List Int) × Int) :=
  (S_ref23_Check L x0).bind fun (y1 : Int) =>
    if (y1 != (0 : Int)) = true then
      some (([] : List Int), y1)
    else
      (S_ref23_write L x0).bind fun (y2 : (List Int)) =>
        some (y2, (0 : Int))
theorem e_ref23_Encode (L : Lvl) (x0 : (List DIns)) : r_ref23_Encode.tree prg0.G (prg0.calls L) (L.P r_ref23_Encode) prg0.N [] (r_ref23_Encode.X.inp.mk' x0 64) = B_ref23_Encode L x0 := by kernel_rfl
noncomputable def B_plan_Tree (L : Lvl) (x0 : (List DIns)) : Option (DExpr × Int) :=
  if (decide ((((List.length x0) : Nat) : Int) > (200 : Int))) = true then
    some ((Go.AM.DExpr.mk (0 : Int) (0 : Int) (0 : Int) (0 : Int) (0 : Int) (Go.AM.DFrac.mk (0 : Int) (0 : Int)) zeroS ([] : List DMatcher) ([] : List ByteArray) ([] : List DExpr)), (4 : Int))
  else
    P_plan_Tree_0 L ((x0, ((((List.length x0) : Nat) : Int), (0 : Int))), (((0 : Int), ((0 : Int), ((0 : Int), ((0 : Int), ((0 : Int), ((0 : Int), ((0 : Int), zeroS))))))), (([] : List DMatcher), (([] : List ByteArray), (([] : List DExpr), ([] : List DExpr))))))
theorem e_plan_Tree (L : Lvl) (x0 : (List DIns)) : r_plan_Tree.tree prg0.G (prg0.calls L) (L.P r_plan_Tree) prg0.N [] (r_plan_Tree.X.inp.mk' x0 64) = B_plan_Tree L x0 := by kernel_rfl
noncomputable def B_plan_Tree_0 (L : Lvl) (x0 : (List DIns)) (x1 : Int) (x2 : Int) (x3 : Int) (x4 : Int) (x5 : Int) (x6 : Int) (x7 : Int) (x8 : Int) (x9 : Int) (x10 : ByteArray) (x11 : (List DMatcher)) (x12 : (List ByteArray)) (x13 : (List DExpr)) (x14 : (List DExpr)) : Option (DExpr × Int) :=
  if (decide (x2 < x1)) = true then
    if (decide (((0 : Int) ≤ x2) ∧ (x2 < (((List.length x0) : Nat) : Int)))) = true then
    if ((rdx .ins x0 x2).kind == (0 : Int)) = true then
      if ((rdx .ins x0 x2).kind == (0 : Int)) = true then
        if (decide ((IntKind.wrap .i64 ((((List.length x14) : Nat) : Int) - (0 : Int))) < (0 : Int))) = true then
          some ((Go.AM.DExpr.mk (0 : Int) (0 : Int) (0 : Int) (0 : Int) (0 : Int) (Go.AM.DFrac.mk (0 : Int) (0 : Int)) zeroS ([] : List DMatcher) ([] : List ByteArray) ([] : List DExpr)), (1 : Int))
        else
          if (decide (((List.length (rdx .ins x0 x2).ms) * (40 : Nat)) ≤ (140737488355328 : Nat))) = true then
          if (decide (((List.length (rdx .ins x0 x2).by_) * (16 : Nat)) ≤ (140737488355328 : Nat))) = true then
          if (decide (((0 : Int) ≤ (IntKind.wrap .i64 ((((List.length x14) : Nat) : Int) - (0 : Int)))) ∧ (((IntKind.wrap .i64 ((((List.length x14) : Nat) : Int) - (0 : Int))) ≤ (((List.length x14) : Nat) : Int)) ∧ ((((List.length x14) : Nat) : Int) ≤ (((List.length x14) : Nat) : Int))))) = true then
          if (decide (((List.length (List.take (Int.toNat ((((List.length x14) : Nat) : Int) - (IntKind.wrap .i64 ((((List.length x14) : Nat) : Int) - (0 : Int))))) (List.drop (Int.toNat (IntKind.wrap .i64 ((((List.length x14) : Nat) : Int) - (0 : Int)))) x14))) * (144 : Nat)) ≤ (140737488355328 : Nat))) = true then
          if (decide (((0 : Int) ≤ (0 : Int)) ∧ (((0 : Int) ≤ (IntKind.wrap .i64 ((((List.length x14) : Nat) : Int) - (0 : Int)))) ∧ ((IntKind.wrap .i64 ((((List.length x14) : Nat) : Int) - (0 : Int))) ≤ (((List.length x14) : Nat) : Int))))) = true then
          if ((decide ((Int.toNat ((IntKind.wrap .i64 ((((List.length x14) : Nat) : Int) - (0 : Int))) - (0 : Int))) ≤ (List.length x14))) && (decide ((((List.length (List.take (Int.toNat ((IntKind.wrap .i64 ((((List.length x14) : Nat) : Int) - (0 : Int))) - (0 : Int))) x14)) + (List.length ((Go.AM.DExpr.mk (rdx .ins x0 x2).kind (rdx .ins x0 x2).fn (rdx .ins x0 x2).window (rdx .ins x0 x2).offset (rdx .ins x0 x2).k (rdx .ins x0 x2).num (rdx .ins x0 x2).name (rdx .ins x0 x2).ms (rdx .ins x0 x2).by_ (List.take (Int.toNat ((((List.length x14) : Nat) : Int) - (IntKind.wrap .i64 ((((List.length x14) : Nat) : Int) - (0 : Int))))) (List.drop (Int.toNat (IntKind.wrap .i64 ((((List.length x14) : Nat) : Int) - (0 : Int)))) x14))) :: ([] : List DExpr)))) * (144 : Nat)) ≤ (140737488355328 : Nat)))) = true then
          P_plan_Tree_0 L ((x0, (x1, (IntKind.wrap .i64 (x2 + (1 : Int))))), ((x3, (x4, (x5, (x6, (x7, (x8, (x9, x10))))))), (x11, (x12, (x13, ((List.take (Int.toNat ((IntKind.wrap .i64 ((((List.length x14) : Nat) : Int) - (0 : Int))) - (0 : Int))) x14) ++ ((Go.AM.DExpr.mk (rdx .ins x0 x2).kind (rdx .ins x0 x2).fn (rdx .ins x0 x2).window (rdx .ins x0 x2).offset (rdx .ins x0 x2).k (rdx .ins x0 x2).num (rdx .ins x0 x2).name (rdx .ins x0 x2).ms (rdx .ins x0 x2).by_ (List.take (Int.toNat ((((List.length x14) : Nat) : Int) - (IntKind.wrap .i64 ((((List.length x14) : Nat) : Int) - (0 : Int))))) (List.drop (Int.toNat (IntKind.wrap .i64 ((((List.length x14) : Nat) : Int) - (0 : Int)))) x14))) :: ([] : List DExpr))))))))
          else none
          else none
          else none
          else none
          else none
          else none
      else
        if ((rdx .ins x0 x2).kind == (2 : Int)) = true then
          if (decide ((IntKind.wrap .i64 ((((List.length x14) : Nat) : Int) - (1 : Int))) < (0 : Int))) = true then
            some ((Go.AM.DExpr.mk (0 : Int) (0 : Int) (0 : Int) (0 : Int) (0 : Int) (Go.AM.DFrac.mk (0 : Int) (0 : Int)) zeroS ([] : List DMatcher) ([] : List ByteArray) ([] : List DExpr)), (1 : Int))
          else
            if (decide (((List.length (rdx .ins x0 x2).ms) * (40 : Nat)) ≤ (140737488355328 : Nat))) = true then
            if (decide (((List.length (rdx .ins x0 x2).by_) * (16 : Nat)) ≤ (140737488355328 : Nat))) = true then
            if (decide (((0 : Int) ≤ (IntKind.wrap .i64 ((((List.length x14) : Nat) : Int) - (1 : Int)))) ∧ (((IntKind.wrap .i64 ((((List.length x14) : Nat) : Int) - (1 : Int))) ≤ (((List.length x14) : Nat) : Int)) ∧ ((((List.length x14) : Nat) : Int) ≤ (((List.length x14) : Nat) : Int))))) = true then
            if (decide (((List.length (List.take (Int.toNat ((((List.length x14) : Nat) : Int) - (IntKind.wrap .i64 ((((List.length x14) : Nat) : Int) - (1 : Int))))) (List.drop (Int.toNat (IntKind.wrap .i64 ((((List.length x14) : Nat) : Int) - (1 : Int)))) x14))) * (144 : Nat)) ≤ (140737488355328 : Nat))) = true then
            if (decide (((0 : Int) ≤ (0 : Int)) ∧ (((0 : Int) ≤ (IntKind.wrap .i64 ((((List.length x14) : Nat) : Int) - (1 : Int)))) ∧ ((IntKind.wrap .i64 ((((List.length x14) : Nat) : Int) - (1 : Int))) ≤ (((List.length x14) : Nat) : Int))))) = true then
            if ((decide ((Int.toNat ((IntKind.wrap .i64 ((((List.length x14) : Nat) : Int) - (1 : Int))) - (0 : Int))) ≤ (List.length x14))) && (decide ((((List.length (List.take (Int.toNat ((IntKind.wrap .i64 ((((List.length x14) : Nat) : Int) - (1 : Int))) - (0 : Int))) x14)) + (List.length ((Go.AM.DExpr.mk (rdx .ins x0 x2).kind (rdx .ins x0 x2).fn (rdx .ins x0 x2).window (rdx .ins x0 x2).offset (rdx .ins x0 x2).k (rdx .ins x0 x2).num (rdx .ins x0 x2).name (rdx .ins x0 x2).ms (rdx .ins x0 x2).by_ (List.take (Int.toNat ((((List.length x14) : Nat) : Int) - (IntKind.wrap .i64 ((((List.length x14) : Nat) : Int) - (1 : Int))))) (List.drop (Int.toNat (IntKind.wrap .i64 ((((List.length x14) : Nat) : Int) - (1 : Int)))) x14))) :: ([] : List DExpr)))) * (144 : Nat)) ≤ (140737488355328 : Nat)))) = true then
            P_plan_Tree_0 L ((x0, (x1, (IntKind.wrap .i64 (x2 + (1 : Int))))), ((x3, (x4, (x5, (x6, (x7, (x8, (x9, x10))))))), (x11, (x12, (x13, ((List.take (Int.toNat ((IntKind.wrap .i64 ((((List.length x14) : Nat) : Int) - (1 : Int))) - (0 : Int))) x14) ++ ((Go.AM.DExpr.mk (rdx .ins x0 x2).kind (rdx .ins x0 x2).fn (rdx .ins x0 x2).window (rdx .ins x0 x2).offset (rdx .ins x0 x2).k (rdx .ins x0 x2).num (rdx .ins x0 x2).name (rdx .ins x0 x2).ms (rdx .ins x0 x2).by_ (List.take (Int.toNat ((((List.length x14) : Nat) : Int) - (IntKind.wrap .i64 ((((List.length x14) : Nat) : Int) - (1 : Int))))) (List.drop (Int.toNat (IntKind.wrap .i64 ((((List.length x14) : Nat) : Int) - (1 : Int)))) x14))) :: ([] : List DExpr))))))))
            else none
            else none
            else none
            else none
            else none
            else none
        else
          if ((rdx .ins x0 x2).kind == (3 : Int)) = true then
            if (decide ((IntKind.wrap .i64 ((((List.length x14) : Nat) : Int) - (2 : Int))) < (0 : Int))) = true then
              some ((Go.AM.DExpr.mk (0 : Int) (0 : Int) (0 : Int) (0 : Int) (0 : Int) (Go.AM.DFrac.mk (0 : Int) (0 : Int)) zeroS ([] : List DMatcher) ([] : List ByteArray) ([] : List DExpr)), (1 : Int))
            else
              if (decide (((List.length (rdx .ins x0 x2).ms) * (40 : Nat)) ≤ (140737488355328 : Nat))) = true then
              if (decide (((List.length (rdx .ins x0 x2).by_) * (16 : Nat)) ≤ (140737488355328 : Nat))) = true then
              if (decide (((0 : Int) ≤ (IntKind.wrap .i64 ((((List.length x14) : Nat) : Int) - (2 : Int)))) ∧ (((IntKind.wrap .i64 ((((List.length x14) : Nat) : Int) - (2 : Int))) ≤ (((List.length x14) : Nat) : Int)) ∧ ((((List.length x14) : Nat) : Int) ≤ (((List.length x14) : Nat) : Int))))) = true then
              if (decide (((List.length (List.take (Int.toNat ((((List.length x14) : Nat) : Int) - (IntKind.wrap .i64 ((((List.length x14) : Nat) : Int) - (2 : Int))))) (List.drop (Int.toNat (IntKind.wrap .i64 ((((List.length x14) : Nat) : Int) - (2 : Int)))) x14))) * (144 : Nat)) ≤ (140737488355328 : Nat))) = true then
              if (decide (((0 : Int) ≤ (0 : Int)) ∧ (((0 : Int) ≤ (IntKind.wrap .i64 ((((List.length x14) : Nat) : Int) - (2 : Int)))) ∧ ((IntKind.wrap .i64 ((((List.length x14) : Nat) : Int) - (2 : Int))) ≤ (((List.length x14) : Nat) : Int))))) = true then
              if ((decide ((Int.toNat ((IntKind.wrap .i64 ((((List.length x14) : Nat) : Int) - (2 : Int))) - (0 : Int))) ≤ (List.length x14))) && (decide ((((List.length (List.take (Int.toNat ((IntKind.wrap .i64 ((((List.length x14) : Nat) : Int) - (2 : Int))) - (0 : Int))) x14)) + (List.length ((Go.AM.DExpr.mk (rdx .ins x0 x2).kind (rdx .ins x0 x2).fn (rdx .ins x0 x2).window (rdx .ins x0 x2).offset (rdx .ins x0 x2).k (rdx .ins x0 x2).num (rdx .ins x0 x2).name (rdx .ins x0 x2).ms (rdx .ins x0 x2).by_ (List.take (Int.toNat ((((List.length x14) : Nat) : Int) - (IntKind.wrap .i64 ((((List.length x14) : Nat) : Int) - (2 : Int))))) (List.drop (Int.toNat (IntKind.wrap .i64 ((((List.length x14) : Nat) : Int) - (2 : Int)))) x14))) :: ([] : List DExpr)))) * (144 : Nat)) ≤ (140737488355328 : Nat)))) = true then
              P_plan_Tree_0 L ((x0, (x1, (IntKind.wrap .i64 (x2 + (1 : Int))))), ((x3, (x4, (x5, (x6, (x7, (x8, (x9, x10))))))), (x11, (x12, (x13, ((List.take (Int.toNat ((IntKind.wrap .i64 ((((List.length x14) : Nat) : Int) - (2 : Int))) - (0 : Int))) x14) ++ ((Go.AM.DExpr.mk (rdx .ins x0 x2).kind (rdx .ins x0 x2).fn (rdx .ins x0 x2).window (rdx .ins x0 x2).offset (rdx .ins x0 x2).k (rdx .ins x0 x2).num (rdx .ins x0 x2).name (rdx .ins x0 x2).ms (rdx .ins x0 x2).by_ (List.take (Int.toNat ((((List.length x14) : Nat) : Int) - (IntKind.wrap .i64 ((((List.length x14) : Nat) : Int) - (2 : Int))))) (List.drop (Int.toNat (IntKind.wrap .i64 ((((List.length x14) : Nat) : Int) - (2 : Int)))) x14))) :: ([] : List DExpr))))))))
              else none
              else none
              else none
              else none
              else none
              else none
          else
            some ((Go.AM.DExpr.mk (0 : Int) (0 : Int) (0 : Int) (0 : Int) (0 : Int) (Go.AM.DFrac.mk (0 : Int) (0 : Int)) zeroS ([] : List DMatcher) ([] : List ByteArray) ([] : List DExpr)), (1 : Int))
    else
      if ((rdx .ins x0 x2).kind == (1 : Int)) = true then
        if (decide ((IntKind.wrap .i64 ((((List.length x14) : Nat) : Int) - (0 : Int))) < (0 : Int))) = true then
          some ((Go.AM.DExpr.mk (0 : Int) (0 : Int) (0 : Int) (0 : Int) (0 : Int) (Go.AM.DFrac.mk (0 : Int) (0 : Int)) zeroS ([] : List DMatcher) ([] : List ByteArray) ([] : List DExpr)), (1 : Int))
        else
          if (decide (((List.length (rdx .ins x0 x2).ms) * (40 : Nat)) ≤ (140737488355328 : Nat))) = true then
          if (decide (((List.length (rdx .ins x0 x2).by_) * (16 : Nat)) ≤ (140737488355328 : Nat))) = true then
          if (decide (((0 : Int) ≤ (IntKind.wrap .i64 ((((List.length x14) : Nat) : Int) - (0 : Int)))) ∧ (((IntKind.wrap .i64 ((((List.length x14) : Nat) : Int) - (0 : Int))) ≤ (((List.length x14) : Nat) : Int)) ∧ ((((List.length x14) : Nat) : Int) ≤ (((List.length x14) : Nat) : Int))))) = true then
          if (decide (((List.length (List.take (Int.toNat ((((List.length x14) : Nat) : Int) - (IntKind.wrap .i64 ((((List.length x14) : Nat) : Int) - (0 : Int))))) (List.drop (Int.toNat (IntKind.wrap .i64 ((((List.length x14) : Nat) : Int) - (0 : Int)))) x14))) * (144 : Nat)) ≤ (140737488355328 : Nat))) = true then
          if (decide (((0 : Int) ≤ (0 : Int)) ∧ (((0 : Int) ≤ (IntKind.wrap .i64 ((((List.length x14) : Nat) : Int) - (0 : Int)))) ∧ ((IntKind.wrap .i64 ((((List.length x14) : Nat) : Int) - (0 : Int))) ≤ (((List.length x14) : Nat) : Int))))) = true then
          if ((decide ((Int.toNat ((IntKind.wrap .i64 ((((List.length x14) : Nat) : Int) - (0 : Int))) - (0 : Int))) ≤ (List.length x14))) && (decide ((((List.length (List.take (Int.toNat ((IntKind.wrap .i64 ((((List.length x14) : Nat) : Int) - (0 : Int))) - (0 : Int))) x14)) + (List.length ((Go.AM.DExpr.mk (rdx .ins x0 x2).kind (rdx .ins x0 x2).fn (rdx .ins x0 x2).window (rdx .ins x0 x2).offset (rdx .ins x0 x2).k (rdx .ins x0 x2).num (rdx .ins x0 x2).name (rdx .ins x0 x2).ms (rdx .ins x0 x2).by_ (List.take (Int.toNat ((((List.length x14) : Nat) : Int) - (IntKind.wrap .i64 ((((List.length x14) : Nat) : Int) - (0 : Int))))) (List.drop (Int.toNat (IntKind.wrap .i64 ((((List.length x14) : Nat) : Int) - (0 : Int)))) x14))) :: ([] : List DExpr)))) * (144 : Nat)) ≤ (140737488355328 : Nat)))) = true then
          P_plan_Tree_0 L ((x0, (x1, (IntKind.wrap .i64 (x2 + (1 : Int))))), ((x3, (x4, (x5, (x6, (x7, (x8, (x9, x10))))))), (x11, (x12, (x13, ((List.take (Int.toNat ((IntKind.wrap .i64 ((((List.length x14) : Nat) : Int) - (0 : Int))) - (0 : Int))) x14) ++ ((Go.AM.DExpr.mk (rdx .ins x0 x2).kind (rdx .ins x0 x2).fn (rdx .ins x0 x2).window (rdx .ins x0 x2).offset (rdx .ins x0 x2).k (rdx .ins x0 x2).num (rdx .ins x0 x2).name (rdx .ins x0 x2).ms (rdx .ins x0 x2).by_ (List.take (Int.toNat ((((List.length x14) : Nat) : Int) - (IntKind.wrap .i64 ((((List.length x14) : Nat) : Int) - (0 : Int))))) (List.drop (Int.toNat (IntKind.wrap .i64 ((((List.length x14) : Nat) : Int) - (0 : Int)))) x14))) :: ([] : List DExpr))))))))
          else none
          else none
          else none
          else none
          else none
          else none
      else
        if ((rdx .ins x0 x2).kind == (2 : Int)) = true then
          if (decide ((IntKind.wrap .i64 ((((List.length x14) : Nat) : Int) - (1 : Int))) < (0 : Int))) = true then
            some ((Go.AM.DExpr.mk (0 : Int) (0 : Int) (0 : Int) (0 : Int) (0 : Int) (Go.AM.DFrac.mk (0 : Int) (0 : Int)) zeroS ([] : List DMatcher) ([] : List ByteArray) ([] : List DExpr)), (1 : Int))
          else
            if (decide (((List.length (rdx .ins x0 x2).ms) * (40 : Nat)) ≤ (140737488355328 : Nat))) = true then
            if (decide (((List.length (rdx .ins x0 x2).by_) * (16 : Nat)) ≤ (140737488355328 : Nat))) = true then
            if (decide (((0 : Int) ≤ (IntKind.wrap .i64 ((((List.length x14) : Nat) : Int) - (1 : Int)))) ∧ (((IntKind.wrap .i64 ((((List.length x14) : Nat) : Int) - (1 : Int))) ≤ (((List.length x14) : Nat) : Int)) ∧ ((((List.length x14) : Nat) : Int) ≤ (((List.length x14) : Nat) : Int))))) = true then
            if (decide (((List.length (List.take (Int.toNat ((((List.length x14) : Nat) : Int) - (IntKind.wrap .i64 ((((List.length x14) : Nat) : Int) - (1 : Int))))) (List.drop (Int.toNat (IntKind.wrap .i64 ((((List.length x14) : Nat) : Int) - (1 : Int)))) x14))) * (144 : Nat)) ≤ (140737488355328 : Nat))) = true then
            if (decide (((0 : Int) ≤ (0 : Int)) ∧ (((0 : Int) ≤ (IntKind.wrap .i64 ((((List.length x14) : Nat) : Int) - (1 : Int)))) ∧ ((IntKind.wrap .i64 ((((List.length x14) : Nat) : Int) - (1 : Int))) ≤ (((List.length x14) : Nat) : Int))))) = true then
            if ((decide ((Int.toNat ((IntKind.wrap .i64 ((((List.length x14) : Nat) : Int) - (1 : Int))) - (0 : Int))) ≤ (List.length x14))) && (decide ((((List.length (List.take (Int.toNat ((IntKind.wrap .i64 ((((List.length x14) : Nat) : Int) - (1 : Int))) - (0 : Int))) x14)) + (List.length ((Go.AM.DExpr.mk (rdx .ins x0 x2).kind (rdx .ins x0 x2).fn (rdx .ins x0 x2).window (rdx .ins x0 x2).offset (rdx .ins x0 x2).k (rdx .ins x0 x2).num (rdx .ins x0 x2).name (rdx .ins x0 x2).ms (rdx .ins x0 x2).by_ (List.take (Int.toNat ((((List.length x14) : Nat) : Int) - (IntKind.wrap .i64 ((((List.length x14) : Nat) : Int) - (1 : Int))))) (List.drop (Int.toNat (IntKind.wrap .i64 ((((List.length x14) : Nat) : Int) - (1 : Int)))) x14))) :: ([] : List DExpr)))) * (144 : Nat)) ≤ (140737488355328 : Nat)))) = true then
            P_plan_Tree_0 L ((x0, (x1, (IntKind.wrap .i64 (x2 + (1 : Int))))), ((x3, (x4, (x5, (x6, (x7, (x8, (x9, x10))))))), (x11, (x12, (x13, ((List.take (Int.toNat ((IntKind.wrap .i64 ((((List.length x14) : Nat) : Int) - (1 : Int))) - (0 : Int))) x14) ++ ((Go.AM.DExpr.mk (rdx .ins x0 x2).kind (rdx .ins x0 x2).fn (rdx .ins x0 x2).window (rdx .ins x0 x2).offset (rdx .ins x0 x2).k (rdx .ins x0 x2).num (rdx .ins x0 x2).name (rdx .ins x0 x2).ms (rdx .ins x0 x2).by_ (List.take (Int.toNat ((((List.length x14) : Nat) : Int) - (IntKind.wrap .i64 ((((List.length x14) : Nat) : Int) - (1 : Int))))) (List.drop (Int.toNat (IntKind.wrap .i64 ((((List.length x14) : Nat) : Int) - (1 : Int)))) x14))) :: ([] : List DExpr))))))))
            else none
            else none
            else none
            else none
            else none
            else none
        else
          if ((rdx .ins x0 x2).kind == (3 : Int)) = true then
            if (decide ((IntKind.wrap .i64 ((((List.length x14) : Nat) : Int) - (2 : Int))) < (0 : Int))) = true then
              some ((Go.AM.DExpr.mk (0 : Int) (0 : Int) (0 : Int) (0 : Int) (0 : Int) (Go.AM.DFrac.mk (0 : Int) (0 : Int)) zeroS ([] : List DMatcher) ([] : List ByteArray) ([] : List DExpr)), (1 : Int))
            else
              if (decide (((List.length (rdx .ins x0 x2).ms) * (40 : Nat)) ≤ (140737488355328 : Nat))) = true then
              if (decide (((List.length (rdx .ins x0 x2).by_) * (16 : Nat)) ≤ (140737488355328 : Nat))) = true then
              if (decide (((0 : Int) ≤ (IntKind.wrap .i64 ((((List.length x14) : Nat) : Int) - (2 : Int)))) ∧ (((IntKind.wrap .i64 ((((List.length x14) : Nat) : Int) - (2 : Int))) ≤ (((List.length x14) : Nat) : Int)) ∧ ((((List.length x14) : Nat) : Int) ≤ (((List.length x14) : Nat) : Int))))) = true then
              if (decide (((List.length (List.take (Int.toNat ((((List.length x14) : Nat) : Int) - (IntKind.wrap .i64 ((((List.length x14) : Nat) : Int) - (2 : Int))))) (List.drop (Int.toNat (IntKind.wrap .i64 ((((List.length x14) : Nat) : Int) - (2 : Int)))) x14))) * (144 : Nat)) ≤ (140737488355328 : Nat))) = true then
              if (decide (((0 : Int) ≤ (0 : Int)) ∧ (((0 : Int) ≤ (IntKind.wrap .i64 ((((List.length x14) : Nat) : Int) - (2 : Int)))) ∧ ((IntKind.wrap .i64 ((((List.length x14) : Nat) : Int) - (2 : Int))) ≤ (((List.length x14) : Nat) : Int))))) = true then
              if ((decide ((Int.toNat ((IntKind.wrap .i64 ((((List.length x14) : Nat) : Int) - (2 : Int))) - (0 : Int))) ≤ (List.length x14))) && (decide ((((List.length (List.take (Int.toNat ((IntKind.wrap .i64 ((((List.length x14) : Nat) : Int) - (2 : Int))) - (0 : Int))) x14)) + (List.length ((Go.AM.DExpr.mk (rdx .ins x0 x2).kind (rdx .ins x0 x2).fn (rdx .ins x0 x2).window (rdx .ins x0 x2).offset (rdx .ins x0 x2).k (rdx .ins x0 x2).num (rdx .ins x0 x2).name (rdx .ins x0 x2).ms (rdx .ins x0 x2).by_ (List.take (Int.toNat ((((List.length x14) : Nat) : Int) - (IntKind.wrap .i64 ((((List.length x14) : Nat) : Int) - (2 : Int))))) (List.drop (Int.toNat (IntKind.wrap .i64 ((((List.length x14) : Nat) : Int) - (2 : Int)))) x14))) :: ([] : List DExpr)))) * (144 : Nat)) ≤ (140737488355328 : Nat)))) = true then
              P_plan_Tree_0 L ((x0, (x1, (IntKind.wrap .i64 (x2 + (1 : Int))))), ((x3, (x4, (x5, (x6, (x7, (x8, (x9, x10))))))), (x11, (x12, (x13, ((List.take (Int.toNat ((IntKind.wrap .i64 ((((List.length x14) : Nat) : Int) - (2 : Int))) - (0 : Int))) x14) ++ ((Go.AM.DExpr.mk (rdx .ins x0 x2).kind (rdx .ins x0 x2).fn (rdx .ins x0 x2).window (rdx .ins x0 x2).offset (rdx .ins x0 x2).k (rdx .ins x0 x2).num (rdx .ins x0 x2).name (rdx .ins x0 x2).ms (rdx .ins x0 x2).by_ (List.take (Int.toNat ((((List.length x14) : Nat) : Int) - (IntKind.wrap .i64 ((((List.length x14) : Nat) : Int) - (2 : Int))))) (List.drop (Int.toNat (IntKind.wrap .i64 ((((List.length x14) : Nat) : Int) - (2 : Int)))) x14))) :: ([] : List DExpr))))))))
              else none
              else none
              else none
              else none
              else none
              else none
          else
            some ((Go.AM.DExpr.mk (0 : Int) (0 : Int) (0 : Int) (0 : Int) (0 : Int) (Go.AM.DFrac.mk (0 : Int) (0 : Int)) zeroS ([] : List DMatcher) ([] : List ByteArray) ([] : List DExpr)), (1 : Int))
    else none
  else
    if ((((List.length x14) : Nat) : Int) != (1 : Int)) = true then
      some ((Go.AM.DExpr.mk (0 : Int) (0 : Int) (0 : Int) (0 : Int) (0 : Int) (Go.AM.DFrac.mk (0 : Int) (0 : Int)) zeroS ([] : List DMatcher) ([] : List ByteArray) ([] : List DExpr)), (1 : Int))
    else
      if (decide (((0 : Int) ≤ (0 : Int)) ∧ ((0 : Int) < (((List.length x14) : Nat) : Int)))) = true then
      if (decide ((0 : Nat) < (List.length x14))) = true then
      (S_parser_Valid L (Go.AM.eE (List.getD x14 (0 : Nat) (dflt .expr)))).bind fun (y15 : Int) =>
        if (y15 != (0 : Int)) = true then
          some ((Go.AM.DExpr.mk (0 : Int) (0 : Int) (0 : Int) (0 : Int) (0 : Int) (Go.AM.DFrac.mk (0 : Int) (0 : Int)) zeroS ([] : List DMatcher) ([] : List ByteArray) ([] : List DExpr)), y15)
        else
          if (decide (((0 : Int) ≤ (0 : Int)) ∧ ((0 : Int) < (((List.length x14) : Nat) : Int)))) = true then
          if (decide ((0 : Nat) < (List.length x14))) = true then
          some ((Go.AM.eE (List.getD x14 (0 : Nat) (dflt .expr))), (0 : Int))
          else none
          else none
      else none
      else none
theorem e_plan_Tree_0 (L : Lvl) (x0 : (List DIns)) (x1 : Int) (x2 : Int) (x3 : Int) (x4 : Int) (x5 : Int) (x6 : Int) (x7 : Int) (x8 : Int) (x9 : Int) (x10 : ByteArray) (x11 : (List DMatcher)) (x12 : (List ByteArray)) (x13 : (List DExpr)) (x14 : (List DExpr)) : r_plan_Tree.tree prg0.G (prg0.calls L) (L.P r_plan_Tree) prg0.N [0, 0, 1, 0, 1, 1, 1] (q_plan_Tree_0.mk' ((x0, (x1, x2)), ((x3, (x4, (x5, (x6, (x7, (x8, (x9, x10))))))), (x11, (x12, (x13, x14))))) 64) = B_plan_Tree_0 L x0 x1 x2 x3 x4 x5 x6 x7 x8 x9 x10 x11 x12 x13 x14 := by kernel_rfl
noncomputable def B_plan_Encode (L : Lvl) (x0 : (List DIns)) : Option ((List Int) × Int) :=
  (S_plan_Check L x0).bind fun (y1 : Int) =>
    if (y1 != (0 : Int)) = true then
      some (([] : List Int), y1)
    else
      (S_plan_ints L (((((List.length x0) : Nat) : Int) :: ([] : List Int)), ([] : List Int))).bind fun (y2 : (List Int)) =>
        P_plan_Encode_0 L ((x0, ((((List.length x0) : Nat) : Int), (0 : Int))), y2)
theorem e_plan_Encode (L : Lvl) (x0 : (List DIns)) : r_plan_Encode.tree prg0.G (prg0.calls L) (L.P r_plan_Encode) prg0.N [] (r_plan_Encode.X.inp.mk' x0 64) = B_plan_Encode L x0 := by kernel_rfl
noncomputable def B_plan_Encode_0 (L : Lvl) (x0 : (List DIns)) (x1 : Int) (x2 : Int) (x3 : (List Int)) : Option ((List Int) × Int) :=
  if (decide (x2 < x1)) = true then
    if (decide (((0 : Int) ≤ x2) ∧ (x2 < (((List.length x0) : Nat) : Int)))) = true then
    (S_plan_ints L (((rdx .ins x0 x2).kind :: ((rdx .ins x0 x2).fn :: ((rdx .ins x0 x2).window :: ((rdx .ins x0 x2).offset :: ((rdx .ins x0 x2).k :: ((rdx .ins x0 x2).num.num :: ((rdx .ins x0 x2).num.den :: ([] : List Int)))))))), x3)).bind fun (y4 : (List Int)) =>
      (S_wire_Writer_Text L ((rdx .ins x0 x2).name, y4)).bind fun (y5 : (List Int)) =>
        (S_plan_ints L (((((List.length (rdx .ins x0 x2).ms) : Nat) : Int) :: ([] : List Int)), y5)).bind fun (y6 : (List Int)) =>
          P_plan_Encode_1 L ((x0, (x1, (x2, ((rdx .ins x0 x2).ms, ((((List.length (rdx .ins x0 x2).ms) : Nat) : Int), (0 : Int)))))), ((rdx .ins x0 x2), y6))
    else none
  else
    (S_wire_Writer_Done L x3).bind fun ((y7, y8) : ((List Int) × (List Int))) =>
      some (y7, (0 : Int))
theorem e_plan_Encode_0 (L : Lvl) (x0 : (List DIns)) (x1 : Int) (x2 : Int) (x3 : (List Int)) : r_plan_Encode.tree prg0.G (prg0.calls L) (L.P r_plan_Encode) prg0.N [0, 0, 1, 0, 1, 1, 1, 1] (q_plan_Encode_0.mk' ((x0, (x1, x2)), x3) 64) = B_plan_Encode_0 L x0 x1 x2 x3 := by kernel_rfl
noncomputable def B_plan_Encode_1 (L : Lvl) (x0 : (List DIns)) (x1 : Int) (x2 : Int) (x3 : (List DMatcher)) (x4 : Int) (x5 : Int) (x6 : DIns) (x7 : (List Int)) : Option ((List Int) × Int) :=
  if (decide (x5 < x4)) = true then
    if (decide (((0 : Int) ≤ x5) ∧ (x5 < (((List.length x3) : Nat) : Int)))) = true then
    (S_wire_Writer_Text L ((rdx .matcher x3 x5).name, x7)).bind fun (y8 : (List Int)) =>
      (S_plan_ints L (((rdx .matcher x3 x5).kind :: ([] : List Int)), y8)).bind fun (y9 : (List Int)) =>
        (S_wire_Writer_Text L ((rdx .matcher x3 x5).value, y9)).bind fun (y10 : (List Int)) =>
          P_plan_Encode_1 L ((x0, (x1, (x2, (x3, (x4, (IntKind.wrap .i64 (x5 + (1 : Int)))))))), (x6, y10))
    else none
  else
    (S_plan_ints L (((((List.length x6.by_) : Nat) : Int) :: ([] : List Int)), x7)).bind fun (y11 : (List Int)) =>
      P_plan_Encode_2 L ((x0, (x1, (x2, (x6.by_, ((((List.length x6.by_) : Nat) : Int), (0 : Int)))))), y11)
theorem e_plan_Encode_1 (L : Lvl) (x0 : (List DIns)) (x1 : Int) (x2 : Int) (x3 : (List DMatcher)) (x4 : Int) (x5 : Int) (x6 : DIns) (x7 : (List Int)) : r_plan_Encode.tree prg0.G (prg0.calls L) (L.P r_plan_Encode) prg0.N [0, 0, 1, 0, 1, 1, 1, 1, 0, 0, 1, 1, 0, 0, 1, 0, 1, 1, 1, 1] (q_plan_Encode_1.mk' ((x0, (x1, (x2, (x3, (x4, x5))))), (x6, x7)) 64) = B_plan_Encode_1 L x0 x1 x2 x3 x4 x5 x6 x7 := by kernel_rfl
noncomputable def B_plan_Encode_2 (L : Lvl) (x0 : (List DIns)) (x1 : Int) (x2 : Int) (x3 : (List ByteArray)) (x4 : Int) (x5 : Int) (x6 : (List Int)) : Option ((List Int) × Int) :=
  if (decide (x5 < x4)) = true then
    if (decide (((0 : Int) ≤ x5) ∧ (x5 < (((List.length x3) : Nat) : Int)))) = true then
    (S_wire_Writer_Text L ((rdx .str x3 x5), x6)).bind fun (y7 : (List Int)) =>
      P_plan_Encode_2 L ((x0, (x1, (x2, (x3, (x4, (IntKind.wrap .i64 (x5 + (1 : Int)))))))), y7)
    else none
  else
    P_plan_Encode_0 L ((x0, (x1, (IntKind.wrap .i64 (x2 + (1 : Int))))), x6)
theorem e_plan_Encode_2 (L : Lvl) (x0 : (List DIns)) (x1 : Int) (x2 : Int) (x3 : (List ByteArray)) (x4 : Int) (x5 : Int) (x6 : (List Int)) : r_plan_Encode.tree prg0.G (prg0.calls L) (L.P r_plan_Encode) prg0.N [0, 0, 1, 1, 1, 1, 1, 1, 1, 0, 0, 1, 1, 0, 0, 1, 0, 1, 1, 1, 1] (q_plan_Encode_2.mk' ((x0, (x1, (x2, (x3, (x4, x5))))), x6) 64) = B_plan_Encode_2 L x0 x1 x2 x3 x4 x5 x6 := by kernel_rfl
noncomputable def B_parser_Equal (L : Lvl) (x0 : DExpr) (x1 : DExpr) : Option Bool :=
  if (x0.kind == x1.kind) = true then
    if (x0.fn == x1.fn) = true then
      if (x0.window == x1.window) = true then
        if (x0.offset == x1.offset) = true then
          if (x0.k == x1.k) = true then
            if (Go.AM.allB ((x0.num.num == x1.num.num) :: ((x0.num.den == x1.num.den) :: ([] : List Bool)))) = true then
              if ((ByteArray.toList x0.name) == (ByteArray.toList x1.name)) = true then
                (S_slices_Equal_Matcher L (x0.ms, x1.ms)).bind fun (y2 : Bool) =>
                  if y2 = true then
                    (S_slices_Equal_string L (x0.by_, x1.by_)).bind fun (y3 : Bool) =>
                      if y3 = true then
                        (S_slices_EqualFunc_Expr L (x0.kids, x1.kids)).bind fun (y4 : Bool) =>
                          some y4
                      else
                        some false
                  else
                    some false
              else
                some false
            else
              some false
          else
            some false
        else
          some false
      else
        some false
    else
      some false
  else
    some false
theorem e_parser_Equal (L : Lvl) (x0 : DExpr) (x1 : DExpr) : r_parser_Equal.tree prg0.G (prg0.calls L) (L.P r_parser_Equal) prg0.N [] (r_parser_Equal.X.inp.mk' (x0, x1) 64) = B_parser_Equal L x0 x1 := by kernel_rfl
noncomputable def B_parser_Nodes (L : Lvl) (x0 : DExpr) : Option Int :=
  P_parser_Nodes_0 L ((1 : Int), (x0.kids, ((((List.length x0.kids) : Nat) : Int), (0 : Int))))
theorem e_parser_Nodes (L : Lvl) (x0 : DExpr) : r_parser_Nodes.tree prg0.G (prg0.calls L) (L.P r_parser_Nodes) prg0.N [] (r_parser_Nodes.X.inp.mk' x0 64) = B_parser_Nodes L x0 := by kernel_rfl
noncomputable def B_parser_Nodes_0 (L : Lvl) (x0 : Int) (x1 : (List DExpr)) (x2 : Int) (x3 : Int) : Option Int :=
  if (decide (x3 < x2)) = true then
    if (decide (((0 : Int) ≤ x3) ∧ (x3 < (((List.length x1) : Nat) : Int)))) = true then
    (S_parser_Nodes L (Go.AM.eE (rdx .expr x1 x3))).bind fun (y4 : Int) =>
      P_parser_Nodes_0 L ((IntKind.wrap .i64 (x0 + y4)), (x1, (x2, (IntKind.wrap .i64 (x3 + (1 : Int))))))
    else none
  else
    some x0
theorem e_parser_Nodes_0 (L : Lvl) (x0 : Int) (x1 : (List DExpr)) (x2 : Int) (x3 : Int) : r_parser_Nodes.tree prg0.G (prg0.calls L) (L.P r_parser_Nodes) prg0.N [0, 0, 1, 0, 1, 1] (q_parser_Nodes_0.mk' (x0, (x1, (x2, x3))) 64) = B_parser_Nodes_0 L x0 x1 x2 x3 := by kernel_rfl
noncomputable def B_ref01_SameBytes (L : Lvl) (x0 : (List Int)) (x1 : (List Int)) : Option Bool :=
  if ((((List.length x0) : Nat) : Int) != (((List.length x1) : Nat) : Int)) = true then
    some false
  else
    P_ref01_SameBytes_0 L (x0, (x1, (0 : Int)))
theorem e_ref01_SameBytes (L : Lvl) (x0 : (List Int)) (x1 : (List Int)) : r_ref01_SameBytes.tree prg0.G (prg0.calls L) (L.P r_ref01_SameBytes) prg0.N [] (r_ref01_SameBytes.X.inp.mk' (x0, x1) 64) = B_ref01_SameBytes L x0 x1 := by kernel_rfl
noncomputable def B_ref01_SameBytes_0 (L : Lvl) (x0 : (List Int)) (x1 : (List Int)) (x2 : Int) : Option Bool :=
  if (decide (x2 < (((List.length x0) : Nat) : Int))) = true then
    if (decide (((0 : Int) ≤ x2) ∧ (x2 < (((List.length x0) : Nat) : Int)))) = true then
    if (decide (((0 : Int) ≤ x2) ∧ (x2 < (((List.length x1) : Nat) : Int)))) = true then
    if ((rdx (.i .u8) x0 x2) != (rdx (.i .u8) x1 x2)) = true then
      some false
    else
      P_ref01_SameBytes_0 L (x0, (x1, (IntKind.wrap .i64 (x2 + (1 : Int)))))
    else none
    else none
  else
    some true
theorem e_ref01_SameBytes_0 (L : Lvl) (x0 : (List Int)) (x1 : (List Int)) (x2 : Int) : r_ref01_SameBytes.tree prg0.G (prg0.calls L) (L.P r_ref01_SameBytes) prg0.N [0, 0, 1, 0, 1, 1] (q_ref01_SameBytes_0.mk' (x0, (x1, x2)) 64) = B_ref01_SameBytes_0 L x0 x1 x2 := by kernel_rfl
noncomputable def B_parser_Parse (L : Lvl) (x0 : ByteArray) : Option (DExpr × (Int × Int)) :=
  (S_lexer_Tokens L x0).bind fun ((y1, (y2, y3)) : ((List DTok) × (Int × Int))) =>
    if (y3 != (0 : Int)) = true then
      some ((Go.AM.DExpr.mk (0 : Int) (0 : Int) (0 : Int) (0 : Int) (0 : Int) (Go.AM.DFrac.mk (0 : Int) (0 : Int)) zeroS ([] : List DMatcher) ([] : List ByteArray) ([] : List DExpr)), (y2, y3))
    else
      exc (S_parser_reader_expression L (y1, (((ByteArray.size x0) : Nat) : Int))) (fun (y4 : DFrac) => none)
      (fun ((y5, (y6, y7)) : (DExpr × ((List DTok) × Int))) => if (decide ((((List.length y6) : Nat) : Int) > (0 : Int))) = true then
          exc (S_parser_reader_fail L ((2 : Int), (y6, y7))) (fun (y8 : DFrac) => none)
          (fun ((y9, y10) : ((List DTok) × Int)) => (S_parser_tooLarge L (Go.AM.eE y5)).bind fun (y11 : Bool) =>
              if y11 = true then
                exc (S_parser_reader_fail L ((4 : Int), (y9, y10))) (fun (y12 : DFrac) => none)
                (fun ((y13, y14) : ((List DTok) × Int)) => (some ((Go.AM.eE y5), ((0 : Int), (0 : Int)))).bind fun ((y15, (y16, y17)) : (DExpr × (Int × Int))) =>
                    some ((Go.AM.eE y15), (y16, y17)))
              else
                (some ((Go.AM.eE y5), ((0 : Int), (0 : Int)))).bind fun ((y18, (y19, y20)) : (DExpr × (Int × Int))) =>
                  some ((Go.AM.eE y18), (y19, y20)))
        else
          (S_parser_tooLarge L (Go.AM.eE y5)).bind fun (y21 : Bool) =>
            if y21 = true then
              exc (S_parser_reader_fail L ((4 : Int), (y6, y7))) (fun (y22 : DFrac) => none)
              (fun ((y23, y24) : ((List DTok) × Int)) => (some ((Go.AM.eE y5), ((0 : Int), (0 : Int)))).bind fun ((y25, (y26, y27)) : (DExpr × (Int × Int))) =>
                  some ((Go.AM.eE y25), (y26, y27)))
            else
              (some ((Go.AM.eE y5), ((0 : Int), (0 : Int)))).bind fun ((y28, (y29, y30)) : (DExpr × (Int × Int))) =>
                some ((Go.AM.eE y28), (y29, y30)))
theorem e_parser_Parse (L : Lvl) (x0 : ByteArray) : r_parser_Parse.tree prg0.G (prg0.calls L) (L.P r_parser_Parse) prg0.N [] (r_parser_Parse.X.inp.mk' x0 64) = B_parser_Parse L x0 := by kernel_rfl
noncomputable def B_ref07_Valid (L : Lvl) (x0 : DExpr) : Option Int :=
  (S_ref07_Depth L (Go.AM.eE x0)).bind fun (y1 : Int) =>
    if (decide (y1 > (12 : Int))) = true then
      some (4 : Int)
    else
      (S_ref07_Nodes L (Go.AM.eE x0)).bind fun (y2 : Int) =>
        if (decide (y2 > (200 : Int))) = true then
          some (4 : Int)
        else
          (S_ref07_valid L (Go.AM.eE x0)).bind fun (y3 : Int) =>
            some y3
theorem e_ref07_Valid (L : Lvl) (x0 : DExpr) : r_ref07_Valid.tree prg0.G (prg0.calls L) (L.P r_ref07_Valid) prg0.N [] (r_ref07_Valid.X.inp.mk' x0 64) = B_ref07_Valid L x0 := by kernel_rfl
noncomputable def B_ref23_postfix (L : Lvl) (x0 : DExpr) : Option (List DIns) :=
  P_ref23_postfix_0 L ((0 : Int), ((Go.AM.eE x0), ([] : List DIns)))
theorem e_ref23_postfix (L : Lvl) (x0 : DExpr) : r_ref23_postfix.tree prg0.G (prg0.calls L) (L.P r_ref23_postfix) prg0.N [] (r_ref23_postfix.X.inp.mk' x0 64) = B_ref23_postfix L x0 := by kernel_rfl
noncomputable def B_ref23_postfix_0 (L : Lvl) (x0 : Int) (x1 : DExpr) (x2 : (List DIns)) : Option (List DIns) :=
  if (decide (x0 < (((List.length x1.kids) : Nat) : Int))) = true then
    if (decide (((0 : Int) ≤ x0) ∧ (x0 < (((List.length x1.kids) : Nat) : Int)))) = true then
    (S_ref23_postfix L (Go.AM.eE (rdx .expr x1.kids x0))).bind fun (y3 : (List DIns)) =>
      if (true && (decide ((((List.length x2) + (List.length y3)) * (120 : Nat)) ≤ (140737488355328 : Nat)))) = true then
      P_ref23_postfix_0 L ((IntKind.wrap .i64 (x0 + (1 : Int))), ((Go.AM.eE x1), (x2 ++ y3)))
      else none
    else none
  else
    (S_ref23_Ins L (Go.AM.eE x1)).bind fun (y4 : DIns) =>
      if (true && (decide ((((List.length x2) + (List.length (y4 :: ([] : List DIns)))) * (120 : Nat)) ≤ (140737488355328 : Nat)))) = true then
      some (x2 ++ (y4 :: ([] : List DIns)))
      else none
theorem e_ref23_postfix_0 (L : Lvl) (x0 : Int) (x1 : DExpr) (x2 : (List DIns)) : r_ref23_postfix.tree prg0.G (prg0.calls L) (L.P r_ref23_postfix) prg0.N [0, 0, 1, 0, 1, 1] (q_ref23_postfix_0.mk' (x0, (x1, x2)) 64) = B_ref23_postfix_0 L x0 x1 x2 := by kernel_rfl
noncomputable def B_ref01_Short (L : Lvl) (x0 : ByteArray) (x1 : Int) : Option ByteArray :=
  if (decide ((((ByteArray.size x0) : Nat) : Int) > x1)) = true then
    if (decide (((0 : Int) ≤ (0 : Int)) ∧ (((0 : Int) ≤ x1) ∧ (x1 ≤ (((ByteArray.size x0) : Nat) : Int))))) = true then
    some (ByteArray.extract x0 (0 : Nat) (Int.toNat x1))
    else none
  else
    some x0
theorem e_ref01_Short (L : Lvl) (x0 : ByteArray) (x1 : Int) : r_ref01_Short.tree prg0.G (prg0.calls L) (L.P r_ref01_Short) prg0.N [] (r_ref01_Short.X.inp.mk' (x0, x1) 64) = B_ref01_Short L x0 x1 := by kernel_rfl
noncomputable def B_ref23_Tree (L : Lvl) (x0 : (List DIns)) : Option (DExpr × Int) :=
  if (decide ((((List.length x0) : Nat) : Int) > (200 : Int))) = true then
    some ((Go.AM.DExpr.mk (0 : Int) (0 : Int) (0 : Int) (0 : Int) (0 : Int) (Go.AM.DFrac.mk (0 : Int) (0 : Int)) zeroS ([] : List DMatcher) ([] : List ByteArray) ([] : List DExpr)), (4 : Int))
  else
    P_ref23_Tree_0 L ((x0, (0 : Int)), (((0 : Int), ((0 : Int), ((0 : Int), ((0 : Int), ((0 : Int), ((0 : Int), ((0 : Int), zeroS))))))), (([] : List DMatcher), (([] : List ByteArray), (([] : List DExpr), ([] : List DExpr))))))
theorem e_ref23_Tree (L : Lvl) (x0 : (List DIns)) : r_ref23_Tree.tree prg0.G (prg0.calls L) (L.P r_ref23_Tree) prg0.N [] (r_ref23_Tree.X.inp.mk' x0 64) = B_ref23_Tree L x0 := by kernel_rfl
end Go.AM
