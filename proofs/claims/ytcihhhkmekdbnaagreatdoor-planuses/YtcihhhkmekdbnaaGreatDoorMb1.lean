/-
  What the functions of the program compute, as text: bodies and their equations.
-/
import Derived.Test.YtcihhhkmekdbnaaGreatDoorMd
namespace Go.AM
open Go
set_option maxRecDepth 100000
noncomputable def B_ref23_Tree_0 (L : Lvl) (x0 : (List DIns)) (x1 : Int) (x2 : Int) (x3 : Int) (x4 : Int) (x5 : Int) (x6 : Int) (x7 : Int) (x8 : Int) (x9 : ByteArray) (x10 : (List DMatcher)) (x11 : (List ByteArray)) (x12 : (List DExpr)) (x13 : (List DExpr)) : Option (DExpr × Int) :=
  if (decide (x1 < (((List.length x0) : Nat) : Int))) = true then
    if (decide (((0 : Int) ≤ x1) ∧ (x1 < (((List.length x0) : Nat) : Int)))) = true then
    (S_ref23_node L (rdx .ins x0 x1)).bind fun (y14 : DIns) =>
      if (decide (y14.kind < (0 : Int))) = true then
        some ((Go.AM.DExpr.mk (0 : Int) (0 : Int) (0 : Int) (0 : Int) (0 : Int) (Go.AM.DFrac.mk (0 : Int) (0 : Int)) zeroS ([] : List DMatcher) ([] : List ByteArray) ([] : List DExpr)), (1 : Int))
      else
        if (decide (y14.kind > (3 : Int))) = true then
          some ((Go.AM.DExpr.mk (0 : Int) (0 : Int) (0 : Int) (0 : Int) (0 : Int) (Go.AM.DFrac.mk (0 : Int) (0 : Int)) zeroS ([] : List DMatcher) ([] : List ByteArray) ([] : List DExpr)), (1 : Int))
        else
          if (decide ((((List.length x13) : Nat) : Int) < (ite ((IntKind.wrap .i64 (y14.kind - (1 : Int))) > (0 : Int)) (IntKind.wrap .i64 (y14.kind - (1 : Int))) (0 : Int)))) = true then
            some ((Go.AM.DExpr.mk (0 : Int) (0 : Int) (0 : Int) (0 : Int) (0 : Int) (Go.AM.DFrac.mk (0 : Int) (0 : Int)) zeroS ([] : List DMatcher) ([] : List ByteArray) ([] : List DExpr)), (1 : Int))
          else
            if (decide (((0 : Int) ≤ (IntKind.wrap .i64 ((((List.length x13) : Nat) : Int) - (ite ((IntKind.wrap .i64 (y14.kind - (1 : Int))) > (0 : Int)) (IntKind.wrap .i64 (y14.kind - (1 : Int))) (0 : Int))))) ∧ (((IntKind.wrap .i64 ((((List.length x13) : Nat) : Int) - (ite ((IntKind.wrap .i64 (y14.kind - (1 : Int))) > (0 : Int)) (IntKind.wrap .i64 (y14.kind - (1 : Int))) (0 : Int)))) ≤ (((List.length x13) : Nat) : Int)) ∧ ((((List.length x13) : Nat) : Int) ≤ (((List.length x13) : Nat) : Int))))) = true then
            if (true && (decide ((((0 : Nat) + (List.length (List.take (Int.toNat ((((List.length x13) : Nat) : Int) - (IntKind.wrap .i64 ((((List.length x13) : Nat) : Int) - (ite ((IntKind.wrap .i64 (y14.kind - (1 : Int))) > (0 : Int)) (IntKind.wrap .i64 (y14.kind - (1 : Int))) (0 : Int)))))) (List.drop (Int.toNat (IntKind.wrap .i64 ((((List.length x13) : Nat) : Int) - (ite ((IntKind.wrap .i64 (y14.kind - (1 : Int))) > (0 : Int)) (IntKind.wrap .i64 (y14.kind - (1 : Int))) (0 : Int))))) x13)))) * (144 : Nat)) ≤ (140737488355328 : Nat)))) = true then
            if (decide (((0 : Int) ≤ (0 : Int)) ∧ (((0 : Int) ≤ (IntKind.wrap .i64 ((((List.length x13) : Nat) : Int) - (ite ((IntKind.wrap .i64 (y14.kind - (1 : Int))) > (0 : Int)) (IntKind.wrap .i64 (y14.kind - (1 : Int))) (0 : Int))))) ∧ ((IntKind.wrap .i64 ((((List.length x13) : Nat) : Int) - (ite ((IntKind.wrap .i64 (y14.kind - (1 : Int))) > (0 : Int)) (IntKind.wrap .i64 (y14.kind - (1 : Int))) (0 : Int)))) ≤ (((List.length x13) : Nat) : Int))))) = true then
            if ((decide ((Int.toNat ((IntKind.wrap .i64 ((((List.length x13) : Nat) : Int) - (ite ((IntKind.wrap .i64 (y14.kind - (1 : Int))) > (0 : Int)) (IntKind.wrap .i64 (y14.kind - (1 : Int))) (0 : Int)))) - (0 : Int))) ≤ (List.length x13))) && (decide ((((List.length (List.take (Int.toNat ((IntKind.wrap .i64 ((((List.length x13) : Nat) : Int) - (ite ((IntKind.wrap .i64 (y14.kind - (1 : Int))) > (0 : Int)) (IntKind.wrap .i64 (y14.kind - (1 : Int))) (0 : Int)))) - (0 : Int))) x13)) + (List.length ((Go.AM.DExpr.mk y14.kind y14.fn y14.window y14.offset y14.k y14.num y14.name y14.ms y14.by_ (([] : List DExpr) ++ (List.take (Int.toNat ((((List.length x13) : Nat) : Int) - (IntKind.wrap .i64 ((((List.length x13) : Nat) : Int) - (ite ((IntKind.wrap .i64 (y14.kind - (1 : Int))) > (0 : Int)) (IntKind.wrap .i64 (y14.kind - (1 : Int))) (0 : Int)))))) (List.drop (Int.toNat (IntKind.wrap .i64 ((((List.length x13) : Nat) : Int) - (ite ((IntKind.wrap .i64 (y14.kind - (1 : Int))) > (0 : Int)) (IntKind.wrap .i64 (y14.kind - (1 : Int))) (0 : Int))))) x13)))) :: ([] : List DExpr)))) * (144 : Nat)) ≤ (140737488355328 : Nat)))) = true then
            P_ref23_Tree_0 L ((x0, (IntKind.wrap .i64 (x1 + (1 : Int)))), ((x2, (x3, (x4, (x5, (x6, (x7, (x8, x9))))))), (x10, (x11, (x12, ((List.take (Int.toNat ((IntKind.wrap .i64 ((((List.length x13) : Nat) : Int) - (ite ((IntKind.wrap .i64 (y14.kind - (1 : Int))) > (0 : Int)) (IntKind.wrap .i64 (y14.kind - (1 : Int))) (0 : Int)))) - (0 : Int))) x13) ++ ((Go.AM.DExpr.mk y14.kind y14.fn y14.window y14.offset y14.k y14.num y14.name y14.ms y14.by_ (([] : List DExpr) ++ (List.take (Int.toNat ((((List.length x13) : Nat) : Int) - (IntKind.wrap .i64 ((((List.length x13) : Nat) : Int) - (ite ((IntKind.wrap .i64 (y14.kind - (1 : Int))) > (0 : Int)) (IntKind.wrap .i64 (y14.kind - (1 : Int))) (0 : Int)))))) (List.drop (Int.toNat (IntKind.wrap .i64 ((((List.length x13) : Nat) : Int) - (ite ((IntKind.wrap .i64 (y14.kind - (1 : Int))) > (0 : Int)) (IntKind.wrap .i64 (y14.kind - (1 : Int))) (0 : Int))))) x13)))) :: ([] : List DExpr))))))))
            else none
            else none
            else none
            else none
    else none
  else
    if ((((List.length x13) : Nat) : Int) != (1 : Int)) = true then
      some ((Go.AM.DExpr.mk (0 : Int) (0 : Int) (0 : Int) (0 : Int) (0 : Int) (Go.AM.DFrac.mk (0 : Int) (0 : Int)) zeroS ([] : List DMatcher) ([] : List ByteArray) ([] : List DExpr)), (1 : Int))
    else
      if (decide (((0 : Int) ≤ (0 : Int)) ∧ ((0 : Int) < (((List.length x13) : Nat) : Int)))) = true then
      if (decide ((0 : Nat) < (List.length x13))) = true then
      (S_ref07_Valid L (Go.AM.eE (List.getD x13 (0 : Nat) (dflt .expr)))).bind fun (y15 : Int) =>
        if (y15 != (0 : Int)) = true then
          some ((Go.AM.DExpr.mk (0 : Int) (0 : Int) (0 : Int) (0 : Int) (0 : Int) (Go.AM.DFrac.mk (0 : Int) (0 : Int)) zeroS ([] : List DMatcher) ([] : List ByteArray) ([] : List DExpr)), y15)
        else
          if (decide (((0 : Int) ≤ (0 : Int)) ∧ ((0 : Int) < (((List.length x13) : Nat) : Int)))) = true then
          if (decide ((0 : Nat) < (List.length x13))) = true then
          some ((Go.AM.eE (List.getD x13 (0 : Nat) (dflt .expr))), (0 : Int))
          else none
          else none
      else none
      else none
theorem e_ref23_Tree_0 (L : Lvl) (x0 : (List DIns)) (x1 : Int) (x2 : Int) (x3 : Int) (x4 : Int) (x5 : Int) (x6 : Int) (x7 : Int) (x8 : Int) (x9 : ByteArray) (x10 : (List DMatcher)) (x11 : (List ByteArray)) (x12 : (List DExpr)) (x13 : (List DExpr)) : r_ref23_Tree.tree prg0.G (prg0.calls L) (L.P r_ref23_Tree) prg0.N [0, 0, 1, 0, 1, 1, 1] (q_ref23_Tree_0.mk' ((x0, x1), ((x2, (x3, (x4, (x5, (x6, (x7, (x8, x9))))))), (x10, (x11, (x12, x13))))) 64) = B_ref23_Tree_0 L x0 x1 x2 x3 x4 x5 x6 x7 x8 x9 x10 x11 x12 x13 := by kernel_rfl
noncomputable def B_ref07_Equal (L : Lvl) (x0 : DExpr) (x1 : DExpr) : Option Bool :=
  if (x0.kind != x1.kind) = true then
    some false
  else
    if (x0.fn != x1.fn) = true then
      some false
    else
      if (x0.window != x1.window) = true then
        some false
      else
        if (x0.offset != x1.offset) = true then
          some false
        else
          if (x0.k != x1.k) = true then
            some false
          else
            if (!(Go.AM.allB ((x0.num.num == x1.num.num) :: ((x0.num.den == x1.num.den) :: ([] : List Bool))))) = true then
              some false
            else
              if (!((ByteArray.toList x0.name) == (ByteArray.toList x1.name))) = true then
                some false
              else
                if ((((List.length x0.kids) : Nat) : Int) != (((List.length x1.kids) : Nat) : Int)) = true then
                  some false
                else
                  (S_ref07_sameMatchers L (x0.ms, x1.ms)).bind fun (y2 : Bool) =>
                    if (!y2) = true then
                      some false
                    else
                      (S_ref01_SameTexts L (x0.by_, x1.by_)).bind fun (y3 : Bool) =>
                        if (!y3) = true then
                          some false
                        else
                          P_ref07_Equal_0 L ((0 : Int), ((Go.AM.eE x0), (Go.AM.eE x1)))
theorem e_ref07_Equal (L : Lvl) (x0 : DExpr) (x1 : DExpr) : r_ref07_Equal.tree prg0.G (prg0.calls L) (L.P r_ref07_Equal) prg0.N [] (r_ref07_Equal.X.inp.mk' (x0, x1) 64) = B_ref07_Equal L x0 x1 := by kernel_rfl
noncomputable def B_ref07_Equal_0 (L : Lvl) (x0 : Int) (x1 : DExpr) (x2 : DExpr) : Option Bool :=
  if (decide (x0 < (((List.length x1.kids) : Nat) : Int))) = true then
    if (decide (((0 : Int) ≤ x0) ∧ (x0 < (((List.length x1.kids) : Nat) : Int)))) = true then
    if (decide (((0 : Int) ≤ x0) ∧ (x0 < (((List.length x2.kids) : Nat) : Int)))) = true then
    (S_ref07_Equal L ((Go.AM.eE (rdx .expr x1.kids x0)), (Go.AM.eE (rdx .expr x2.kids x0)))).bind fun (y3 : Bool) =>
      if (!y3) = true then
        some false
      else
        P_ref07_Equal_0 L ((IntKind.wrap .i64 (x0 + (1 : Int))), ((Go.AM.eE x1), (Go.AM.eE x2)))
    else none
    else none
  else
    some true
theorem e_ref07_Equal_0 (L : Lvl) (x0 : Int) (x1 : DExpr) (x2 : DExpr) : r_ref07_Equal.tree prg0.G (prg0.calls L) (L.P r_ref07_Equal) prg0.N [0, 0, 1, 0, 1, 1, 1] (q_ref07_Equal_0.mk' (x0, (x1, x2)) 64) = B_ref07_Equal_0 L x0 x1 x2 := by kernel_rfl
noncomputable def B_ref07_G_expr (L : Lvl) (x0 : Int) (x1 : (List Int)) (x2 : Int) (x3 : (List ByteArray)) (x4 : Int) : Option (DExpr × ((List Int) × (Int × ((List ByteArray) × Int)))) :=
  (S_ref07_G_next L ((8 : Int), (x1, (x2, (x3, x4))))).bind fun ((y5, (y6, (y7, (y8, y9)))) : (Int × ((List Int) × (Int × ((List ByteArray) × Int))))) =>
    if (y5 == (0 : Int)) = true then
      (S_ref07_G_next L ((6 : Int), (y6, (y7, (y8, y9))))).bind fun ((y10, (y11, (y12, (y13, y14)))) : (Int × ((List Int) × (Int × ((List ByteArray) × Int))))) =>
        if (decide (((0 : Int) ≤ y10) ∧ (y10 < (6 : Int)))) = true then
        if (decide ((Int.toNat y10) < (6 : Nat))) = true then
        some ((Go.AM.DExpr.mk (0 : Int) (0 : Int) (0 : Int) (0 : Int) (0 : Int) (Go.AM.DFrac.mk (rdx (.i .i64) ((0 : Int) :: ((1 : Int) :: ((2 : Int) :: ((7 : Int) :: ((10 : Int) :: ((1073741824 : Int) :: ([] : List Int))))))) y10) (1 : Int)) zeroS ([] : List DMatcher) ([] : List ByteArray) ([] : List DExpr)), (y11, (y12, (y13, y14))))
        else none
        else none
    else
      if (decide (x0 ≤ (1 : Int))) = true then
        if (decide (y5 < (3 : Int))) = true then
          (S_ref07_G_next L ((6 : Int), (y6, (y7, (y8, y9))))).bind fun ((y15, (y16, (y17, (y18, y19)))) : (Int × ((List Int) × (Int × ((List ByteArray) × Int))))) =>
            if (decide (((0 : Int) ≤ y15) ∧ (y15 < (6 : Int)))) = true then
            if (decide ((Int.toNat y15) < (6 : Nat))) = true then
            some ((Go.AM.DExpr.mk (0 : Int) (0 : Int) (0 : Int) (0 : Int) (0 : Int) (Go.AM.DFrac.mk (rdx (.i .i64) ((0 : Int) :: ((1 : Int) :: ((2 : Int) :: ((7 : Int) :: ((10 : Int) :: ((1073741824 : Int) :: ([] : List Int))))))) y15) (1 : Int)) zeroS ([] : List DMatcher) ([] : List ByteArray) ([] : List DExpr)), (y16, (y17, (y18, y19))))
            else none
            else none
        else
          if (decide (x0 ≤ (1 : Int))) = true then
            (S_ref07_G_selection L (y6, (y7, (y8, y9)))).bind fun ((y20, (y21, (y22, (y23, y24)))) : (DExpr × ((List Int) × (Int × ((List ByteArray) × Int))))) =>
              some ((Go.AM.eE y20), (y21, (y22, (y23, y24))))
          else
            if (decide (y5 < (4 : Int))) = true then
              (S_ref07_G_selection L (y6, (y7, (y8, y9)))).bind fun ((y25, (y26, (y27, (y28, y29)))) : (DExpr × ((List Int) × (Int × ((List ByteArray) × Int))))) =>
                some ((Go.AM.eE y25), (y26, (y27, (y28, y29))))
            else
              if (y5 == (4 : Int)) = true then
                (S_ref07_G_group L (x0, (y6, (y7, (y8, y9))))).bind fun ((y30, (y31, (y32, (y33, y34)))) : (DExpr × ((List Int) × (Int × ((List ByteArray) × Int))))) =>
                  some ((Go.AM.eE y30), (y31, (y32, (y33, y34))))
              else
                (S_ref07_G_next L ((4 : Int), (y6, (y7, (y8, y9))))).bind fun ((y35, (y36, (y37, (y38, y39)))) : (Int × ((List Int) × (Int × ((List ByteArray) × Int))))) =>
                  (S_ref07_G_expr L ((IntKind.wrap .i64 (x0 - (1 : Int))), (y36, (y37, (y38, y39))))).bind fun ((y40, (y41, (y42, (y43, y44)))) : (DExpr × ((List Int) × (Int × ((List ByteArray) × Int))))) =>
                    (S_ref07_G_expr L ((IntKind.wrap .i64 (x0 - (1 : Int))), (y41, (y42, (y43, y44))))).bind fun ((y45, (y46, (y47, (y48, y49)))) : (DExpr × ((List Int) × (Int × ((List ByteArray) × Int))))) =>
                      some ((Go.AM.DExpr.mk (3 : Int) y35 (0 : Int) (0 : Int) (0 : Int) (Go.AM.DFrac.mk (0 : Int) (0 : Int)) zeroS ([] : List DMatcher) ([] : List ByteArray) ((Go.AM.eE y40) :: ((Go.AM.eE y45) :: ([] : List DExpr)))), (y46, (y47, (y48, y49))))
      else
        if (decide (x0 ≤ (1 : Int))) = true then
          (S_ref07_G_selection L (y6, (y7, (y8, y9)))).bind fun ((y50, (y51, (y52, (y53, y54)))) : (DExpr × ((List Int) × (Int × ((List ByteArray) × Int))))) =>
            some ((Go.AM.eE y50), (y51, (y52, (y53, y54))))
        else
          if (decide (y5 < (4 : Int))) = true then
            (S_ref07_G_selection L (y6, (y7, (y8, y9)))).bind fun ((y55, (y56, (y57, (y58, y59)))) : (DExpr × ((List Int) × (Int × ((List ByteArray) × Int))))) =>
              some ((Go.AM.eE y55), (y56, (y57, (y58, y59))))
          else
            if (y5 == (4 : Int)) = true then
              (S_ref07_G_group L (x0, (y6, (y7, (y8, y9))))).bind fun ((y60, (y61, (y62, (y63, y64)))) : (DExpr × ((List Int) × (Int × ((List ByteArray) × Int))))) =>
                some ((Go.AM.eE y60), (y61, (y62, (y63, y64))))
            else
              (S_ref07_G_next L ((4 : Int), (y6, (y7, (y8, y9))))).bind fun ((y65, (y66, (y67, (y68, y69)))) : (Int × ((List Int) × (Int × ((List ByteArray) × Int))))) =>
                (S_ref07_G_expr L ((IntKind.wrap .i64 (x0 - (1 : Int))), (y66, (y67, (y68, y69))))).bind fun ((y70, (y71, (y72, (y73, y74)))) : (DExpr × ((List Int) × (Int × ((List ByteArray) × Int))))) =>
                  (S_ref07_G_expr L ((IntKind.wrap .i64 (x0 - (1 : Int))), (y71, (y72, (y73, y74))))).bind fun ((y75, (y76, (y77, (y78, y79)))) : (DExpr × ((List Int) × (Int × ((List ByteArray) × Int))))) =>
                    some ((Go.AM.DExpr.mk (3 : Int) y65 (0 : Int) (0 : Int) (0 : Int) (Go.AM.DFrac.mk (0 : Int) (0 : Int)) zeroS ([] : List DMatcher) ([] : List ByteArray) ((Go.AM.eE y70) :: ((Go.AM.eE y75) :: ([] : List DExpr)))), (y76, (y77, (y78, y79))))
theorem e_ref07_G_expr (L : Lvl) (x0 : Int) (x1 : (List Int)) (x2 : Int) (x3 : (List ByteArray)) (x4 : Int) : r_ref07_G_expr.tree prg0.G (prg0.calls L) (L.P r_ref07_G_expr) prg0.N [] (r_ref07_G_expr.X.inp.mk' (x0, (x1, (x2, (x3, x4)))) 64) = B_ref07_G_expr L x0 x1 x2 x3 x4 := by kernel_rfl
noncomputable def B_parser_Valid (L : Lvl) (x0 : DExpr) : Option Int :=
  (S_parser_tooLarge L (Go.AM.eE x0)).bind fun (y1 : Bool) =>
    if y1 = true then
      some (4 : Int)
    else
      (S_parser_valid L (Go.AM.eE x0)).bind fun (y2 : Int) =>
        some y2
theorem e_parser_Valid (L : Lvl) (x0 : DExpr) : r_parser_Valid.tree prg0.G (prg0.calls L) (L.P r_parser_Valid) prg0.N [] (r_parser_Valid.X.inp.mk' x0 64) = B_parser_Valid L x0 := by kernel_rfl
noncomputable def B_plan_postfix (L : Lvl) (x0 : DExpr) : Option DExpr :=
  some (Go.AM.eE x0)
theorem e_plan_postfix (L : Lvl) (x0 : DExpr) : r_plan_postfix.tree prg0.G (prg0.calls L) (L.P r_plan_postfix) prg0.N [] (r_plan_postfix.X.inp.mk' x0 64) = B_plan_postfix L x0 := by kernel_rfl
noncomputable def B_ref01_Pick (L : Lvl) (x0 : (List Int)) (x1 : Int) (x2 : Int) : Option Int :=
  if (decide (x1 < (0 : Int))) = true then
    some (0 : Int)
  else
    if (decide (x1 ≥ (((List.length x0) : Nat) : Int))) = true then
      some (0 : Int)
    else
      if (decide (((0 : Int) ≤ x1) ∧ (x1 < (((List.length x0) : Nat) : Int)))) = true then
      (S_ref01_Around L ((rdx (.i .i64) x0 x1), x2)).bind fun (y3 : Int) =>
        some y3
      else none
theorem e_ref01_Pick (L : Lvl) (x0 : (List Int)) (x1 : Int) (x2 : Int) : r_ref01_Pick.tree prg0.G (prg0.calls L) (L.P r_ref01_Pick) prg0.N [] (r_ref01_Pick.X.inp.mk' (x0, (x1, x2)) 64) = B_ref01_Pick L x0 x1 x2 := by kernel_rfl
noncomputable def B_ref05_Set (L : Lvl) (x0 : (List Int)) : Option (List DLabel) :=
  (S_ref05_Names L ()).bind fun (y1 : (List ByteArray)) =>
    (S_ref05_values L ()).bind fun (y2 : (List ByteArray)) =>
      (S_ref01_Pick L (x0, ((0 : Int), (64 : Int)))).bind fun (y3 : Int) =>
        P_ref05_Set_0 L ((x0, (y1, (y3, (0 : Int)))), (y2, ([] : List DLabel)))
theorem e_ref05_Set (L : Lvl) (x0 : (List Int)) : r_ref05_Set.tree prg0.G (prg0.calls L) (L.P r_ref05_Set) prg0.N [] (r_ref05_Set.X.inp.mk' x0 64) = B_ref05_Set L x0 := by kernel_rfl
noncomputable def B_ref05_Set_0 (L : Lvl) (x0 : (List Int)) (x1 : (List ByteArray)) (x2 : Int) (x3 : Int) (x4 : (List ByteArray)) (x5 : (List DLabel)) : Option (List DLabel) :=
  if (decide (x3 < (((List.length x1) : Nat) : Int))) = true then
    if ((Int.tmod x2 (2 : Int)) == (1 : Int)) = true then
      if (decide (((0 : Int) ≤ x3) ∧ (x3 < (((List.length x1) : Nat) : Int)))) = true then
      (S_ref01_Pick L (x0, ((IntKind.wrap .i64 (x3 + (1 : Int))), (6 : Int)))).bind fun (y6 : Int) =>
        if (decide (((0 : Int) ≤ y6) ∧ (y6 < (((List.length x4) : Nat) : Int)))) = true then
        if (decide ((Int.toNat y6) < (List.length x4))) = true then
        if (true && (decide ((((List.length x5) + (List.length ((Go.AM.DLabel.mk (rdx .str x1 x3) (rdx .str x4 y6)) :: ([] : List DLabel)))) * (32 : Nat)) ≤ (140737488355328 : Nat)))) = true then
        P_ref05_Set_0 L ((x0, (x1, ((IntKind.wrap .i64 (Int.tdiv x2 (2 : Int))), (IntKind.wrap .i64 (x3 + (1 : Int)))))), (x4, (x5 ++ ((Go.AM.DLabel.mk (rdx .str x1 x3) (rdx .str x4 y6)) :: ([] : List DLabel)))))
        else none
        else none
        else none
      else none
    else
      P_ref05_Set_0 L ((x0, (x1, ((IntKind.wrap .i64 (Int.tdiv x2 (2 : Int))), (IntKind.wrap .i64 (x3 + (1 : Int)))))), (x4, x5))
  else
    some x5
theorem e_ref05_Set_0 (L : Lvl) (x0 : (List Int)) (x1 : (List ByteArray)) (x2 : Int) (x3 : Int) (x4 : (List ByteArray)) (x5 : (List DLabel)) : r_ref05_Set.tree prg0.G (prg0.calls L) (L.P r_ref05_Set) prg0.N [0, 0, 1, 0, 1, 1, 1, 1, 1] (q_ref05_Set_0.mk' ((x0, (x1, (x2, x3))), (x4, x5)) 64) = B_ref05_Set_0 L x0 x1 x2 x3 x4 x5 := by kernel_rfl
noncomputable def B_labels_Match (L : Lvl) (x0 : (List DLabel)) (x1 : (List DMatcher)) : Option Bool :=
  P_labels_Match_0 L (x0, (x1, ((((List.length x1) : Nat) : Int), (0 : Int))))
theorem e_labels_Match (L : Lvl) (x0 : (List DLabel)) (x1 : (List DMatcher)) : r_labels_Match.tree prg0.G (prg0.calls L) (L.P r_labels_Match) prg0.N [] (r_labels_Match.X.inp.mk' (x0, x1) 64) = B_labels_Match L x0 x1 := by kernel_rfl
noncomputable def B_labels_Match_0 (L : Lvl) (x0 : (List DLabel)) (x1 : (List DMatcher)) (x2 : Int) (x3 : Int) : Option Bool :=
  if (decide (x3 < x2)) = true then
    if (decide (((0 : Int) ≤ x3) ∧ (x3 < (((List.length x1) : Nat) : Int)))) = true then
    (S_labels_Get L (x0, (rdx .matcher x1 x3).name)).bind fun (y4 : ByteArray) =>
      if ((rdx .matcher x1 x3).kind == (0 : Int)) = true then
        if (!((ByteArray.toList y4) == (ByteArray.toList (rdx .matcher x1 x3).value))) = true then
          some false
        else
          P_labels_Match_0 L (x0, (x1, (x2, (IntKind.wrap .i64 (x3 + (1 : Int))))))
      else
        if ((rdx .matcher x1 x3).kind == (1 : Int)) = true then
          if (!(!((ByteArray.toList y4) == (ByteArray.toList (rdx .matcher x1 x3).value)))) = true then
            some false
          else
            P_labels_Match_0 L (x0, (x1, (x2, (IntKind.wrap .i64 (x3 + (1 : Int))))))
        else
          if ((rdx .matcher x1 x3).kind == (2 : Int)) = true then
            (base_HasPrefix (y4, (rdx .matcher x1 x3).value)).bind fun (y5 : Bool) =>
              if (!y5) = true then
                some false
              else
                P_labels_Match_0 L (x0, (x1, (x2, (IntKind.wrap .i64 (x3 + (1 : Int))))))
          else
            some false
    else none
  else
    some true
theorem e_labels_Match_0 (L : Lvl) (x0 : (List DLabel)) (x1 : (List DMatcher)) (x2 : Int) (x3 : Int) : r_labels_Match.tree prg0.G (prg0.calls L) (L.P r_labels_Match) prg0.N [0, 0, 1, 0, 1] (q_labels_Match_0.mk' (x0, (x1, (x2, x3))) 64) = B_labels_Match_0 L x0 x1 x2 x3 := by kernel_rfl
noncomputable def B_ref08_Selects (L : Lvl) (x0 : DExpr) (x1 : DDecl) : Option Bool :=
  if ((ByteArray.toList x1.name) == (ByteArray.toList x0.name)) = true then
    (S_ref05_Match L (x1.labels, x0.ms)).bind fun (y2 : Bool) =>
      some y2
  else
    some false
theorem e_ref08_Selects (L : Lvl) (x0 : DExpr) (x1 : DDecl) : r_ref08_Selects.tree prg0.G (prg0.calls L) (L.P r_ref08_Selects) prg0.N [] (r_ref08_Selects.X.inp.mk' (x0, x1) 64) = B_ref08_Selects L x0 x1 := by kernel_rfl
noncomputable def B_ref23_node (L : Lvl) (x0 : DIns) : Option DIns :=
  some x0
theorem e_ref23_node (L : Lvl) (x0 : DIns) : r_ref23_node.tree prg0.G (prg0.calls L) (L.P r_ref23_node) prg0.N [] (r_ref23_node.X.inp.mk' x0 64) = B_ref23_node L x0 := by kernel_rfl
noncomputable def B_ref23_write (L : Lvl) (x0 : (List DIns)) : Option (List Int) :=
  (S_ref02_Int L (((List.length x0) : Nat) : Int)).bind fun (y1 : (List Int)) =>
    P_ref23_write_0 L ((x0, (0 : Int)), y1)
theorem e_ref23_write (L : Lvl) (x0 : (List DIns)) : r_ref23_write.tree prg0.G (prg0.calls L) (L.P r_ref23_write) prg0.N [] (r_ref23_write.X.inp.mk' x0 64) = B_ref23_write L x0 := by kernel_rfl
noncomputable def B_ref23_write_0 (L : Lvl) (x0 : (List DIns)) (x1 : Int) (x2 : (List Int)) : Option (List Int) :=
  if (decide (x1 < (((List.length x0) : Nat) : Int))) = true then
    if (decide (((0 : Int) ≤ x1) ∧ (x1 < (((List.length x0) : Nat) : Int)))) = true then
    if (decide (((0 : Int) ≤ x1) ∧ (x1 < (((List.length x0) : Nat) : Int)))) = true then
    if (decide (((0 : Int) ≤ x1) ∧ (x1 < (((List.length x0) : Nat) : Int)))) = true then
    if (decide (((0 : Int) ≤ x1) ∧ (x1 < (((List.length x0) : Nat) : Int)))) = true then
    if (decide (((0 : Int) ≤ x1) ∧ (x1 < (((List.length x0) : Nat) : Int)))) = true then
    if (decide (((0 : Int) ≤ x1) ∧ (x1 < (((List.length x0) : Nat) : Int)))) = true then
    if (decide (((0 : Int) ≤ x1) ∧ (x1 < (((List.length x0) : Nat) : Int)))) = true then
    P_ref23_write_1 L ((x0, (x1, (0 : Int))), (x2, ((rdx .ins x0 x1).kind :: ((rdx .ins x0 x1).fn :: ((rdx .ins x0 x1).window :: ((rdx .ins x0 x1).offset :: ((rdx .ins x0 x1).k :: ((rdx .ins x0 x1).num.num :: ((rdx .ins x0 x1).num.den :: ([] : List Int))))))))))
    else none
    else none
    else none
    else none
    else none
    else none
    else none
  else
    some x2
theorem e_ref23_write_0 (L : Lvl) (x0 : (List DIns)) (x1 : Int) (x2 : (List Int)) : r_ref23_write.tree prg0.G (prg0.calls L) (L.P r_ref23_write) prg0.N [0, 0, 1, 0, 1, 1] (q_ref23_write_0.mk' ((x0, x1), x2) 64) = B_ref23_write_0 L x0 x1 x2 := by kernel_rfl
noncomputable def B_ref23_write_1 (L : Lvl) (x0 : (List DIns)) (x1 : Int) (x2 : Int) (x3 : (List Int)) (x4 : (List Int)) : Option (List Int) :=
  if (decide (x2 < (((List.length x4) : Nat) : Int))) = true then
    if (decide (((0 : Int) ≤ x2) ∧ (x2 < (((List.length x4) : Nat) : Int)))) = true then
    if (decide ((Int.toNat x2) < (List.length x4))) = true then
    (S_ref02_Int L (rdx (.i .i64) x4 x2)).bind fun (y5 : (List Int)) =>
      if (true && (decide ((((List.length x3) + (List.length y5)) * (1 : Nat)) ≤ (140737488355328 : Nat)))) = true then
      P_ref23_write_1 L ((x0, (x1, (IntKind.wrap .i64 (x2 + (1 : Int))))), ((x3 ++ y5), x4))
      else none
    else none
    else none
  else
    if (decide (((0 : Int) ≤ x1) ∧ (x1 < (((List.length x0) : Nat) : Int)))) = true then
    if (decide ((ByteArray.size (rdx .ins x0 x1).name) ≤ (140737488355328 : Nat))) = true then
    (S_ref02_Raw L (Go.AM.bytesOf (rdx .ins x0 x1).name)).bind fun (y6 : (List Int)) =>
      if (true && (decide ((((List.length x3) + (List.length y6)) * (1 : Nat)) ≤ (140737488355328 : Nat)))) = true then
      if (decide (((0 : Int) ≤ x1) ∧ (x1 < (((List.length x0) : Nat) : Int)))) = true then
      (S_ref02_Int L (((List.length (rdx .ins x0 x1).ms) : Nat) : Int)).bind fun (y7 : (List Int)) =>
        if (true && (decide ((((List.length (x3 ++ y6)) + (List.length y7)) * (1 : Nat)) ≤ (140737488355328 : Nat)))) = true then
        P_ref23_write_2 L ((x0, (x1, (0 : Int))), ((x3 ++ y6) ++ y7))
        else none
      else none
      else none
    else none
    else none
theorem e_ref23_write_1 (L : Lvl) (x0 : (List DIns)) (x1 : Int) (x2 : Int) (x3 : (List Int)) (x4 : (List Int)) : r_ref23_write.tree prg0.G (prg0.calls L) (L.P r_ref23_write) prg0.N [0, 0, 1, 0, 1, 0, 0, 1, 0, 0, 1, 0, 1, 1] (q_ref23_write_1.mk' ((x0, (x1, x2)), (x3, x4)) 64) = B_ref23_write_1 L x0 x1 x2 x3 x4 := by kernel_rfl
noncomputable def B_ref23_write_2 (L : Lvl) (x0 : (List DIns)) (x1 : Int) (x2 : Int) (x3 : (List Int)) : Option (List Int) :=
  if (decide (((0 : Int) ≤ x1) ∧ (x1 < (((List.length x0) : Nat) : Int)))) = true then
  if (decide (x2 < (((List.length (rdx .ins x0 x1).ms) : Nat) : Int))) = true then
    if (decide (((0 : Int) ≤ x1) ∧ (x1 < (((List.length x0) : Nat) : Int)))) = true then
    if (decide (((0 : Int) ≤ x2) ∧ (x2 < (((List.length (rdx .ins x0 x1).ms) : Nat) : Int)))) = true then
    if (decide ((ByteArray.size (rdx .matcher (rdx .ins x0 x1).ms x2).name) ≤ (140737488355328 : Nat))) = true then
    (S_ref02_Raw L (Go.AM.bytesOf (rdx .matcher (rdx .ins x0 x1).ms x2).name)).bind fun (y4 : (List Int)) =>
      if (true && (decide ((((List.length x3) + (List.length y4)) * (1 : Nat)) ≤ (140737488355328 : Nat)))) = true then
      (S_ref02_Int L (rdx .matcher (rdx .ins x0 x1).ms x2).kind).bind fun (y5 : (List Int)) =>
        if (true && (decide ((((List.length (x3 ++ y4)) + (List.length y5)) * (1 : Nat)) ≤ (140737488355328 : Nat)))) = true then
        if (decide ((ByteArray.size (rdx .matcher (rdx .ins x0 x1).ms x2).value) ≤ (140737488355328 : Nat))) = true then
        (S_ref02_Raw L (Go.AM.bytesOf (rdx .matcher (rdx .ins x0 x1).ms x2).value)).bind fun (y6 : (List Int)) =>
          if (true && (decide ((((List.length ((x3 ++ y4) ++ y5)) + (List.length y6)) * (1 : Nat)) ≤ (140737488355328 : Nat)))) = true then
          P_ref23_write_2 L ((x0, (x1, (IntKind.wrap .i64 (x2 + (1 : Int))))), (((x3 ++ y4) ++ y5) ++ y6))
          else none
        else none
        else none
      else none
    else none
    else none
    else none
  else
    if (decide (((0 : Int) ≤ x1) ∧ (x1 < (((List.length x0) : Nat) : Int)))) = true then
    (S_ref02_Int L (((List.length (rdx .ins x0 x1).by_) : Nat) : Int)).bind fun (y7 : (List Int)) =>
      if (true && (decide ((((List.length x3) + (List.length y7)) * (1 : Nat)) ≤ (140737488355328 : Nat)))) = true then
      P_ref23_write_3 L ((x0, (x1, (0 : Int))), (x3 ++ y7))
      else none
    else none
  else none
theorem e_ref23_write_2 (L : Lvl) (x0 : (List DIns)) (x1 : Int) (x2 : Int) (x3 : (List Int)) : r_ref23_write.tree prg0.G (prg0.calls L) (L.P r_ref23_write) prg0.N [0, 0, 1, 0, 1, 1, 1, 1, 0, 0, 1, 0, 0, 1, 0, 1, 1] (q_ref23_write_2.mk' ((x0, (x1, x2)), x3) 64) = B_ref23_write_2 L x0 x1 x2 x3 := by kernel_rfl
noncomputable def B_ref23_write_3 (L : Lvl) (x0 : (List DIns)) (x1 : Int) (x2 : Int) (x3 : (List Int)) : Option (List Int) :=
  if (decide (((0 : Int) ≤ x1) ∧ (x1 < (((List.length x0) : Nat) : Int)))) = true then
  if (decide (x2 < (((List.length (rdx .ins x0 x1).by_) : Nat) : Int))) = true then
    if (decide (((0 : Int) ≤ x1) ∧ (x1 < (((List.length x0) : Nat) : Int)))) = true then
    if (decide (((0 : Int) ≤ x2) ∧ (x2 < (((List.length (rdx .ins x0 x1).by_) : Nat) : Int)))) = true then
    if (decide ((ByteArray.size (rdx .str (rdx .ins x0 x1).by_ x2)) ≤ (140737488355328 : Nat))) = true then
    (S_ref02_Raw L (Go.AM.bytesOf (rdx .str (rdx .ins x0 x1).by_ x2))).bind fun (y4 : (List Int)) =>
      if (true && (decide ((((List.length x3) + (List.length y4)) * (1 : Nat)) ≤ (140737488355328 : Nat)))) = true then
      P_ref23_write_3 L ((x0, (x1, (IntKind.wrap .i64 (x2 + (1 : Int))))), (x3 ++ y4))
      else none
    else none
    else none
    else none
  else
    P_ref23_write_0 L ((x0, (IntKind.wrap .i64 (x1 + (1 : Int)))), x3)
  else none
theorem e_ref23_write_3 (L : Lvl) (x0 : (List DIns)) (x1 : Int) (x2 : Int) (x3 : (List Int)) : r_ref23_write.tree prg0.G (prg0.calls L) (L.P r_ref23_write) prg0.N [0, 0, 1, 1, 1, 1, 1, 1, 1, 0, 0, 1, 0, 0, 1, 0, 1, 1] (q_ref23_write_3.mk' ((x0, (x1, x2)), x3) 64) = B_ref23_write_3 L x0 x1 x2 x3 := by kernel_rfl
noncomputable def B_plan_ints (L : Lvl) (x0 : (List Int)) (x1 : (List Int)) : Option (List Int) :=
  P_plan_ints_0 L ((x0, ((((List.length x0) : Nat) : Int), (0 : Int))), x1)
theorem e_plan_ints (L : Lvl) (x0 : (List Int)) (x1 : (List Int)) : r_plan_ints.tree prg0.G (prg0.calls L) (L.P r_plan_ints) prg0.N [] (r_plan_ints.X.inp.mk' (x0, x1) 64) = B_plan_ints L x0 x1 := by kernel_rfl
noncomputable def B_plan_ints_0 (L : Lvl) (x0 : (List Int)) (x1 : Int) (x2 : Int) (x3 : (List Int)) : Option (List Int) :=
  if (decide (x2 < x1)) = true then
    if (decide (((0 : Int) ≤ x2) ∧ (x2 < (((List.length x0) : Nat) : Int)))) = true then
    (S_wire_Writer_Int L ((rdx (.i .i64) x0 x2), x3)).bind fun (y4 : (List Int)) =>
      P_plan_ints_0 L ((x0, (x1, (IntKind.wrap .i64 (x2 + (1 : Int))))), y4)
    else none
  else
    some x3
theorem e_plan_ints_0 (L : Lvl) (x0 : (List Int)) (x1 : Int) (x2 : Int) (x3 : (List Int)) : r_plan_ints.tree prg0.G (prg0.calls L) (L.P r_plan_ints) prg0.N [0, 0, 1] (q_plan_ints_0.mk' ((x0, (x1, x2)), x3) 64) = B_plan_ints_0 L x0 x1 x2 x3 := by kernel_rfl
noncomputable def B_wire_Writer_Text (L : Lvl) (x0 : ByteArray) (x1 : (List Int)) : Option (List Int) :=
  (S_wire_Writer_Uint L ((IntKind.wrap .u64 (((ByteArray.size x0) : Nat) : Int)), x1)).bind fun (y2 : (List Int)) =>
    if (true && (decide ((((List.length y2) + (List.length (Go.AM.bytesOf x0))) * (1 : Nat)) ≤ (140737488355328 : Nat)))) = true then
    some (y2 ++ (Go.AM.bytesOf x0))
    else none
theorem e_wire_Writer_Text (L : Lvl) (x0 : ByteArray) (x1 : (List Int)) : r_wire_Writer_Text.tree prg0.G (prg0.calls L) (L.P r_wire_Writer_Text) prg0.N [] (r_wire_Writer_Text.X.inp.mk' (x0, x1) 64) = B_wire_Writer_Text L x0 x1 := by kernel_rfl
noncomputable def B_wire_Writer_Done (L : Lvl) (x0 : (List Int)) : Option ((List Int) × (List Int)) :=
  if (decide (((List.length x0) * (1 : Nat)) ≤ (140737488355328 : Nat))) = true then
  some (x0, x0)
  else none
theorem e_wire_Writer_Done (L : Lvl) (x0 : (List Int)) : r_wire_Writer_Done.tree prg0.G (prg0.calls L) (L.P r_wire_Writer_Done) prg0.N [] (r_wire_Writer_Done.X.inp.mk' x0 64) = B_wire_Writer_Done L x0 := by kernel_rfl
noncomputable def B_slices_Equal_Matcher (L : Lvl) (x0 : (List DMatcher)) (x1 : (List DMatcher)) : Option Bool :=
  if ((((List.length x0) : Nat) : Int) != (((List.length x1) : Nat) : Int)) = true then
    some false
  else
    P_slices_Equal_Matcher_0 L (x0, (x1, ((((List.length x0) : Nat) : Int), (0 : Int))))
theorem e_slices_Equal_Matcher (L : Lvl) (x0 : (List DMatcher)) (x1 : (List DMatcher)) : r_slices_Equal_Matcher.tree prg0.G (prg0.calls L) (L.P r_slices_Equal_Matcher) prg0.N [] (r_slices_Equal_Matcher.X.inp.mk' (x0, x1) 64) = B_slices_Equal_Matcher L x0 x1 := by kernel_rfl
noncomputable def B_slices_Equal_Matcher_0 (L : Lvl) (x0 : (List DMatcher)) (x1 : (List DMatcher)) (x2 : Int) (x3 : Int) : Option Bool :=
  if (decide (x3 < x2)) = true then
    if (decide (((0 : Int) ≤ x3) ∧ (x3 < (((List.length x0) : Nat) : Int)))) = true then
    if (decide (((0 : Int) ≤ x3) ∧ (x3 < (((List.length x1) : Nat) : Int)))) = true then
    if (!(Go.AM.allB (((ByteArray.toList (rdx .matcher x0 x3).name) == (ByteArray.toList (rdx .matcher x1 x3).name)) :: (((rdx .matcher x0 x3).kind == (rdx .matcher x1 x3).kind) :: (((ByteArray.toList (rdx .matcher x0 x3).value) == (ByteArray.toList (rdx .matcher x1 x3).value)) :: ([] : List Bool)))))) = true then
      some false
    else
      P_slices_Equal_Matcher_0 L (x0, (x1, (x2, (IntKind.wrap .i64 (x3 + (1 : Int))))))
    else none
    else none
  else
    some true
theorem e_slices_Equal_Matcher_0 (L : Lvl) (x0 : (List DMatcher)) (x1 : (List DMatcher)) (x2 : Int) (x3 : Int) : r_slices_Equal_Matcher.tree prg0.G (prg0.calls L) (L.P r_slices_Equal_Matcher) prg0.N [0, 0, 1, 0, 1, 1] (q_slices_Equal_Matcher_0.mk' (x0, (x1, (x2, x3))) 64) = B_slices_Equal_Matcher_0 L x0 x1 x2 x3 := by kernel_rfl
noncomputable def B_slices_Equal_string (L : Lvl) (x0 : (List ByteArray)) (x1 : (List ByteArray)) : Option Bool :=
  if ((((List.length x0) : Nat) : Int) != (((List.length x1) : Nat) : Int)) = true then
    some false
  else
    P_slices_Equal_string_0 L (x0, (x1, ((((List.length x0) : Nat) : Int), (0 : Int))))
theorem e_slices_Equal_string (L : Lvl) (x0 : (List ByteArray)) (x1 : (List ByteArray)) : r_slices_Equal_string.tree prg0.G (prg0.calls L) (L.P r_slices_Equal_string) prg0.N [] (r_slices_Equal_string.X.inp.mk' (x0, x1) 64) = B_slices_Equal_string L x0 x1 := by kernel_rfl
noncomputable def B_slices_Equal_string_0 (L : Lvl) (x0 : (List ByteArray)) (x1 : (List ByteArray)) (x2 : Int) (x3 : Int) : Option Bool :=
  if (decide (x3 < x2)) = true then
    if (decide (((0 : Int) ≤ x3) ∧ (x3 < (((List.length x0) : Nat) : Int)))) = true then
    if (decide (((0 : Int) ≤ x3) ∧ (x3 < (((List.length x1) : Nat) : Int)))) = true then
    if (!((ByteArray.toList (rdx .str x0 x3)) == (ByteArray.toList (rdx .str x1 x3)))) = true then
      some false
    else
      P_slices_Equal_string_0 L (x0, (x1, (x2, (IntKind.wrap .i64 (x3 + (1 : Int))))))
    else none
    else none
  else
    some true
theorem e_slices_Equal_string_0 (L : Lvl) (x0 : (List ByteArray)) (x1 : (List ByteArray)) (x2 : Int) (x3 : Int) : r_slices_Equal_string.tree prg0.G (prg0.calls L) (L.P r_slices_Equal_string) prg0.N [0, 0, 1, 0, 1, 1] (q_slices_Equal_string_0.mk' (x0, (x1, (x2, x3))) 64) = B_slices_Equal_string_0 L x0 x1 x2 x3 := by kernel_rfl
noncomputable def B_slices_EqualFunc_Expr (L : Lvl) (x0 : (List DExpr)) (x1 : (List DExpr)) : Option Bool :=
  if ((((List.length x0) : Nat) : Int) != (((List.length x1) : Nat) : Int)) = true then
    some false
  else
    P_slices_EqualFunc_Expr_0 L (x1, (x0, ((((List.length x0) : Nat) : Int), (0 : Int))))
theorem e_slices_EqualFunc_Expr (L : Lvl) (x0 : (List DExpr)) (x1 : (List DExpr)) : r_slices_EqualFunc_Expr.tree prg0.G (prg0.calls L) (L.P r_slices_EqualFunc_Expr) prg0.N [] (r_slices_EqualFunc_Expr.X.inp.mk' (x0, x1) 64) = B_slices_EqualFunc_Expr L x0 x1 := by kernel_rfl
noncomputable def B_slices_EqualFunc_Expr_0 (L : Lvl) (x0 : (List DExpr)) (x1 : (List DExpr)) (x2 : Int) (x3 : Int) : Option Bool :=
  if (decide (x3 < x2)) = true then
    if (decide (((0 : Int) ≤ x3) ∧ (x3 < (((List.length x1) : Nat) : Int)))) = true then
    if (decide (((0 : Int) ≤ x3) ∧ (x3 < (((List.length x0) : Nat) : Int)))) = true then
    (S_parser_Equal L ((Go.AM.eE (rdx .expr x1 x3)), (Go.AM.eE (rdx .expr x0 x3)))).bind fun (y4 : Bool) =>
      if (!y4) = true then
        some false
      else
        P_slices_EqualFunc_Expr_0 L (x0, (x1, (x2, (IntKind.wrap .i64 (x3 + (1 : Int))))))
    else none
    else none
  else
    some true
theorem e_slices_EqualFunc_Expr_0 (L : Lvl) (x0 : (List DExpr)) (x1 : (List DExpr)) (x2 : Int) (x3 : Int) : r_slices_EqualFunc_Expr.tree prg0.G (prg0.calls L) (L.P r_slices_EqualFunc_Expr) prg0.N [0, 0, 1, 0, 1, 1] (q_slices_EqualFunc_Expr_0.mk' (x0, (x1, (x2, x3))) 64) = B_slices_EqualFunc_Expr_0 L x0 x1 x2 x3 := by kernel_rfl
noncomputable def B_lexer_Tokens (L : Lvl) (x0 : ByteArray) : Option ((List DTok) × (Int × Int)) :=
  if (decide ((((ByteArray.size x0) : Nat) : Int) > (2000 : Int))) = true then
    some (([] : List DTok), ((2000 : Int), (4 : Int)))
  else
    (S_lexer_scanner_all L ((x0, ((0 : Int), (0 : Int))), ([] : List DTok))).bind fun (((y1, (y2, y3)), y4) : ((ByteArray × (Int × Int)) × (List DTok))) =>
      if (y3 != (0 : Int)) = true then
        some (([] : List DTok), (y2, y3))
      else
        some (y4, ((0 : Int), (0 : Int)))
theorem e_lexer_Tokens (L : Lvl) (x0 : ByteArray) : r_lexer_Tokens.tree prg0.G (prg0.calls L) (L.P r_lexer_Tokens) prg0.N [] (r_lexer_Tokens.X.inp.mk' x0 64) = B_lexer_Tokens L x0 := by kernel_rfl
noncomputable def B_parser_reader_expression (L : Lvl) (x0 : (List DTok)) (x1 : Int) : Option (Except DFrac (DExpr × ((List DTok) × Int))) :=
  exc (S_parser_reader_term L (x0, x1)) (fun (y2 : DFrac) => some (.error y2))
  (fun ((y3, (y4, y5)) : (DExpr × ((List DTok) × Int))) => P_parser_reader_expression_0 L ((y4, y5), (((0 : Int), ((0 : Int), ((0 : Int), ((0 : Int), ((0 : Int), ((0 : Int), ((0 : Int), zeroS))))))), ((Go.AM.eE y3), (([] : List DMatcher), (([] : List ByteArray), ([] : List DExpr)))))))
theorem e_parser_reader_expression (L : Lvl) (x0 : (List DTok)) (x1 : Int) : r_parser_reader_expression.tree prg0.G (prg0.calls L) (L.P r_parser_reader_expression) prg0.N [] (r_parser_reader_expression.X.inp.mk' (x0, x1) 64) = B_parser_reader_expression L x0 x1 := by kernel_rfl
noncomputable def B_parser_reader_expression_0 (L : Lvl) (x0 : (List DTok)) (x1 : Int) (x2 : Int) (x3 : Int) (x4 : Int) (x5 : Int) (x6 : Int) (x7 : Int) (x8 : Int) (x9 : ByteArray) (x10 : DExpr) (x11 : (List DMatcher)) (x12 : (List ByteArray)) (x13 : (List DExpr)) : Option (Except DFrac (DExpr × ((List DTok) × Int))) :=
  (S_parser_reader_accept L ((⟨#[43]⟩ : ByteArray), (x0, x1))).bind fun ((y14, (y15, y16)) : (Bool × ((List DTok) × Int))) =>
    if y14 = true then
      exc (S_parser_reader_term L (y15, y16)) (fun (y17 : DFrac) => some (.error y17))
      (fun ((y18, (y19, y20)) : (DExpr × ((List DTok) × Int))) => (S_parser_binary L ((0 : Int), ((Go.AM.eE x10), (Go.AM.eE y18)))).bind fun (y21 : DExpr) =>
          P_parser_reader_expression_0 L ((y19, y20), ((x2, (x3, (x4, (x5, (x6, (x7, (x8, x9))))))), ((Go.AM.eE y21), (x11, (x12, x13))))))
    else
      (S_parser_reader_accept L ((⟨#[45]⟩ : ByteArray), (y15, y16))).bind fun ((y22, (y23, y24)) : (Bool × ((List DTok) × Int))) =>
        if y22 = true then
          exc (S_parser_reader_term L (y23, y24)) (fun (y25 : DFrac) => some (.error y25))
          (fun ((y26, (y27, y28)) : (DExpr × ((List DTok) × Int))) => (S_parser_binary L ((1 : Int), ((Go.AM.eE x10), (Go.AM.eE y26)))).bind fun (y29 : DExpr) =>
              P_parser_reader_expression_0 L ((y27, y28), ((x2, (x3, (x4, (x5, (x6, (x7, (x8, x9))))))), ((Go.AM.eE y29), (x11, (x12, x13))))))
        else
          some (.ok ((Go.AM.eE x10), (y23, y24)))
theorem e_parser_reader_expression_0 (L : Lvl) (x0 : (List DTok)) (x1 : Int) (x2 : Int) (x3 : Int) (x4 : Int) (x5 : Int) (x6 : Int) (x7 : Int) (x8 : Int) (x9 : ByteArray) (x10 : DExpr) (x11 : (List DMatcher)) (x12 : (List ByteArray)) (x13 : (List DExpr)) : r_parser_reader_expression.tree prg0.G (prg0.calls L) (L.P r_parser_reader_expression) prg0.N [0, 0, 1, 1] (q_parser_reader_expression_0.mk' ((x0, x1), ((x2, (x3, (x4, (x5, (x6, (x7, (x8, x9))))))), (x10, (x11, (x12, x13))))) 64) = B_parser_reader_expression_0 L x0 x1 x2 x3 x4 x5 x6 x7 x8 x9 x10 x11 x12 x13 := by kernel_rfl
noncomputable def B_parser_reader_fail (L : Lvl) (x0 : Int) (x1 : (List DTok)) (x2 : Int) : Option (Except DFrac ((List DTok) × Int)) :=
  if (decide ((((List.length x1) : Nat) : Int) > (0 : Int))) = true then
    if (decide (((0 : Int) ≤ (0 : Int)) ∧ ((0 : Int) < (((List.length x1) : Nat) : Int)))) = true then
    some (.error (Go.AM.DFrac.mk (List.getD x1 (0 : Nat) (dflt .tok)).at_ x0))
    else none
  else
    some (.error (Go.AM.DFrac.mk x2 x0))
theorem e_parser_reader_fail (L : Lvl) (x0 : Int) (x1 : (List DTok)) (x2 : Int) : r_parser_reader_fail.tree prg0.G (prg0.calls L) (L.P r_parser_reader_fail) prg0.N [] (r_parser_reader_fail.X.inp.mk' (x0, (x1, x2)) 64) = B_parser_reader_fail L x0 x1 x2 := by kernel_rfl
noncomputable def B_parser_tooLarge (L : Lvl) (x0 : DExpr) : Option Bool :=
  (S_parser_Depth L (Go.AM.eE x0)).bind fun (y1 : Int) =>
    if (decide (y1 > (12 : Int))) = true then
      some true
    else
      (S_parser_Nodes L (Go.AM.eE x0)).bind fun (y2 : Int) =>
        some (decide (y2 > (200 : Int)))
theorem e_parser_tooLarge (L : Lvl) (x0 : DExpr) : r_parser_tooLarge.tree prg0.G (prg0.calls L) (L.P r_parser_tooLarge) prg0.N [] (r_parser_tooLarge.X.inp.mk' x0 64) = B_parser_tooLarge L x0 := by kernel_rfl
noncomputable def B_ref07_Depth (L : Lvl) (x0 : DExpr) : Option Int :=
  P_ref07_Depth_0 L (((0 : Int), (0 : Int)), (Go.AM.eE x0))
theorem e_ref07_Depth (L : Lvl) (x0 : DExpr) : r_ref07_Depth.tree prg0.G (prg0.calls L) (L.P r_ref07_Depth) prg0.N [] (r_ref07_Depth.X.inp.mk' x0 64) = B_ref07_Depth L x0 := by kernel_rfl
noncomputable def B_ref07_Depth_0 (L : Lvl) (x0 : Int) (x1 : Int) (x2 : DExpr) : Option Int :=
  if (decide (x1 < (((List.length x2.kids) : Nat) : Int))) = true then
    if (decide (((0 : Int) ≤ x1) ∧ (x1 < (((List.length x2.kids) : Nat) : Int)))) = true then
    (S_ref07_Depth L (Go.AM.eE (rdx .expr x2.kids x1))).bind fun (y3 : Int) =>
      P_ref07_Depth_0 L (((ite (y3 > x0) y3 x0), (IntKind.wrap .i64 (x1 + (1 : Int)))), (Go.AM.eE x2))
    else none
  else
    some (IntKind.wrap .i64 (x0 + (1 : Int)))
theorem e_ref07_Depth_0 (L : Lvl) (x0 : Int) (x1 : Int) (x2 : DExpr) : r_ref07_Depth.tree prg0.G (prg0.calls L) (L.P r_ref07_Depth) prg0.N [0, 0, 1, 0, 1, 1] (q_ref07_Depth_0.mk' ((x0, x1), x2) 64) = B_ref07_Depth_0 L x0 x1 x2 := by kernel_rfl
noncomputable def B_ref07_Nodes (L : Lvl) (x0 : DExpr) : Option Int :=
  P_ref07_Nodes_0 L (((1 : Int), (0 : Int)), (Go.AM.eE x0))
theorem e_ref07_Nodes (L : Lvl) (x0 : DExpr) : r_ref07_Nodes.tree prg0.G (prg0.calls L) (L.P r_ref07_Nodes) prg0.N [] (r_ref07_Nodes.X.inp.mk' x0 64) = B_ref07_Nodes L x0 := by kernel_rfl
noncomputable def B_ref07_Nodes_0 (L : Lvl) (x0 : Int) (x1 : Int) (x2 : DExpr) : Option Int :=
  if (decide (x1 < (((List.length x2.kids) : Nat) : Int))) = true then
    if (decide (((0 : Int) ≤ x1) ∧ (x1 < (((List.length x2.kids) : Nat) : Int)))) = true then
    (S_ref07_Nodes L (Go.AM.eE (rdx .expr x2.kids x1))).bind fun (y3 : Int) =>
      P_ref07_Nodes_0 L (((IntKind.wrap .i64 (x0 + y3)), (IntKind.wrap .i64 (x1 + (1 : Int)))), (Go.AM.eE x2))
    else none
  else
    some x0
theorem e_ref07_Nodes_0 (L : Lvl) (x0 : Int) (x1 : Int) (x2 : DExpr) : r_ref07_Nodes.tree prg0.G (prg0.calls L) (L.P r_ref07_Nodes) prg0.N [0, 0, 1, 0, 1, 1] (q_ref07_Nodes_0.mk' ((x0, x1), x2) 64) = B_ref07_Nodes_0 L x0 x1 x2 := by kernel_rfl
noncomputable def B_ref07_valid (L : Lvl) (x0 : DExpr) : Option Int :=
  (S_ref07_shaped L (Go.AM.eE x0)).bind fun (y1 : Bool) =>
    if (!y1) = true then
      some (1 : Int)
    else
      (S_ref07_named L (Go.AM.eE x0)).bind fun (y2 : Bool) =>
        if (!y2) = true then
          some (8 : Int)
        else
          if (decide ((((List.length x0.ms) : Nat) : Int) > (8 : Int))) = true then
            some (4 : Int)
          else
            if (decide ((((List.length x0.by_) : Nat) : Int) > (8 : Int))) = true then
              some (4 : Int)
            else
              (S_ref07_within L (Go.AM.eE x0)).bind fun (y3 : Bool) =>
                if (!y3) = true then
                  some (5 : Int)
                else
                  P_ref07_valid_0 L ((0 : Int), (Go.AM.eE x0))
theorem e_ref07_valid (L : Lvl) (x0 : DExpr) : r_ref07_valid.tree prg0.G (prg0.calls L) (L.P r_ref07_valid) prg0.N [] (r_ref07_valid.X.inp.mk' x0 64) = B_ref07_valid L x0 := by kernel_rfl
noncomputable def B_ref07_valid_0 (L : Lvl) (x0 : Int) (x1 : DExpr) : Option Int :=
  if (decide (x0 < (((List.length x1.kids) : Nat) : Int))) = true then
    if (decide (((0 : Int) ≤ x0) ∧ (x0 < (((List.length x1.kids) : Nat) : Int)))) = true then
    (S_ref07_valid L (Go.AM.eE (rdx .expr x1.kids x0))).bind fun (y2 : Int) =>
      if (y2 != (0 : Int)) = true then
        some y2
      else
        P_ref07_valid_0 L ((IntKind.wrap .i64 (x0 + (1 : Int))), (Go.AM.eE x1))
    else none
  else
    some (0 : Int)
theorem e_ref07_valid_0 (L : Lvl) (x0 : Int) (x1 : DExpr) : r_ref07_valid.tree prg0.G (prg0.calls L) (L.P r_ref07_valid) prg0.N [0, 0, 1, 0, 1, 1, 1, 1, 1] (q_ref07_valid_0.mk' (x0, x1) 64) = B_ref07_valid_0 L x0 x1 := by kernel_rfl
noncomputable def B_ref23_Ins (L : Lvl) (x0 : DExpr) : Option DIns :=
  some (Go.AM.DIns.mk x0.kind x0.fn x0.window x0.offset x0.k x0.num x0.name x0.ms x0.by_)
theorem e_ref23_Ins (L : Lvl) (x0 : DExpr) : r_ref23_Ins.tree prg0.G (prg0.calls L) (L.P r_ref23_Ins) prg0.N [] (r_ref23_Ins.X.inp.mk' x0 64) = B_ref23_Ins L x0 := by kernel_rfl
noncomputable def B_ref07_sameMatchers (L : Lvl) (x0 : (List DMatcher)) (x1 : (List DMatcher)) : Option Bool :=
  if ((((List.length x0) : Nat) : Int) != (((List.length x1) : Nat) : Int)) = true then
    some false
  else
    P_ref07_sameMatchers_0 L (x0, (x1, (0 : Int)))
theorem e_ref07_sameMatchers (L : Lvl) (x0 : (List DMatcher)) (x1 : (List DMatcher)) : r_ref07_sameMatchers.tree prg0.G (prg0.calls L) (L.P r_ref07_sameMatchers) prg0.N [] (r_ref07_sameMatchers.X.inp.mk' (x0, x1) 64) = B_ref07_sameMatchers L x0 x1 := by kernel_rfl
noncomputable def B_ref07_sameMatchers_0 (L : Lvl) (x0 : (List DMatcher)) (x1 : (List DMatcher)) (x2 : Int) : Option Bool :=
  if (decide (x2 < (((List.length x0) : Nat) : Int))) = true then
    if (decide (((0 : Int) ≤ x2) ∧ (x2 < (((List.length x0) : Nat) : Int)))) = true then
    if (decide (((0 : Int) ≤ x2) ∧ (x2 < (((List.length x1) : Nat) : Int)))) = true then
    if (!(Go.AM.allB (((ByteArray.toList (rdx .matcher x0 x2).name) == (ByteArray.toList (rdx .matcher x1 x2).name)) :: (((rdx .matcher x0 x2).kind == (rdx .matcher x1 x2).kind) :: (((ByteArray.toList (rdx .matcher x0 x2).value) == (ByteArray.toList (rdx .matcher x1 x2).value)) :: ([] : List Bool)))))) = true then
      some false
    else
      P_ref07_sameMatchers_0 L (x0, (x1, (IntKind.wrap .i64 (x2 + (1 : Int)))))
    else none
    else none
  else
    some true
theorem e_ref07_sameMatchers_0 (L : Lvl) (x0 : (List DMatcher)) (x1 : (List DMatcher)) (x2 : Int) : r_ref07_sameMatchers.tree prg0.G (prg0.calls L) (L.P r_ref07_sameMatchers) prg0.N [0, 0, 1, 0, 1, 1] (q_ref07_sameMatchers_0.mk' (x0, (x1, x2)) 64) = B_ref07_sameMatchers_0 L x0 x1 x2 := by kernel_rfl
noncomputable def B_ref01_SameTexts (L : Lvl) (x0 : (List ByteArray)) (x1 : (List ByteArray)) : Option Bool :=
  if ((((List.length x0) : Nat) : Int) != (((List.length x1) : Nat) : Int)) = true then
    some false
  else
    P_ref01_SameTexts_0 L (x0, (x1, (0 : Int)))
theorem e_ref01_SameTexts (L : Lvl) (x0 : (List ByteArray)) (x1 : (List ByteArray)) : r_ref01_SameTexts.tree prg0.G (prg0.calls L) (L.P r_ref01_SameTexts) prg0.N [] (r_ref01_SameTexts.X.inp.mk' (x0, x1) 64) = B_ref01_SameTexts L x0 x1 := by kernel_rfl
noncomputable def B_ref01_SameTexts_0 (L : Lvl) (x0 : (List ByteArray)) (x1 : (List ByteArray)) (x2 : Int) : Option Bool :=
  if (decide (x2 < (((List.length x0) : Nat) : Int))) = true then
    if (decide (((0 : Int) ≤ x2) ∧ (x2 < (((List.length x0) : Nat) : Int)))) = true then
    if (decide (((0 : Int) ≤ x2) ∧ (x2 < (((List.length x1) : Nat) : Int)))) = true then
    if (!((ByteArray.toList (rdx .str x0 x2)) == (ByteArray.toList (rdx .str x1 x2)))) = true then
      some false
    else
      P_ref01_SameTexts_0 L (x0, (x1, (IntKind.wrap .i64 (x2 + (1 : Int)))))
    else none
    else none
  else
    some true
theorem e_ref01_SameTexts_0 (L : Lvl) (x0 : (List ByteArray)) (x1 : (List ByteArray)) (x2 : Int) : r_ref01_SameTexts.tree prg0.G (prg0.calls L) (L.P r_ref01_SameTexts) prg0.N [0, 0, 1, 0, 1, 1] (q_ref01_SameTexts_0.mk' (x0, (x1, x2)) 64) = B_ref01_SameTexts_0 L x0 x1 x2 := by kernel_rfl
noncomputable def B_ref07_G_next (L : Lvl) (x0 : Int) (x1 : (List Int)) (x2 : Int) (x3 : (List ByteArray)) (x4 : Int) : Option (Int × ((List Int) × (Int × ((List ByteArray) × Int)))) :=
  (S_ref01_Pick L (x1, ((IntKind.wrap .i64 ((IntKind.wrap .i64 (x2 + (1 : Int))) - (1 : Int))), x0))).bind fun (y5 : Int) =>
    some (y5, (x1, ((IntKind.wrap .i64 (x2 + (1 : Int))), (x3, x4))))
theorem e_ref07_G_next (L : Lvl) (x0 : Int) (x1 : (List Int)) (x2 : Int) (x3 : (List ByteArray)) (x4 : Int) : r_ref07_G_next.tree prg0.G (prg0.calls L) (L.P r_ref07_G_next) prg0.N [] (r_ref07_G_next.X.inp.mk' (x0, (x1, (x2, (x3, x4)))) 64) = B_ref07_G_next L x0 x1 x2 x3 x4 := by kernel_rfl
noncomputable def B_ref07_G_selection (L : Lvl) (x0 : (List Int)) (x1 : Int) (x2 : (List ByteArray)) (x3 : Int) : Option (DExpr × ((List Int) × (Int × ((List ByteArray) × Int)))) :=
  (S_ref07_G_next L ((8 : Int), (x0, (x1, (x2, x3))))).bind fun ((y4, (y5, (y6, (y7, y8)))) : (Int × ((List Int) × (Int × ((List ByteArray) × Int))))) =>
    if (holdsP (((y7 = y7) ∧ (True)) ∧ (((x2 = y7) ∧ (True)) ∧ (True)))) = true then
    if (holdsP (((y7 = y7) ∧ (True)) ∧ (((x2 = y7) ∧ (True)) ∧ (True)))) = true then
    (S_ref07_G_next L ((((List.length y7) : Nat) : Int), (y5, (y6, (y7, y8))))).bind fun ((y9, (y10, (y11, (y12, y13)))) : (Int × ((List Int) × (Int × ((List ByteArray) × Int))))) =>
      if (holdsP (((y12 = y7) ∧ (True)) ∧ (((y7 = y7) ∧ (True)) ∧ (True)))) = true then
      if (decide (((0 : Int) ≤ y9) ∧ (y9 < (((List.length y7) : Nat) : Int)))) = true then
      if (y4 != (0 : Int)) = true then
        (S_ref07_G_next L (y13, (y10, (y11, (y12, y13))))).bind fun ((y14, (y15, (y16, (y17, y18)))) : (Int × ((List Int) × (Int × ((List ByteArray) × Int))))) =>
          if (y4 == (7 : Int)) = true then
            (S_ref07_G_next L ((IntKind.wrap .i64 ((1 : Int) + y14)), (y15, (y16, (y17, y18))))).bind fun ((y19, (y20, (y21, (y22, y23)))) : (Int × ((List Int) × (Int × ((List ByteArray) × Int))))) =>
              (S_ref07_G_next L ((2 : Int), (y20, (y21, (y22, y23))))).bind fun ((y24, (y25, (y26, (y27, y28)))) : (Int × ((List Int) × (Int × ((List ByteArray) × Int))))) =>
                if (y24 == (1 : Int)) = true then
                  (S_ref07_G_next L ((IntKind.wrap .i64 (y28 + (1 : Int))), (y25, (y26, (y27, y28))))).bind fun ((y29, (y30, (y31, (y32, y33)))) : (Int × ((List Int) × (Int × ((List ByteArray) × Int))))) =>
                    (S_ref07_G_next L ((2 : Int), (y30, (y31, (y32, y33))))).bind fun ((y34, (y35, (y36, (y37, y38)))) : (Int × ((List Int) × (Int × ((List ByteArray) × Int))))) =>
                      if (y34 == (1 : Int)) = true then
                        P_ref07_G_selection_0 L ((0 : Int), ((y35, (y36, (y37, y38))), (((0 : Int), ((0 : Int), ((0 : Int), ((0 : Int), ((0 : Int), ((0 : Int), ((0 : Int), zeroS))))))), (((1 : Int), (y4, ((IntKind.wrap .i64 ((1 : Int) + y14)), (y29, ((IntKind.wrap .i64 ((1 : Int) + y19)), ((0 : Int), ((0 : Int), (rdx .str y7 y9)))))))), (([] : List DMatcher), (([] : List ByteArray), (([] : List DExpr), (([] : List DMatcher), (([] : List ByteArray), (([] : List DExpr), ([] : List Int)))))))))))
                      else
                        some ((Go.AM.DExpr.mk (1 : Int) y4 (IntKind.wrap .i64 ((1 : Int) + y14)) y29 (IntKind.wrap .i64 ((1 : Int) + y19)) (Go.AM.DFrac.mk (0 : Int) (0 : Int)) (rdx .str y7 y9) ([] : List DMatcher) ([] : List ByteArray) ([] : List DExpr)), (y35, (y36, (y37, y38))))
                else
                  (S_ref07_G_next L ((2 : Int), (y25, (y26, (y27, y28))))).bind fun ((y39, (y40, (y41, (y42, y43)))) : (Int × ((List Int) × (Int × ((List ByteArray) × Int))))) =>
                    if (y39 == (1 : Int)) = true then
                      P_ref07_G_selection_0 L ((0 : Int), ((y40, (y41, (y42, y43))), (((0 : Int), ((0 : Int), ((0 : Int), ((0 : Int), ((0 : Int), ((0 : Int), ((0 : Int), zeroS))))))), (((1 : Int), (y4, ((IntKind.wrap .i64 ((1 : Int) + y14)), ((0 : Int), ((IntKind.wrap .i64 ((1 : Int) + y19)), ((0 : Int), ((0 : Int), (rdx .str y7 y9)))))))), (([] : List DMatcher), (([] : List ByteArray), (([] : List DExpr), (([] : List DMatcher), (([] : List ByteArray), (([] : List DExpr), ([] : List Int)))))))))))
                    else
                      some ((Go.AM.DExpr.mk (1 : Int) y4 (IntKind.wrap .i64 ((1 : Int) + y14)) (0 : Int) (IntKind.wrap .i64 ((1 : Int) + y19)) (Go.AM.DFrac.mk (0 : Int) (0 : Int)) (rdx .str y7 y9) ([] : List DMatcher) ([] : List ByteArray) ([] : List DExpr)), (y40, (y41, (y42, y43))))
          else
            (S_ref07_G_next L ((2 : Int), (y15, (y16, (y17, y18))))).bind fun ((y44, (y45, (y46, (y47, y48)))) : (Int × ((List Int) × (Int × ((List ByteArray) × Int))))) =>
              if (y44 == (1 : Int)) = true then
                (S_ref07_G_next L ((IntKind.wrap .i64 (y48 + (1 : Int))), (y45, (y46, (y47, y48))))).bind fun ((y49, (y50, (y51, (y52, y53)))) : (Int × ((List Int) × (Int × ((List ByteArray) × Int))))) =>
                  (S_ref07_G_next L ((2 : Int), (y50, (y51, (y52, y53))))).bind fun ((y54, (y55, (y56, (y57, y58)))) : (Int × ((List Int) × (Int × ((List ByteArray) × Int))))) =>
                    if (y54 == (1 : Int)) = true then
                      P_ref07_G_selection_0 L ((0 : Int), ((y55, (y56, (y57, y58))), (((0 : Int), ((0 : Int), ((0 : Int), ((0 : Int), ((0 : Int), ((0 : Int), ((0 : Int), zeroS))))))), (((1 : Int), (y4, ((IntKind.wrap .i64 ((1 : Int) + y14)), (y49, ((0 : Int), ((0 : Int), ((0 : Int), (rdx .str y7 y9)))))))), (([] : List DMatcher), (([] : List ByteArray), (([] : List DExpr), (([] : List DMatcher), (([] : List ByteArray), (([] : List DExpr), ([] : List Int)))))))))))
                    else
                      some ((Go.AM.DExpr.mk (1 : Int) y4 (IntKind.wrap .i64 ((1 : Int) + y14)) y49 (0 : Int) (Go.AM.DFrac.mk (0 : Int) (0 : Int)) (rdx .str y7 y9) ([] : List DMatcher) ([] : List ByteArray) ([] : List DExpr)), (y55, (y56, (y57, y58))))
              else
                (S_ref07_G_next L ((2 : Int), (y45, (y46, (y47, y48))))).bind fun ((y59, (y60, (y61, (y62, y63)))) : (Int × ((List Int) × (Int × ((List ByteArray) × Int))))) =>
                  if (y59 == (1 : Int)) = true then
                    P_ref07_G_selection_0 L ((0 : Int), ((y60, (y61, (y62, y63))), (((0 : Int), ((0 : Int), ((0 : Int), ((0 : Int), ((0 : Int), ((0 : Int), ((0 : Int), zeroS))))))), (((1 : Int), (y4, ((IntKind.wrap .i64 ((1 : Int) + y14)), ((0 : Int), ((0 : Int), ((0 : Int), ((0 : Int), (rdx .str y7 y9)))))))), (([] : List DMatcher), (([] : List ByteArray), (([] : List DExpr), (([] : List DMatcher), (([] : List ByteArray), (([] : List DExpr), ([] : List Int)))))))))))
                  else
                    some ((Go.AM.DExpr.mk (1 : Int) y4 (IntKind.wrap .i64 ((1 : Int) + y14)) (0 : Int) (0 : Int) (Go.AM.DFrac.mk (0 : Int) (0 : Int)) (rdx .str y7 y9) ([] : List DMatcher) ([] : List ByteArray) ([] : List DExpr)), (y60, (y61, (y62, y63))))
      else
        if (y4 == (7 : Int)) = true then
          (S_ref07_G_next L ((0 : Int), (y10, (y11, (y12, y13))))).bind fun ((y64, (y65, (y66, (y67, y68)))) : (Int × ((List Int) × (Int × ((List ByteArray) × Int))))) =>
            (S_ref07_G_next L ((2 : Int), (y65, (y66, (y67, y68))))).bind fun ((y69, (y70, (y71, (y72, y73)))) : (Int × ((List Int) × (Int × ((List ByteArray) × Int))))) =>
              if (y69 == (1 : Int)) = true then
                (S_ref07_G_next L ((IntKind.wrap .i64 (y73 + (1 : Int))), (y70, (y71, (y72, y73))))).bind fun ((y74, (y75, (y76, (y77, y78)))) : (Int × ((List Int) × (Int × ((List ByteArray) × Int))))) =>
                  (S_ref07_G_next L ((2 : Int), (y75, (y76, (y77, y78))))).bind fun ((y79, (y80, (y81, (y82, y83)))) : (Int × ((List Int) × (Int × ((List ByteArray) × Int))))) =>
                    if (y79 == (1 : Int)) = true then
                      P_ref07_G_selection_0 L ((0 : Int), ((y80, (y81, (y82, y83))), (((0 : Int), ((0 : Int), ((0 : Int), ((0 : Int), ((0 : Int), ((0 : Int), ((0 : Int), zeroS))))))), (((1 : Int), (y4, ((0 : Int), (y74, ((IntKind.wrap .i64 ((1 : Int) + y64)), ((0 : Int), ((0 : Int), (rdx .str y7 y9)))))))), (([] : List DMatcher), (([] : List ByteArray), (([] : List DExpr), (([] : List DMatcher), (([] : List ByteArray), (([] : List DExpr), ([] : List Int)))))))))))
                    else
                      some ((Go.AM.DExpr.mk (1 : Int) y4 (0 : Int) y74 (IntKind.wrap .i64 ((1 : Int) + y64)) (Go.AM.DFrac.mk (0 : Int) (0 : Int)) (rdx .str y7 y9) ([] : List DMatcher) ([] : List ByteArray) ([] : List DExpr)), (y80, (y81, (y82, y83))))
              else
                (S_ref07_G_next L ((2 : Int), (y70, (y71, (y72, y73))))).bind fun ((y84, (y85, (y86, (y87, y88)))) : (Int × ((List Int) × (Int × ((List ByteArray) × Int))))) =>
                  if (y84 == (1 : Int)) = true then
                    P_ref07_G_selection_0 L ((0 : Int), ((y85, (y86, (y87, y88))), (((0 : Int), ((0 : Int), ((0 : Int), ((0 : Int), ((0 : Int), ((0 : Int), ((0 : Int), zeroS))))))), (((1 : Int), (y4, ((0 : Int), ((0 : Int), ((IntKind.wrap .i64 ((1 : Int) + y64)), ((0 : Int), ((0 : Int), (rdx .str y7 y9)))))))), (([] : List DMatcher), (([] : List ByteArray), (([] : List DExpr), (([] : List DMatcher), (([] : List ByteArray), (([] : List DExpr), ([] : List Int)))))))))))
                  else
                    some ((Go.AM.DExpr.mk (1 : Int) y4 (0 : Int) (0 : Int) (IntKind.wrap .i64 ((1 : Int) + y64)) (Go.AM.DFrac.mk (0 : Int) (0 : Int)) (rdx .str y7 y9) ([] : List DMatcher) ([] : List ByteArray) ([] : List DExpr)), (y85, (y86, (y87, y88))))
        else
          (S_ref07_G_next L ((2 : Int), (y10, (y11, (y12, y13))))).bind fun ((y89, (y90, (y91, (y92, y93)))) : (Int × ((List Int) × (Int × ((List ByteArray) × Int))))) =>
            if (y89 == (1 : Int)) = true then
              (S_ref07_G_next L ((IntKind.wrap .i64 (y93 + (1 : Int))), (y90, (y91, (y92, y93))))).bind fun ((y94, (y95, (y96, (y97, y98)))) : (Int × ((List Int) × (Int × ((List ByteArray) × Int))))) =>
                (S_ref07_G_next L ((2 : Int), (y95, (y96, (y97, y98))))).bind fun ((y99, (y100, (y101, (y102, y103)))) : (Int × ((List Int) × (Int × ((List ByteArray) × Int))))) =>
                  if (y99 == (1 : Int)) = true then
                    P_ref07_G_selection_0 L ((0 : Int), ((y100, (y101, (y102, y103))), (((0 : Int), ((0 : Int), ((0 : Int), ((0 : Int), ((0 : Int), ((0 : Int), ((0 : Int), zeroS))))))), (((1 : Int), (y4, ((0 : Int), (y94, ((0 : Int), ((0 : Int), ((0 : Int), (rdx .str y7 y9)))))))), (([] : List DMatcher), (([] : List ByteArray), (([] : List DExpr), (([] : List DMatcher), (([] : List ByteArray), (([] : List DExpr), ([] : List Int)))))))))))
                  else
                    some ((Go.AM.DExpr.mk (1 : Int) y4 (0 : Int) y94 (0 : Int) (Go.AM.DFrac.mk (0 : Int) (0 : Int)) (rdx .str y7 y9) ([] : List DMatcher) ([] : List ByteArray) ([] : List DExpr)), (y100, (y101, (y102, y103))))
            else
              (S_ref07_G_next L ((2 : Int), (y90, (y91, (y92, y93))))).bind fun ((y104, (y105, (y106, (y107, y108)))) : (Int × ((List Int) × (Int × ((List ByteArray) × Int))))) =>
                if (y104 == (1 : Int)) = true then
                  P_ref07_G_selection_0 L ((0 : Int), ((y105, (y106, (y107, y108))), (((0 : Int), ((0 : Int), ((0 : Int), ((0 : Int), ((0 : Int), ((0 : Int), ((0 : Int), zeroS))))))), (((1 : Int), (y4, ((0 : Int), ((0 : Int), ((0 : Int), ((0 : Int), ((0 : Int), (rdx .str y7 y9)))))))), (([] : List DMatcher), (([] : List ByteArray), (([] : List DExpr), (([] : List DMatcher), (([] : List ByteArray), (([] : List DExpr), ([] : List Int)))))))))))
                else
                  some ((Go.AM.DExpr.mk (1 : Int) y4 (0 : Int) (0 : Int) (0 : Int) (Go.AM.DFrac.mk (0 : Int) (0 : Int)) (rdx .str y7 y9) ([] : List DMatcher) ([] : List ByteArray) ([] : List DExpr)), (y105, (y106, (y107, y108))))
      else none
      else none
    else none
    else none
theorem e_ref07_G_selection (L : Lvl) (x0 : (List Int)) (x1 : Int) (x2 : (List ByteArray)) (x3 : Int) : r_ref07_G_selection.tree prg0.G (prg0.calls L) (L.P r_ref07_G_selection) prg0.N [] (r_ref07_G_selection.X.inp.mk' (x0, (x1, (x2, x3))) 64) = B_ref07_G_selection L x0 x1 x2 x3 := by kernel_rfl
noncomputable def B_ref07_G_selection_0 (L : Lvl) (x0 : Int) (x1 : (List Int)) (x2 : Int) (x3 : (List ByteArray)) (x4 : Int) (x5 : Int) (x6 : Int) (x7 : Int) (x8 : Int) (x9 : Int) (x10 : Int) (x11 : Int) (x12 : ByteArray) (x13 : Int) (x14 : Int) (x15 : Int) (x16 : Int) (x17 : Int) (x18 : Int) (x19 : Int) (x20 : ByteArray) (x21 : (List DMatcher)) (x22 : (List ByteArray)) (x23 : (List DExpr)) (x24 : (List DMatcher)) (x25 : (List ByteArray)) (x26 : (List DExpr)) (x27 : (List Int)) : Option (DExpr × ((List Int) × (Int × ((List ByteArray) × Int)))) :=
  if (decide (x0 < (10 : Int))) = true then
    (S_ref07_G_next L ((1000 : Int), (x1, (x2, (x3, x4))))).bind fun ((y28, (y29, (y30, (y31, y32)))) : (Int × ((List Int) × (Int × ((List ByteArray) × Int))))) =>
      if (true && (decide ((((List.length x27) + (List.length (y28 :: ([] : List Int)))) * (8 : Nat)) ≤ (140737488355328 : Nat)))) = true then
      P_ref07_G_selection_0 L ((IntKind.wrap .i64 (x0 + (1 : Int))), ((y29, (y30, (y31, y32))), ((x5, (x6, (x7, (x8, (x9, (x10, (x11, x12))))))), ((x13, (x14, (x15, (x16, (x17, (x18, (x19, x20))))))), (x21, (x22, (x23, (x24, (x25, (x26, (x27 ++ (y28 :: ([] : List Int)))))))))))))
      else none
  else
    (S_ref05_Matchers L x27).bind fun (y33 : (List DMatcher)) =>
      some ((Go.AM.DExpr.mk x13 x14 x15 x16 x17 (Go.AM.DFrac.mk x18 x19) x20 y33 x25 x26), (x1, (x2, (x3, x4))))
theorem e_ref07_G_selection_0 (L : Lvl) (x0 : Int) (x1 : (List Int)) (x2 : Int) (x3 : (List ByteArray)) (x4 : Int) (x5 : Int) (x6 : Int) (x7 : Int) (x8 : Int) (x9 : Int) (x10 : Int) (x11 : Int) (x12 : ByteArray) (x13 : Int) (x14 : Int) (x15 : Int) (x16 : Int) (x17 : Int) (x18 : Int) (x19 : Int) (x20 : ByteArray) (x21 : (List DMatcher)) (x22 : (List ByteArray)) (x23 : (List DExpr)) (x24 : (List DMatcher)) (x25 : (List ByteArray)) (x26 : (List DExpr)) (x27 : (List Int)) : r_ref07_G_selection.tree prg0.G (prg0.calls L) (L.P r_ref07_G_selection) prg0.N [0, 0, 1, 0, 1, 0, 1, 0, 1, 1, 1, 1, 1] (q_ref07_G_selection_0.mk' (x0, ((x1, (x2, (x3, x4))), ((x5, (x6, (x7, (x8, (x9, (x10, (x11, x12))))))), ((x13, (x14, (x15, (x16, (x17, (x18, (x19, x20))))))), (x21, (x22, (x23, (x24, (x25, (x26, x27)))))))))) 64) = B_ref07_G_selection_0 L x0 x1 x2 x3 x4 x5 x6 x7 x8 x9 x10 x11 x12 x13 x14 x15 x16 x17 x18 x19 x20 x21 x22 x23 x24 x25 x26 x27 := by kernel_rfl
noncomputable def B_ref07_G_group (L : Lvl) (x0 : Int) (x1 : (List Int)) (x2 : Int) (x3 : (List ByteArray)) (x4 : Int) : Option (DExpr × ((List Int) × (Int × ((List ByteArray) × Int)))) :=
  (S_ref07_G_next L ((5 : Int), (x1, (x2, (x3, x4))))).bind fun ((y5, (y6, (y7, (y8, y9)))) : (Int × ((List Int) × (Int × ((List ByteArray) × Int))))) =>
    if (y5 == (4 : Int)) = true then
      (S_ref07_G_next L ((3 : Int), (y6, (y7, (y8, y9))))).bind fun ((y10, (y11, (y12, (y13, y14)))) : (Int × ((List Int) × (Int × ((List ByteArray) × Int))))) =>
        (S_ref05_Names L ()).bind fun (y15 : (List ByteArray)) =>
          (S_ref07_G_next L ((64 : Int), (y11, (y12, (y13, y14))))).bind fun ((y16, (y17, (y18, (y19, y20)))) : (Int × ((List Int) × (Int × ((List ByteArray) × Int))))) =>
            P_ref07_G_group_0 L ((x0, (y15, (y16, (0 : Int)))), ((y17, (y18, (y19, y20))), (((0 : Int), ((0 : Int), ((0 : Int), ((0 : Int), ((0 : Int), ((0 : Int), ((0 : Int), zeroS))))))), (((2 : Int), (y5, ((0 : Int), ((0 : Int), ((IntKind.wrap .i64 ((1 : Int) + y10)), ((0 : Int), ((0 : Int), zeroS))))))), (([] : List DMatcher), (([] : List ByteArray), (([] : List DExpr), (([] : List DMatcher), (([] : List ByteArray), ([] : List DExpr))))))))))
    else
      (S_ref05_Names L ()).bind fun (y21 : (List ByteArray)) =>
        (S_ref07_G_next L ((64 : Int), (y6, (y7, (y8, y9))))).bind fun ((y22, (y23, (y24, (y25, y26)))) : (Int × ((List Int) × (Int × ((List ByteArray) × Int))))) =>
          P_ref07_G_group_0 L ((x0, (y21, (y22, (0 : Int)))), ((y23, (y24, (y25, y26))), (((0 : Int), ((0 : Int), ((0 : Int), ((0 : Int), ((0 : Int), ((0 : Int), ((0 : Int), zeroS))))))), (((2 : Int), (y5, ((0 : Int), ((0 : Int), ((0 : Int), ((0 : Int), ((0 : Int), zeroS))))))), (([] : List DMatcher), (([] : List ByteArray), (([] : List DExpr), (([] : List DMatcher), (([] : List ByteArray), ([] : List DExpr))))))))))
theorem e_ref07_G_group (L : Lvl) (x0 : Int) (x1 : (List Int)) (x2 : Int) (x3 : (List ByteArray)) (x4 : Int) : r_ref07_G_group.tree prg0.G (prg0.calls L) (L.P r_ref07_G_group) prg0.N [] (r_ref07_G_group.X.inp.mk' (x0, (x1, (x2, (x3, x4)))) 64) = B_ref07_G_group L x0 x1 x2 x3 x4 := by kernel_rfl
noncomputable def B_ref07_G_group_0 (L : Lvl) (x0 : Int) (x1 : (List ByteArray)) (x2 : Int) (x3 : Int) (x4 : (List Int)) (x5 : Int) (x6 : (List ByteArray)) (x7 : Int) (x8 : Int) (x9 : Int) (x10 : Int) (x11 : Int) (x12 : Int) (x13 : Int) (x14 : Int) (x15 : ByteArray) (x16 : Int) (x17 : Int) (x18 : Int) (x19 : Int) (x20 : Int) (x21 : Int) (x22 : Int) (x23 : ByteArray) (x24 : (List DMatcher)) (x25 : (List ByteArray)) (x26 : (List DExpr)) (x27 : (List DMatcher)) (x28 : (List ByteArray)) (x29 : (List DExpr)) : Option (DExpr × ((List Int) × (Int × ((List ByteArray) × Int)))) :=
  if (decide (x3 < (((List.length x1) : Nat) : Int))) = true then
    if ((Int.tmod x2 (4 : Int)) == (1 : Int)) = true then
      if (decide (((0 : Int) ≤ x3) ∧ (x3 < (((List.length x1) : Nat) : Int)))) = true then
      if (true && (decide ((((List.length x28) + (List.length ((rdx .str x1 x3) :: ([] : List ByteArray)))) * (16 : Nat)) ≤ (140737488355328 : Nat)))) = true then
      P_ref07_G_group_0 L ((x0, (x1, ((IntKind.wrap .i64 (Int.tdiv x2 (2 : Int))), (IntKind.wrap .i64 (x3 + (1 : Int)))))), ((x4, (x5, (x6, x7))), ((x8, (x9, (x10, (x11, (x12, (x13, (x14, x15))))))), ((x16, (x17, (x18, (x19, (x20, (x21, (x22, x23))))))), (x24, (x25, (x26, (x27, ((x28 ++ ((rdx .str x1 x3) :: ([] : List ByteArray))), x29)))))))))
      else none
      else none
    else
      P_ref07_G_group_0 L ((x0, (x1, ((IntKind.wrap .i64 (Int.tdiv x2 (2 : Int))), (IntKind.wrap .i64 (x3 + (1 : Int)))))), ((x4, (x5, (x6, x7))), ((x8, (x9, (x10, (x11, (x12, (x13, (x14, x15))))))), ((x16, (x17, (x18, (x19, (x20, (x21, (x22, x23))))))), (x24, (x25, (x26, (x27, (x28, x29)))))))))
  else
    (S_ref07_G_expr L ((IntKind.wrap .i64 (x0 - (1 : Int))), (x4, (x5, (x6, x7))))).bind fun ((y30, (y31, (y32, (y33, y34)))) : (DExpr × ((List Int) × (Int × ((List ByteArray) × Int))))) =>
      some ((Go.AM.DExpr.mk x16 x17 x18 x19 x20 (Go.AM.DFrac.mk x21 x22) x23 x27 x28 ((Go.AM.eE y30) :: ([] : List DExpr))), (y31, (y32, (y33, y34))))
theorem e_ref07_G_group_0 (L : Lvl) (x0 : Int) (x1 : (List ByteArray)) (x2 : Int) (x3 : Int) (x4 : (List Int)) (x5 : Int) (x6 : (List ByteArray)) (x7 : Int) (x8 : Int) (x9 : Int) (x10 : Int) (x11 : Int) (x12 : Int) (x13 : Int) (x14 : Int) (x15 : ByteArray) (x16 : Int) (x17 : Int) (x18 : Int) (x19 : Int) (x20 : Int) (x21 : Int) (x22 : Int) (x23 : ByteArray) (x24 : (List DMatcher)) (x25 : (List ByteArray)) (x26 : (List DExpr)) (x27 : (List DMatcher)) (x28 : (List ByteArray)) (x29 : (List DExpr)) : r_ref07_G_group.tree prg0.G (prg0.calls L) (L.P r_ref07_G_group) prg0.N [0, 0, 1, 0, 1, 1, 1, 1, 1] (q_ref07_G_group_0.mk' ((x0, (x1, (x2, x3))), ((x4, (x5, (x6, x7))), ((x8, (x9, (x10, (x11, (x12, (x13, (x14, x15))))))), ((x16, (x17, (x18, (x19, (x20, (x21, (x22, x23))))))), (x24, (x25, (x26, (x27, (x28, x29))))))))) 64) = B_ref07_G_group_0 L x0 x1 x2 x3 x4 x5 x6 x7 x8 x9 x10 x11 x12 x13 x14 x15 x16 x17 x18 x19 x20 x21 x22 x23 x24 x25 x26 x27 x28 x29 := by kernel_rfl
noncomputable def B_parser_valid (L : Lvl) (x0 : DExpr) : Option Int :=
  (S_parser_shaped L (Go.AM.eE x0)).bind fun (y1 : Bool) =>
    if (!y1) = true then
      some (1 : Int)
    else
      (S_parser_named L (Go.AM.eE x0)).bind fun (y2 : Bool) =>
        if (!y2) = true then
          some (8 : Int)
        else
          if (decide ((((List.length x0.ms) : Nat) : Int) > (8 : Int))) = true then
            some (4 : Int)
          else
            if (decide ((((List.length x0.by_) : Nat) : Int) > (8 : Int))) = true then
              some (4 : Int)
            else
              (S_parser_ranged L (Go.AM.eE x0)).bind fun (y3 : Bool) =>
                if (!y3) = true then
                  some (5 : Int)
                else
                  P_parser_valid_0 L (x0.kids, ((((List.length x0.kids) : Nat) : Int), (0 : Int)))
theorem e_parser_valid (L : Lvl) (x0 : DExpr) : r_parser_valid.tree prg0.G (prg0.calls L) (L.P r_parser_valid) prg0.N [] (r_parser_valid.X.inp.mk' x0 64) = B_parser_valid L x0 := by kernel_rfl
noncomputable def B_parser_valid_0 (L : Lvl) (x0 : (List DExpr)) (x1 : Int) (x2 : Int) : Option Int :=
  if (decide (x2 < x1)) = true then
    if (decide (((0 : Int) ≤ x2) ∧ (x2 < (((List.length x0) : Nat) : Int)))) = true then
    (S_parser_valid L (Go.AM.eE (rdx .expr x0 x2))).bind fun (y3 : Int) =>
      if (y3 != (0 : Int)) = true then
        some y3
      else
        P_parser_valid_0 L (x0, (x1, (IntKind.wrap .i64 (x2 + (1 : Int)))))
    else none
  else
    some (0 : Int)
theorem e_parser_valid_0 (L : Lvl) (x0 : (List DExpr)) (x1 : Int) (x2 : Int) : r_parser_valid.tree prg0.G (prg0.calls L) (L.P r_parser_valid) prg0.N [0, 0, 1, 0, 1, 1] (q_parser_valid_0.mk' (x0, (x1, x2)) 64) = B_parser_valid_0 L x0 x1 x2 := by kernel_rfl
noncomputable def B_plan_postfix_1 (L : Lvl) (x0 : (List DIns)) (x1 : DExpr) : Option (DExpr × (List DIns)) :=
  (S_plan_visit L ((Go.AM.eE x1), x0)).bind fun ((y2, y3) : (Bool × (List DIns))) =>
    some ((Go.AM.eE x1), y3)
theorem e_plan_postfix_1 (L : Lvl) (x0 : (List DIns)) (x1 : DExpr) : r_plan_postfix_1.tree prg0.G (prg0.calls L) (L.P r_plan_postfix_1) prg0.N [] (r_plan_postfix_1.X.inp.mk' (x0, x1) 64) = B_plan_postfix_1 L x0 x1 := by kernel_rfl
noncomputable def B_plan_visit (L : Lvl) (x0 : DExpr) (x1 : (List DIns)) : Option (Bool × (List DIns)) :=
  P_plan_visit_0 L ((x0.kids, ((((List.length x0.kids) : Nat) : Int), (0 : Int))), ((Go.AM.eE x0), x1))
theorem e_plan_visit (L : Lvl) (x0 : DExpr) (x1 : (List DIns)) : r_plan_visit.tree prg0.G (prg0.calls L) (L.P r_plan_visit) prg0.N [] (r_plan_visit.X.inp.mk' (x0, x1) 64) = B_plan_visit L x0 x1 := by kernel_rfl
noncomputable def B_plan_visit_0 (L : Lvl) (x0 : (List DExpr)) (x1 : Int) (x2 : Int) (x3 : DExpr) (x4 : (List DIns)) : Option (Bool × (List DIns)) :=
  if (decide (x2 < x1)) = true then
    if (decide (((0 : Int) ≤ x2) ∧ (x2 < (((List.length x0) : Nat) : Int)))) = true then
    (S_plan_visit L ((Go.AM.eE (rdx .expr x0 x2)), x4)).bind fun ((y5, y6) : (Bool × (List DIns))) =>
      if (!y5) = true then
        some (false, y6)
      else
        P_plan_visit_0 L ((x0, (x1, (IntKind.wrap .i64 (x2 + (1 : Int))))), ((Go.AM.eE x3), y6))
    else none
  else
    (Y_plan_Compile L ((Go.AM.eE x3), x4)).bind fun ((y7, y8) : (Bool × (List DIns))) =>
      some (y7, y8)
theorem e_plan_visit_0 (L : Lvl) (x0 : (List DExpr)) (x1 : Int) (x2 : Int) (x3 : DExpr) (x4 : (List DIns)) : r_plan_visit.tree prg0.G (prg0.calls L) (L.P r_plan_visit) prg0.N [0, 0, 1, 0, 1] (q_plan_visit_0.mk' ((x0, (x1, x2)), (x3, x4)) 64) = B_plan_visit_0 L x0 x1 x2 x3 x4 := by kernel_rfl
noncomputable def B_ref05_Names (L : Lvl)  : Option (List ByteArray) :=
  some ((⟨#[97]⟩ : ByteArray) :: ((⟨#[97, 98]⟩ : ByteArray) :: ((⟨#[98]⟩ : ByteArray) :: ((⟨#[106, 111, 98]⟩ : ByteArray) :: ((⟨#[120, 95, 49]⟩ : ByteArray) :: ((⟨#[122, 111, 110, 101]⟩ : ByteArray) :: ([] : List ByteArray)))))))
theorem e_ref05_Names (L : Lvl)  : r_ref05_Names.tree prg0.G (prg0.calls L) (L.P r_ref05_Names) prg0.N [] (r_ref05_Names.X.inp.mk' () 64) = B_ref05_Names L  := by kernel_rfl
noncomputable def B_ref05_values (L : Lvl)  : Option (List ByteArray) :=
  some ((⟨#[97]⟩ : ByteArray) :: ((⟨#[97, 98]⟩ : ByteArray) :: ((⟨#[98]⟩ : ByteArray) :: ((⟨#[120, 49]⟩ : ByteArray) :: ((⟨#[126, 33]⟩ : ByteArray) :: ((⟨#[48]⟩ : ByteArray) :: ([] : List ByteArray)))))))
theorem e_ref05_values (L : Lvl)  : r_ref05_values.tree prg0.G (prg0.calls L) (L.P r_ref05_values) prg0.N [] (r_ref05_values.X.inp.mk' () 64) = B_ref05_values L  := by kernel_rfl
noncomputable def B_labels_Get (L : Lvl) (x0 : (List DLabel)) (x1 : ByteArray) : Option ByteArray :=
  P_labels_Get_0 L (x1, (x0, ((((List.length x0) : Nat) : Int), (0 : Int))))
theorem e_labels_Get (L : Lvl) (x0 : (List DLabel)) (x1 : ByteArray) : r_labels_Get.tree prg0.G (prg0.calls L) (L.P r_labels_Get) prg0.N [] (r_labels_Get.X.inp.mk' (x0, x1) 64) = B_labels_Get L x0 x1 := by kernel_rfl
noncomputable def B_labels_Get_0 (L : Lvl) (x0 : ByteArray) (x1 : (List DLabel)) (x2 : Int) (x3 : Int) : Option ByteArray :=
  if (decide (x3 < x2)) = true then
    if (decide (((0 : Int) ≤ x3) ∧ (x3 < (((List.length x1) : Nat) : Int)))) = true then
    if ((ByteArray.toList (rdx .label x1 x3).name) == (ByteArray.toList x0)) = true then
      some (rdx .label x1 x3).value
    else
      P_labels_Get_0 L (x0, (x1, (x2, (IntKind.wrap .i64 (x3 + (1 : Int))))))
    else none
  else
    some zeroS
theorem e_labels_Get_0 (L : Lvl) (x0 : ByteArray) (x1 : (List DLabel)) (x2 : Int) (x3 : Int) : r_labels_Get.tree prg0.G (prg0.calls L) (L.P r_labels_Get) prg0.N [0, 0, 1, 0, 1] (q_labels_Get_0.mk' (x0, (x1, (x2, x3))) 64) = B_labels_Get_0 L x0 x1 x2 x3 := by kernel_rfl
noncomputable def B_ref05_Match (L : Lvl) (x0 : (List DLabel)) (x1 : (List DMatcher)) : Option Bool :=
  P_ref05_Match_0 L (x0, (x1, (0 : Int)))
theorem e_ref05_Match (L : Lvl) (x0 : (List DLabel)) (x1 : (List DMatcher)) : r_ref05_Match.tree prg0.G (prg0.calls L) (L.P r_ref05_Match) prg0.N [] (r_ref05_Match.X.inp.mk' (x0, x1) 64) = B_ref05_Match L x0 x1 := by kernel_rfl
noncomputable def B_ref05_Match_0 (L : Lvl) (x0 : (List DLabel)) (x1 : (List DMatcher)) (x2 : Int) : Option Bool :=
  if (decide (x2 < (((List.length x1) : Nat) : Int))) = true then
    if (decide (((0 : Int) ≤ x2) ∧ (x2 < (((List.length x1) : Nat) : Int)))) = true then
    if (decide (((0 : Int) ≤ x2) ∧ (x2 < (((List.length x1) : Nat) : Int)))) = true then
    (S_ref05_Get L (x0, (rdx .matcher x1 x2).name)).bind fun (y3 : ByteArray) =>
      (S_ref05_holds L ((rdx .matcher x1 x2), y3)).bind fun (y4 : Bool) =>
        if (!y4) = true then
          some false
        else
          P_ref05_Match_0 L (x0, (x1, (IntKind.wrap .i64 (x2 + (1 : Int)))))
    else none
    else none
  else
    some true
theorem e_ref05_Match_0 (L : Lvl) (x0 : (List DLabel)) (x1 : (List DMatcher)) (x2 : Int) : r_ref05_Match.tree prg0.G (prg0.calls L) (L.P r_ref05_Match) prg0.N [0, 0, 1, 0, 1] (q_ref05_Match_0.mk' (x0, (x1, x2)) 64) = B_ref05_Match_0 L x0 x1 x2 := by kernel_rfl
noncomputable def B_ref02_Int (L : Lvl) (x0 : Int) : Option (List Int) :=
  (S_ref02_Zigzag L x0).bind fun (y1 : Int) =>
    (S_ref02_Uint L y1).bind fun (y2 : (List Int)) =>
      some y2
theorem e_ref02_Int (L : Lvl) (x0 : Int) : r_ref02_Int.tree prg0.G (prg0.calls L) (L.P r_ref02_Int) prg0.N [] (r_ref02_Int.X.inp.mk' x0 64) = B_ref02_Int L x0 := by kernel_rfl
noncomputable def B_ref02_Raw (L : Lvl) (x0 : (List Int)) : Option (List Int) :=
  (S_ref02_Uint L (IntKind.wrap .u64 (((List.length x0) : Nat) : Int))).bind fun (y1 : (List Int)) =>
    if (true && (decide ((((List.length y1) + (List.length x0)) * (1 : Nat)) ≤ (140737488355328 : Nat)))) = true then
    some (y1 ++ x0)
    else none
theorem e_ref02_Raw (L : Lvl) (x0 : (List Int)) : r_ref02_Raw.tree prg0.G (prg0.calls L) (L.P r_ref02_Raw) prg0.N [] (r_ref02_Raw.X.inp.mk' x0 64) = B_ref02_Raw L x0 := by kernel_rfl
noncomputable def B_wire_Writer_Int (L : Lvl) (x0 : Int) (x1 : (List Int)) : Option (List Int) :=
  (S_wire_zigzag L x0).bind fun (y2 : Int) =>
    (S_wire_Writer_Uint L (y2, x1)).bind fun (y3 : (List Int)) =>
      some y3
theorem e_wire_Writer_Int (L : Lvl) (x0 : Int) (x1 : (List Int)) : r_wire_Writer_Int.tree prg0.G (prg0.calls L) (L.P r_wire_Writer_Int) prg0.N [] (r_wire_Writer_Int.X.inp.mk' (x0, x1) 64) = B_wire_Writer_Int L x0 x1 := by kernel_rfl
noncomputable def B_wire_Writer_Uint (L : Lvl) (x0 : Int) (x1 : (List Int)) : Option (List Int) :=
  P_wire_Writer_Uint_0 L (x0, x1)
theorem e_wire_Writer_Uint (L : Lvl) (x0 : Int) (x1 : (List Int)) : r_wire_Writer_Uint.tree prg0.G (prg0.calls L) (L.P r_wire_Writer_Uint) prg0.N [] (r_wire_Writer_Uint.X.inp.mk' (x0, x1) 64) = B_wire_Writer_Uint L x0 x1 := by kernel_rfl
noncomputable def B_wire_Writer_Uint_0 (L : Lvl) (x0 : Int) (x1 : (List Int)) : Option (List Int) :=
  if (decide (x0 ≥ (128 : Int))) = true then
    if (true && (decide ((((List.length x1) + (List.length ((IntKind.wrap .u8 (((BitVec.toNat ((BitVec.ofInt (8 : Nat) (IntKind.wrap .u8 x0)) ||| (BitVec.ofInt (8 : Nat) (128 : Int)))) : Nat) : Int)) :: ([] : List Int)))) * (1 : Nat)) ≤ (140737488355328 : Nat)))) = true then
    P_wire_Writer_Uint_0 L ((Int.fdiv x0 ((2 : Int) ^ (7 : Nat))), (x1 ++ ((IntKind.wrap .u8 (((BitVec.toNat ((BitVec.ofInt (8 : Nat) (IntKind.wrap .u8 x0)) ||| (BitVec.ofInt (8 : Nat) (128 : Int)))) : Nat) : Int)) :: ([] : List Int))))
    else none
  else
    if (true && (decide ((((List.length x1) + (List.length ((IntKind.wrap .u8 x0) :: ([] : List Int)))) * (1 : Nat)) ≤ (140737488355328 : Nat)))) = true then
    some (x1 ++ ((IntKind.wrap .u8 x0) :: ([] : List Int)))
    else none
theorem e_wire_Writer_Uint_0 (L : Lvl) (x0 : Int) (x1 : (List Int)) : r_wire_Writer_Uint.tree prg0.G (prg0.calls L) (L.P r_wire_Writer_Uint) prg0.N [0, 0, 0] (q_wire_Writer_Uint_0.mk' (x0, x1) 64) = B_wire_Writer_Uint_0 L x0 x1 := by kernel_rfl
noncomputable def B_lexer_scanner_all (L : Lvl) (x0 : ByteArray) (x1 : Int) (x2 : Int) (x3 : (List DTok)) : Option ((ByteArray × (Int × Int)) × (List DTok)) :=
  P_lexer_scanner_all_0 L ((x0, (x1, x2)), x3)
theorem e_lexer_scanner_all (L : Lvl) (x0 : ByteArray) (x1 : Int) (x2 : Int) (x3 : (List DTok)) : r_lexer_scanner_all.tree prg0.G (prg0.calls L) (L.P r_lexer_scanner_all) prg0.N [] (r_lexer_scanner_all.X.inp.mk' ((x0, (x1, x2)), x3) 64) = B_lexer_scanner_all L x0 x1 x2 x3 := by kernel_rfl
noncomputable def B_lexer_scanner_all_0 (L : Lvl) (x0 : ByteArray) (x1 : Int) (x2 : Int) (x3 : (List DTok)) : Option ((ByteArray × (Int × Int)) × (List DTok)) :=
  if (decide (((0 : Int) ≤ x1) ∧ ((x1 ≤ (((ByteArray.size x0) : Nat) : Int)) ∧ ((((ByteArray.size x0) : Nat) : Int) ≤ (((ByteArray.size x0) : Nat) : Int))))) = true then
  (base_TrimLeft ((ByteArray.extract x0 (Int.toNat x1) (Int.toNat (((ByteArray.size x0) : Nat) : Int))), (⟨#[9, 10, 13, 32]⟩ : ByteArray))).bind fun (y4 : ByteArray) =>
    if ((ByteArray.toList y4) == (ByteArray.toList zeroS)) = true then
      some ((x0, ((IntKind.wrap .i64 ((((ByteArray.size x0) : Nat) : Int) - (((ByteArray.size y4) : Nat) : Int))), x2)), x3)
    else
      (S_lexer_token L y4).bind fun ((y5, (y6, y7)) : (DTok × (Int × Int))) =>
        if (y7 != (0 : Int)) = true then
          some ((x0, ((IntKind.wrap .i64 ((((ByteArray.size x0) : Nat) : Int) - (((ByteArray.size y4) : Nat) : Int))), y7)), x3)
        else
          (Y_lexer_Tokens L ((Go.AM.DTok.mk y5.kind y5.text y5.n (IntKind.wrap .i64 ((((ByteArray.size x0) : Nat) : Int) - (((ByteArray.size y4) : Nat) : Int)))), x3)).bind fun ((y8, y9) : (Bool × (List DTok))) =>
            if (!y8) = true then
              some ((x0, ((IntKind.wrap .i64 ((IntKind.wrap .i64 ((((ByteArray.size x0) : Nat) : Int) - (((ByteArray.size y4) : Nat) : Int))) + y6)), x2)), y9)
            else
              P_lexer_scanner_all_0 L ((x0, ((IntKind.wrap .i64 ((IntKind.wrap .i64 ((((ByteArray.size x0) : Nat) : Int) - (((ByteArray.size y4) : Nat) : Int))) + y6)), x2)), y9)
  else none
theorem e_lexer_scanner_all_0 (L : Lvl) (x0 : ByteArray) (x1 : Int) (x2 : Int) (x3 : (List DTok)) : r_lexer_scanner_all.tree prg0.G (prg0.calls L) (L.P r_lexer_scanner_all) prg0.N [0, 0] (q_lexer_scanner_all_0.mk' ((x0, (x1, x2)), x3) 64) = B_lexer_scanner_all_0 L x0 x1 x2 x3 := by kernel_rfl
noncomputable def B_parser_reader_term (L : Lvl) (x0 : (List DTok)) (x1 : Int) : Option (Except DFrac (DExpr × ((List DTok) × Int))) :=
  exc (S_parser_reader_factor L (x0, x1)) (fun (y2 : DFrac) => some (.error y2))
  (fun ((y3, (y4, y5)) : (DExpr × ((List DTok) × Int))) => P_parser_reader_term_0 L ((y4, y5), (((0 : Int), ((0 : Int), ((0 : Int), ((0 : Int), ((0 : Int), ((0 : Int), ((0 : Int), zeroS))))))), ((Go.AM.eE y3), (([] : List DMatcher), (([] : List ByteArray), ([] : List DExpr)))))))
theorem e_parser_reader_term (L : Lvl) (x0 : (List DTok)) (x1 : Int) : r_parser_reader_term.tree prg0.G (prg0.calls L) (L.P r_parser_reader_term) prg0.N [] (r_parser_reader_term.X.inp.mk' (x0, x1) 64) = B_parser_reader_term L x0 x1 := by kernel_rfl
noncomputable def B_parser_reader_term_0 (L : Lvl) (x0 : (List DTok)) (x1 : Int) (x2 : Int) (x3 : Int) (x4 : Int) (x5 : Int) (x6 : Int) (x7 : Int) (x8 : Int) (x9 : ByteArray) (x10 : DExpr) (x11 : (List DMatcher)) (x12 : (List ByteArray)) (x13 : (List DExpr)) : Option (Except DFrac (DExpr × ((List DTok) × Int))) :=
  (S_parser_reader_accept L ((⟨#[42]⟩ : ByteArray), (x0, x1))).bind fun ((y14, (y15, y16)) : (Bool × ((List DTok) × Int))) =>
    if y14 = true then
      exc (S_parser_reader_factor L (y15, y16)) (fun (y17 : DFrac) => some (.error y17))
      (fun ((y18, (y19, y20)) : (DExpr × ((List DTok) × Int))) => (S_parser_binary L ((2 : Int), ((Go.AM.eE x10), (Go.AM.eE y18)))).bind fun (y21 : DExpr) =>
          P_parser_reader_term_0 L ((y19, y20), ((x2, (x3, (x4, (x5, (x6, (x7, (x8, x9))))))), ((Go.AM.eE y21), (x11, (x12, x13))))))
    else
      (S_parser_reader_accept L ((⟨#[47]⟩ : ByteArray), (y15, y16))).bind fun ((y22, (y23, y24)) : (Bool × ((List DTok) × Int))) =>
        if y22 = true then
          exc (S_parser_reader_factor L (y23, y24)) (fun (y25 : DFrac) => some (.error y25))
          (fun ((y26, (y27, y28)) : (DExpr × ((List DTok) × Int))) => (S_parser_binary L ((3 : Int), ((Go.AM.eE x10), (Go.AM.eE y26)))).bind fun (y29 : DExpr) =>
              P_parser_reader_term_0 L ((y27, y28), ((x2, (x3, (x4, (x5, (x6, (x7, (x8, x9))))))), ((Go.AM.eE y29), (x11, (x12, x13))))))
        else
          some (.ok ((Go.AM.eE x10), (y23, y24)))
theorem e_parser_reader_term_0 (L : Lvl) (x0 : (List DTok)) (x1 : Int) (x2 : Int) (x3 : Int) (x4 : Int) (x5 : Int) (x6 : Int) (x7 : Int) (x8 : Int) (x9 : ByteArray) (x10 : DExpr) (x11 : (List DMatcher)) (x12 : (List ByteArray)) (x13 : (List DExpr)) : r_parser_reader_term.tree prg0.G (prg0.calls L) (L.P r_parser_reader_term) prg0.N [0, 0, 1, 1] (q_parser_reader_term_0.mk' ((x0, x1), ((x2, (x3, (x4, (x5, (x6, (x7, (x8, x9))))))), (x10, (x11, (x12, x13))))) 64) = B_parser_reader_term_0 L x0 x1 x2 x3 x4 x5 x6 x7 x8 x9 x10 x11 x12 x13 := by kernel_rfl
noncomputable def B_parser_reader_accept (L : Lvl) (x0 : ByteArray) (x1 : (List DTok)) (x2 : Int) : Option (Bool × ((List DTok) × Int)) :=
  (S_parser_reader_is L (x0, (x1, x2))).bind fun ((y3, (y4, y5)) : (Bool × ((List DTok) × Int))) =>
    if y3 = true then
      if (decide (((0 : Int) ≤ (1 : Int)) ∧ (((1 : Int) ≤ (((List.length y4) : Nat) : Int)) ∧ ((((List.length y4) : Nat) : Int) ≤ (((List.length y4) : Nat) : Int))))) = true then
      some (y3, ((List.take (Int.toNat ((((List.length y4) : Nat) : Int) - (1 : Int))) (List.drop (1 : Nat) y4)), y5))
      else none
    else
      some (y3, (y4, y5))
theorem e_parser_reader_accept (L : Lvl) (x0 : ByteArray) (x1 : (List DTok)) (x2 : Int) : r_parser_reader_accept.tree prg0.G (prg0.calls L) (L.P r_parser_reader_accept) prg0.N [] (r_parser_reader_accept.X.inp.mk' (x0, (x1, x2)) 64) = B_parser_reader_accept L x0 x1 x2 := by kernel_rfl
noncomputable def B_parser_binary (L : Lvl) (x0 : Int) (x1 : DExpr) (x2 : DExpr) : Option DExpr :=
  some (Go.AM.DExpr.mk (3 : Int) x0 (0 : Int) (0 : Int) (0 : Int) (Go.AM.DFrac.mk (0 : Int) (0 : Int)) zeroS ([] : List DMatcher) ([] : List ByteArray) ((Go.AM.eE x1) :: ((Go.AM.eE x2) :: ([] : List DExpr))))
theorem e_parser_binary (L : Lvl) (x0 : Int) (x1 : DExpr) (x2 : DExpr) : r_parser_binary.tree prg0.G (prg0.calls L) (L.P r_parser_binary) prg0.N [] (r_parser_binary.X.inp.mk' (x0, (x1, x2)) 64) = B_parser_binary L x0 x1 x2 := by kernel_rfl
noncomputable def B_parser_Depth (L : Lvl) (x0 : DExpr) : Option Int :=
  P_parser_Depth_0 L ((0 : Int), (x0.kids, ((((List.length x0.kids) : Nat) : Int), (0 : Int))))
theorem e_parser_Depth (L : Lvl) (x0 : DExpr) : r_parser_Depth.tree prg0.G (prg0.calls L) (L.P r_parser_Depth) prg0.N [] (r_parser_Depth.X.inp.mk' x0 64) = B_parser_Depth L x0 := by kernel_rfl
noncomputable def B_parser_Depth_0 (L : Lvl) (x0 : Int) (x1 : (List DExpr)) (x2 : Int) (x3 : Int) : Option Int :=
  if (decide (x3 < x2)) = true then
    if (decide (((0 : Int) ≤ x3) ∧ (x3 < (((List.length x1) : Nat) : Int)))) = true then
    (S_parser_Depth L (Go.AM.eE (rdx .expr x1 x3))).bind fun (y4 : Int) =>
      P_parser_Depth_0 L ((ite (y4 > x0) y4 x0), (x1, (x2, (IntKind.wrap .i64 (x3 + (1 : Int))))))
    else none
  else
    some (IntKind.wrap .i64 (x0 + (1 : Int)))
theorem e_parser_Depth_0 (L : Lvl) (x0 : Int) (x1 : (List DExpr)) (x2 : Int) (x3 : Int) : r_parser_Depth.tree prg0.G (prg0.calls L) (L.P r_parser_Depth) prg0.N [0, 0, 1, 0, 1, 1] (q_parser_Depth_0.mk' (x0, (x1, (x2, x3))) 64) = B_parser_Depth_0 L x0 x1 x2 x3 := by kernel_rfl
end Go.AM
