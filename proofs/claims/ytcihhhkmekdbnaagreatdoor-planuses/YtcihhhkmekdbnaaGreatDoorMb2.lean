/-
  What the functions of the program compute, as text: bodies and their equations.
-/
import Derived.Test.YtcihhhkmekdbnaaGreatDoorMd
namespace Go.AM
open Go
set_option maxRecDepth 100000
noncomputable def B_ref07_shaped (L : Lvl) (x0 : DExpr) : Option Bool :=
  if (decide (x0.kind < (0 : Int))) = true then
    some false
  else
    if (decide (x0.kind > (3 : Int))) = true then
      some false
    else
      if (decide (x0.fn < (0 : Int))) = true then
        some false
      else
        if (decide (((0 : Int) ≤ x0.kind) ∧ (x0.kind < (4 : Int)))) = true then
        if (decide ((Int.toNat x0.kind) < (4 : Nat))) = true then
        if (decide (x0.fn ≥ (rdx (.i .i64) ((1 : Int) :: ((8 : Int) :: ((5 : Int) :: ((4 : Int) :: ([] : List Int))))) x0.kind))) = true then
          some false
        else
          if (decide (((0 : Int) ≤ x0.kind) ∧ (x0.kind < (4 : Int)))) = true then
          if (decide ((Int.toNat x0.kind) < (4 : Nat))) = true then
          if ((((List.length x0.kids) : Nat) : Int) != (rdx (.i .i64) ((0 : Int) :: ((0 : Int) :: ((1 : Int) :: ((2 : Int) :: ([] : List Int))))) x0.kind)) = true then
            some false
          else
            if (x0.kind == (0 : Int)) = true then
              (S_ref03_Valid L x0.num).bind fun (y1 : Bool) =>
                if (!y1) = true then
                  some false
                else
                  if (x0.kind != (1 : Int)) = true then
                    if (x0.window != (0 : Int)) = true then
                      some false
                    else
                      if (x0.offset != (0 : Int)) = true then
                        some false
                      else
                        if (!((ByteArray.toList x0.name) == (ByteArray.toList zeroS))) = true then
                          some false
                        else
                          if (decide ((((List.length x0.ms) : Nat) : Int) > (0 : Int))) = true then
                            some false
                          else
                            if (x0.kind != (1 : Int)) = true then
                              if (x0.kind != (2 : Int)) = true then
                                if (x0.k != (0 : Int)) = true then
                                  some false
                                else
                                  if (x0.kind == (2 : Int)) = true then
                                    some true
                                  else
                                    some ((((List.length x0.by_) : Nat) : Int) == (0 : Int))
                              else
                                if (x0.kind == (2 : Int)) = true then
                                  some true
                                else
                                  some ((((List.length x0.by_) : Nat) : Int) == (0 : Int))
                            else
                              if (x0.kind == (2 : Int)) = true then
                                some true
                              else
                                some ((((List.length x0.by_) : Nat) : Int) == (0 : Int))
                  else
                    if (x0.kind != (1 : Int)) = true then
                      if (x0.kind != (2 : Int)) = true then
                        if (x0.k != (0 : Int)) = true then
                          some false
                        else
                          if (x0.kind == (2 : Int)) = true then
                            some true
                          else
                            some ((((List.length x0.by_) : Nat) : Int) == (0 : Int))
                      else
                        if (x0.kind == (2 : Int)) = true then
                          some true
                        else
                          some ((((List.length x0.by_) : Nat) : Int) == (0 : Int))
                    else
                      if (x0.kind == (2 : Int)) = true then
                        some true
                      else
                        some ((((List.length x0.by_) : Nat) : Int) == (0 : Int))
            else
              if (x0.num.num != (0 : Int)) = true then
                some false
              else
                if (x0.num.den != (0 : Int)) = true then
                  some false
                else
                  if (x0.kind != (1 : Int)) = true then
                    if (x0.window != (0 : Int)) = true then
                      some false
                    else
                      if (x0.offset != (0 : Int)) = true then
                        some false
                      else
                        if (!((ByteArray.toList x0.name) == (ByteArray.toList zeroS))) = true then
                          some false
                        else
                          if (decide ((((List.length x0.ms) : Nat) : Int) > (0 : Int))) = true then
                            some false
                          else
                            if (x0.kind != (1 : Int)) = true then
                              if (x0.kind != (2 : Int)) = true then
                                if (x0.k != (0 : Int)) = true then
                                  some false
                                else
                                  if (x0.kind == (2 : Int)) = true then
                                    some true
                                  else
                                    some ((((List.length x0.by_) : Nat) : Int) == (0 : Int))
                              else
                                if (x0.kind == (2 : Int)) = true then
                                  some true
                                else
                                  some ((((List.length x0.by_) : Nat) : Int) == (0 : Int))
                            else
                              if (x0.kind == (2 : Int)) = true then
                                some true
                              else
                                some ((((List.length x0.by_) : Nat) : Int) == (0 : Int))
                  else
                    if (x0.kind != (1 : Int)) = true then
                      if (x0.kind != (2 : Int)) = true then
                        if (x0.k != (0 : Int)) = true then
                          some false
                        else
                          if (x0.kind == (2 : Int)) = true then
                            some true
                          else
                            some ((((List.length x0.by_) : Nat) : Int) == (0 : Int))
                      else
                        if (x0.kind == (2 : Int)) = true then
                          some true
                        else
                          some ((((List.length x0.by_) : Nat) : Int) == (0 : Int))
                    else
                      if (x0.kind == (2 : Int)) = true then
                        some true
                      else
                        some ((((List.length x0.by_) : Nat) : Int) == (0 : Int))
          else none
          else none
        else none
        else none
theorem e_ref07_shaped (L : Lvl) (x0 : DExpr) : r_ref07_shaped.tree prg0.G (prg0.calls L) (L.P r_ref07_shaped) prg0.N [] (r_ref07_shaped.X.inp.mk' x0 64) = B_ref07_shaped L x0 := by kernel_rfl
noncomputable def B_ref07_named (L : Lvl) (x0 : DExpr) : Option Bool :=
  if (x0.kind == (1 : Int)) = true then
    (S_ref05_Name L x0.name).bind fun (y1 : Bool) =>
      if (!y1) = true then
        some false
      else
        (S_ref07_Groups L ()).bind fun (y2 : (List ByteArray)) =>
          (S_ref07_find L (y2, x0.name)).bind fun (y3 : Int) =>
            if (decide (y3 ≥ (0 : Int))) = true then
              some false
            else
              P_ref07_named_0 L ((0 : Int), (Go.AM.eE x0))
  else
    P_ref07_named_0 L ((0 : Int), (Go.AM.eE x0))
theorem e_ref07_named (L : Lvl) (x0 : DExpr) : r_ref07_named.tree prg0.G (prg0.calls L) (L.P r_ref07_named) prg0.N [] (r_ref07_named.X.inp.mk' x0 64) = B_ref07_named L x0 := by kernel_rfl
noncomputable def B_ref07_named_0 (L : Lvl) (x0 : Int) (x1 : DExpr) : Option Bool :=
  if (decide (x0 < (((List.length x1.ms) : Nat) : Int))) = true then
    if (decide (((0 : Int) ≤ x0) ∧ (x0 < (((List.length x1.ms) : Nat) : Int)))) = true then
    (S_ref05_ValidMatcher L (rdx .matcher x1.ms x0)).bind fun (y2 : Bool) =>
      if (!y2) = true then
        some false
      else
        P_ref07_named_0 L ((IntKind.wrap .i64 (x0 + (1 : Int))), (Go.AM.eE x1))
    else none
  else
    P_ref07_named_1 L ((0 : Int), (Go.AM.eE x1))
theorem e_ref07_named_0 (L : Lvl) (x0 : Int) (x1 : DExpr) : r_ref07_named.tree prg0.G (prg0.calls L) (L.P r_ref07_named) prg0.N [0, 0, 1, 0, 1, 1] (q_ref07_named_0.mk' (x0, x1) 64) = B_ref07_named_0 L x0 x1 := by kernel_rfl
noncomputable def B_ref07_named_1 (L : Lvl) (x0 : Int) (x1 : DExpr) : Option Bool :=
  if (decide (x0 < (((List.length x1.by_) : Nat) : Int))) = true then
    if (decide (((0 : Int) ≤ x0) ∧ (x0 < (((List.length x1.by_) : Nat) : Int)))) = true then
    (S_ref05_Name L (rdx .str x1.by_ x0)).bind fun (y2 : Bool) =>
      if (!y2) = true then
        some false
      else
        if (decide (x0 > (0 : Int))) = true then
          if (decide (((0 : Int) ≤ x0) ∧ (x0 < (((List.length x1.by_) : Nat) : Int)))) = true then
          if (decide (((0 : Int) ≤ (IntKind.wrap .i64 (x0 - (1 : Int)))) ∧ ((IntKind.wrap .i64 (x0 - (1 : Int))) < (((List.length x1.by_) : Nat) : Int)))) = true then
          if ((Go.Op.bytesLess (ByteArray.toList (rdx .str x1.by_ x0)) (ByteArray.toList (rdx .str x1.by_ (IntKind.wrap .i64 (x0 - (1 : Int)))))) || ((ByteArray.toList (rdx .str x1.by_ x0)) == (ByteArray.toList (rdx .str x1.by_ (IntKind.wrap .i64 (x0 - (1 : Int))))))) = true then
            some false
          else
            P_ref07_named_1 L ((IntKind.wrap .i64 (x0 + (1 : Int))), (Go.AM.eE x1))
          else none
          else none
        else
          P_ref07_named_1 L ((IntKind.wrap .i64 (x0 + (1 : Int))), (Go.AM.eE x1))
    else none
  else
    some true
theorem e_ref07_named_1 (L : Lvl) (x0 : Int) (x1 : DExpr) : r_ref07_named.tree prg0.G (prg0.calls L) (L.P r_ref07_named) prg0.N [0, 0, 1, 0, 1, 1, 1] (q_ref07_named_1.mk' (x0, x1) 64) = B_ref07_named_1 L x0 x1 := by kernel_rfl
noncomputable def B_ref07_within (L : Lvl) (x0 : DExpr) : Option Bool :=
  if (x0.kind == (1 : Int)) = true then
    if (decide (x0.offset < (0 : Int))) = true then
      some false
    else
      if (decide (x0.offset > (4096 : Int))) = true then
        some false
      else
        if (x0.fn == (0 : Int)) = true then
          if (x0.window == (0 : Int)) = true then
            some (x0.k == (0 : Int))
          else
            some false
        else
          if (decide (x0.window < (1 : Int))) = true then
            some false
          else
            if (decide (x0.window > (4096 : Int))) = true then
              some false
            else
              if (x0.fn == (7 : Int)) = true then
                if (decide (x0.k ≥ (1 : Int))) = true then
                  some (decide (x0.k ≤ x0.window))
                else
                  some false
              else
                some (x0.k == (0 : Int))
  else
    if (x0.kind == (2 : Int)) = true then
      if (x0.fn == (4 : Int)) = true then
        if (decide (x0.k ≥ (1 : Int))) = true then
          some (decide (x0.k ≤ (4096 : Int)))
        else
          some false
      else
        some (x0.k == (0 : Int))
    else
      some (x0.k == (0 : Int))
theorem e_ref07_within (L : Lvl) (x0 : DExpr) : r_ref07_within.tree prg0.G (prg0.calls L) (L.P r_ref07_within) prg0.N [] (r_ref07_within.X.inp.mk' x0 64) = B_ref07_within L x0 := by kernel_rfl
noncomputable def B_ref05_Matchers (L : Lvl) (x0 : (List Int)) : Option (List DMatcher) :=
  (S_ref05_Names L ()).bind fun (y1 : (List ByteArray)) =>
    (S_ref05_values L ()).bind fun (y2 : (List ByteArray)) =>
      if (true && (decide ((((List.length y2) + (2 : Nat)) * (16 : Nat)) ≤ (140737488355328 : Nat)))) = true then
      P_ref05_Matchers_0 L ((x0, (y1, (0 : Int))), ((y2 ++ (zeroS :: ((⟨#[120]⟩ : ByteArray) :: ([] : List ByteArray)))), ([] : List DMatcher)))
      else none
theorem e_ref05_Matchers (L : Lvl) (x0 : (List Int)) : r_ref05_Matchers.tree prg0.G (prg0.calls L) (L.P r_ref05_Matchers) prg0.N [] (r_ref05_Matchers.X.inp.mk' x0 64) = B_ref05_Matchers L x0 := by kernel_rfl
noncomputable def B_ref05_Matchers_0 (L : Lvl) (x0 : (List Int)) (x1 : (List ByteArray)) (x2 : Int) (x3 : (List ByteArray)) (x4 : (List DMatcher)) : Option (List DMatcher) :=
  (S_ref01_Pick L (x0, ((0 : Int), (4 : Int)))).bind fun (y5 : Int) =>
    if (decide (x2 < y5)) = true then
      (S_ref01_Pick L (x0, ((IntKind.wrap .i64 ((IntKind.wrap .i64 ((3 : Int) * x2)) + (1 : Int))), (6 : Int)))).bind fun (y6 : Int) =>
        if (decide (((0 : Int) ≤ y6) ∧ (y6 < (((List.length x1) : Nat) : Int)))) = true then
        (S_ref01_Pick L (x0, ((IntKind.wrap .i64 ((IntKind.wrap .i64 ((3 : Int) * x2)) + (2 : Int))), (3 : Int)))).bind fun (y7 : Int) =>
          (S_ref01_Pick L (x0, ((IntKind.wrap .i64 ((IntKind.wrap .i64 ((3 : Int) * x2)) + (3 : Int))), (8 : Int)))).bind fun (y8 : Int) =>
            if (decide (((0 : Int) ≤ y8) ∧ (y8 < (((List.length x3) : Nat) : Int)))) = true then
            if (decide ((Int.toNat y8) < (List.length x3))) = true then
            if (true && (decide ((((List.length x4) + (List.length ((Go.AM.DMatcher.mk (rdx .str x1 y6) y7 (rdx .str x3 y8)) :: ([] : List DMatcher)))) * (40 : Nat)) ≤ (140737488355328 : Nat)))) = true then
            P_ref05_Matchers_0 L ((x0, (x1, (IntKind.wrap .i64 (x2 + (1 : Int))))), (x3, (x4 ++ ((Go.AM.DMatcher.mk (rdx .str x1 y6) y7 (rdx .str x3 y8)) :: ([] : List DMatcher)))))
            else none
            else none
            else none
        else none
    else
      some x4
theorem e_ref05_Matchers_0 (L : Lvl) (x0 : (List Int)) (x1 : (List ByteArray)) (x2 : Int) (x3 : (List ByteArray)) (x4 : (List DMatcher)) : r_ref05_Matchers.tree prg0.G (prg0.calls L) (L.P r_ref05_Matchers) prg0.N [0, 0, 1, 0, 1, 1, 1, 1] (q_ref05_Matchers_0.mk' ((x0, (x1, x2)), (x3, x4)) 64) = B_ref05_Matchers_0 L x0 x1 x2 x3 x4 := by kernel_rfl
noncomputable def B_parser_shaped (L : Lvl) (x0 : DExpr) : Option Bool :=
  if (x0.kind == (0 : Int)) = true then
    (S_frac_Valid L x0.num).bind fun (y1 : Bool) =>
      if (!y1) = true then
        some false
      else
        if (decide (x0.fn ≥ (0 : Int))) = true then
          if (decide (x0.fn ≤ (0 : Int))) = true then
            if ((((List.length x0.kids) : Nat) : Int) == (0 : Int)) = true then
              (S_parser_Equal L ((Go.AM.DExpr.mk (0 : Int) (0 : Int) x0.window x0.offset x0.k (Go.AM.DFrac.mk (0 : Int) (0 : Int)) x0.name x0.ms x0.by_ ([] : List DExpr)), (Go.AM.DExpr.mk (0 : Int) (0 : Int) (0 : Int) (0 : Int) (0 : Int) (Go.AM.DFrac.mk (0 : Int) (0 : Int)) zeroS ([] : List DMatcher) ([] : List ByteArray) ([] : List DExpr)))).bind fun (y2 : Bool) =>
                some y2
            else
              some false
          else
            some false
        else
          some false
  else
    if (x0.kind == (1 : Int)) = true then
      if (decide (x0.fn ≥ (0 : Int))) = true then
        if (decide (x0.fn ≤ (7 : Int))) = true then
          if ((((List.length x0.kids) : Nat) : Int) == (0 : Int)) = true then
            (S_parser_Equal L ((Go.AM.DExpr.mk (0 : Int) (0 : Int) (0 : Int) (0 : Int) (0 : Int) x0.num zeroS ([] : List DMatcher) x0.by_ ([] : List DExpr)), (Go.AM.DExpr.mk (0 : Int) (0 : Int) (0 : Int) (0 : Int) (0 : Int) (Go.AM.DFrac.mk (0 : Int) (0 : Int)) zeroS ([] : List DMatcher) ([] : List ByteArray) ([] : List DExpr)))).bind fun (y3 : Bool) =>
              some y3
          else
            some false
        else
          some false
      else
        some false
    else
      if (x0.kind == (2 : Int)) = true then
        if (decide (x0.fn ≥ (0 : Int))) = true then
          if (decide (x0.fn ≤ (4 : Int))) = true then
            if ((((List.length x0.kids) : Nat) : Int) == (1 : Int)) = true then
              (S_parser_Equal L ((Go.AM.DExpr.mk (0 : Int) (0 : Int) x0.window x0.offset (0 : Int) x0.num x0.name x0.ms ([] : List ByteArray) ([] : List DExpr)), (Go.AM.DExpr.mk (0 : Int) (0 : Int) (0 : Int) (0 : Int) (0 : Int) (Go.AM.DFrac.mk (0 : Int) (0 : Int)) zeroS ([] : List DMatcher) ([] : List ByteArray) ([] : List DExpr)))).bind fun (y4 : Bool) =>
                some y4
            else
              some false
          else
            some false
        else
          some false
      else
        if (x0.kind == (3 : Int)) = true then
          if (decide (x0.fn ≥ (0 : Int))) = true then
            if (decide (x0.fn ≤ (3 : Int))) = true then
              if ((((List.length x0.kids) : Nat) : Int) == (2 : Int)) = true then
                (S_parser_Equal L ((Go.AM.DExpr.mk (0 : Int) (0 : Int) x0.window x0.offset x0.k x0.num x0.name x0.ms x0.by_ ([] : List DExpr)), (Go.AM.DExpr.mk (0 : Int) (0 : Int) (0 : Int) (0 : Int) (0 : Int) (Go.AM.DFrac.mk (0 : Int) (0 : Int)) zeroS ([] : List DMatcher) ([] : List ByteArray) ([] : List DExpr)))).bind fun (y5 : Bool) =>
                  some y5
              else
                some false
            else
              some false
          else
            some false
        else
          some false
theorem e_parser_shaped (L : Lvl) (x0 : DExpr) : r_parser_shaped.tree prg0.G (prg0.calls L) (L.P r_parser_shaped) prg0.N [] (r_parser_shaped.X.inp.mk' x0 64) = B_parser_shaped L x0 := by kernel_rfl
noncomputable def B_parser_named (L : Lvl) (x0 : DExpr) : Option Bool :=
  if (x0.kind == (1 : Int)) = true then
    (S_labels_Name L x0.name).bind fun (y1 : Bool) =>
      if (!y1) = true then
        some false
      else
        (S_slices_Contains_string L ((List.take (5 : Nat) (List.drop (0 : Nat) ((⟨#[115, 117, 109]⟩ : ByteArray) :: ((⟨#[109, 105, 110]⟩ : ByteArray) :: ((⟨#[109, 97, 120]⟩ : ByteArray) :: ((⟨#[99, 111, 117, 110, 116]⟩ : ByteArray) :: ((⟨#[107, 116, 104]⟩ : ByteArray) :: ([] : List ByteArray)))))))), x0.name)).bind fun (y2 : Bool) =>
          if y2 = true then
            some false
          else
            P_parser_named_0 L ((x0.ms, ((((List.length x0.ms) : Nat) : Int), (0 : Int))), (Go.AM.eE x0))
  else
    P_parser_named_0 L ((x0.ms, ((((List.length x0.ms) : Nat) : Int), (0 : Int))), (Go.AM.eE x0))
theorem e_parser_named (L : Lvl) (x0 : DExpr) : r_parser_named.tree prg0.G (prg0.calls L) (L.P r_parser_named) prg0.N [] (r_parser_named.X.inp.mk' x0 64) = B_parser_named L x0 := by kernel_rfl
noncomputable def B_parser_named_0 (L : Lvl) (x0 : (List DMatcher)) (x1 : Int) (x2 : Int) (x3 : DExpr) : Option Bool :=
  if (decide (x2 < x1)) = true then
    if (decide (((0 : Int) ≤ x2) ∧ (x2 < (((List.length x0) : Nat) : Int)))) = true then
    (S_labels_ValidMatcher L (rdx .matcher x0 x2)).bind fun (y4 : Bool) =>
      if (!y4) = true then
        some false
      else
        P_parser_named_0 L ((x0, (x1, (IntKind.wrap .i64 (x2 + (1 : Int))))), (Go.AM.eE x3))
    else none
  else
    P_parser_named_1 L ((x3.by_, ((((List.length x3.by_) : Nat) : Int), (0 : Int))), (Go.AM.eE x3))
theorem e_parser_named_0 (L : Lvl) (x0 : (List DMatcher)) (x1 : Int) (x2 : Int) (x3 : DExpr) : r_parser_named.tree prg0.G (prg0.calls L) (L.P r_parser_named) prg0.N [0, 0, 1, 0, 1, 1] (q_parser_named_0.mk' ((x0, (x1, x2)), x3) 64) = B_parser_named_0 L x0 x1 x2 x3 := by kernel_rfl
noncomputable def B_parser_named_1 (L : Lvl) (x0 : (List ByteArray)) (x1 : Int) (x2 : Int) (x3 : DExpr) : Option Bool :=
  if (decide (x2 < x1)) = true then
    if (decide (((0 : Int) ≤ x2) ∧ (x2 < (((List.length x0) : Nat) : Int)))) = true then
    (S_labels_Name L (rdx .str x0 x2)).bind fun (y4 : Bool) =>
      if (!y4) = true then
        some false
      else
        if (decide (x2 > (0 : Int))) = true then
          if (decide (((0 : Int) ≤ (IntKind.wrap .i64 (x2 - (1 : Int)))) ∧ ((IntKind.wrap .i64 (x2 - (1 : Int))) < (((List.length x3.by_) : Nat) : Int)))) = true then
          if ((Go.Op.bytesLess (ByteArray.toList (rdx .str x0 x2)) (ByteArray.toList (rdx .str x3.by_ (IntKind.wrap .i64 (x2 - (1 : Int)))))) || ((ByteArray.toList (rdx .str x0 x2)) == (ByteArray.toList (rdx .str x3.by_ (IntKind.wrap .i64 (x2 - (1 : Int))))))) = true then
            some false
          else
            P_parser_named_1 L ((x0, (x1, (IntKind.wrap .i64 (x2 + (1 : Int))))), (Go.AM.eE x3))
          else none
        else
          P_parser_named_1 L ((x0, (x1, (IntKind.wrap .i64 (x2 + (1 : Int))))), (Go.AM.eE x3))
    else none
  else
    some true
theorem e_parser_named_1 (L : Lvl) (x0 : (List ByteArray)) (x1 : Int) (x2 : Int) (x3 : DExpr) : r_parser_named.tree prg0.G (prg0.calls L) (L.P r_parser_named) prg0.N [0, 0, 1, 0, 1, 1, 1] (q_parser_named_1.mk' ((x0, (x1, x2)), x3) 64) = B_parser_named_1 L x0 x1 x2 x3 := by kernel_rfl
noncomputable def B_parser_ranged (L : Lvl) (x0 : DExpr) : Option Bool :=
  if (x0.kind == (2 : Int)) = true then
    if (x0.fn == (4 : Int)) = true then
      (S_parser_between L ((1 : Int), (x0.k, (4096 : Int)))).bind fun (y1 : Bool) =>
        some y1
    else
      if (x0.kind != (1 : Int)) = true then
        some (x0.k == (0 : Int))
      else
        (S_parser_between L ((0 : Int), (x0.offset, (4096 : Int)))).bind fun (y2 : Bool) =>
          if (!y2) = true then
            some false
          else
            if (x0.fn == (0 : Int)) = true then
              if (x0.window == (0 : Int)) = true then
                some (x0.k == (0 : Int))
              else
                some false
            else
              if (x0.fn == (7 : Int)) = true then
                (S_parser_between L ((1 : Int), (x0.window, (4096 : Int)))).bind fun (y3 : Bool) =>
                  if y3 = true then
                    (S_parser_between L ((1 : Int), (x0.k, x0.window))).bind fun (y4 : Bool) =>
                      some y4
                  else
                    some false
              else
                (S_parser_between L ((1 : Int), (x0.window, (4096 : Int)))).bind fun (y5 : Bool) =>
                  if y5 = true then
                    some (x0.k == (0 : Int))
                  else
                    some false
  else
    if (x0.kind != (1 : Int)) = true then
      some (x0.k == (0 : Int))
    else
      (S_parser_between L ((0 : Int), (x0.offset, (4096 : Int)))).bind fun (y6 : Bool) =>
        if (!y6) = true then
          some false
        else
          if (x0.fn == (0 : Int)) = true then
            if (x0.window == (0 : Int)) = true then
              some (x0.k == (0 : Int))
            else
              some false
          else
            if (x0.fn == (7 : Int)) = true then
              (S_parser_between L ((1 : Int), (x0.window, (4096 : Int)))).bind fun (y7 : Bool) =>
                if y7 = true then
                  (S_parser_between L ((1 : Int), (x0.k, x0.window))).bind fun (y8 : Bool) =>
                    some y8
                else
                  some false
            else
              (S_parser_between L ((1 : Int), (x0.window, (4096 : Int)))).bind fun (y9 : Bool) =>
                if y9 = true then
                  some (x0.k == (0 : Int))
                else
                  some false
theorem e_parser_ranged (L : Lvl) (x0 : DExpr) : r_parser_ranged.tree prg0.G (prg0.calls L) (L.P r_parser_ranged) prg0.N [] (r_parser_ranged.X.inp.mk' x0 64) = B_parser_ranged L x0 := by kernel_rfl
noncomputable def B_ref05_holds (L : Lvl) (x0 : DMatcher) (x1 : ByteArray) : Option Bool :=
  if (x0.kind == (0 : Int)) = true then
    some ((ByteArray.toList x1) == (ByteArray.toList x0.value))
  else
    if (x0.kind == (1 : Int)) = true then
      some (!((ByteArray.toList x1) == (ByteArray.toList x0.value)))
    else
      if (x0.kind == (2 : Int)) = true then
        if (decide ((((ByteArray.size x1) : Nat) : Int) ≥ (((ByteArray.size x0.value) : Nat) : Int))) = true then
          if (decide (((0 : Int) ≤ (0 : Int)) ∧ (((0 : Int) ≤ (((ByteArray.size x0.value) : Nat) : Int)) ∧ ((((ByteArray.size x0.value) : Nat) : Int) ≤ (((ByteArray.size x1) : Nat) : Int))))) = true then
          some ((ByteArray.toList (ByteArray.extract x1 (0 : Nat) (Int.toNat (((ByteArray.size x0.value) : Nat) : Int)))) == (ByteArray.toList x0.value))
          else none
        else
          some false
      else
        some false
theorem e_ref05_holds (L : Lvl) (x0 : DMatcher) (x1 : ByteArray) : r_ref05_holds.tree prg0.G (prg0.calls L) (L.P r_ref05_holds) prg0.N [] (r_ref05_holds.X.inp.mk' (x0, x1) 64) = B_ref05_holds L x0 x1 := by kernel_rfl
noncomputable def B_ref05_Get (L : Lvl) (x0 : (List DLabel)) (x1 : ByteArray) : Option ByteArray :=
  P_ref05_Get_0 L (x0, (x1, (0 : Int)))
theorem e_ref05_Get (L : Lvl) (x0 : (List DLabel)) (x1 : ByteArray) : r_ref05_Get.tree prg0.G (prg0.calls L) (L.P r_ref05_Get) prg0.N [] (r_ref05_Get.X.inp.mk' (x0, x1) 64) = B_ref05_Get L x0 x1 := by kernel_rfl
noncomputable def B_ref05_Get_0 (L : Lvl) (x0 : (List DLabel)) (x1 : ByteArray) (x2 : Int) : Option ByteArray :=
  if (decide (x2 < (((List.length x0) : Nat) : Int))) = true then
    if (decide (((0 : Int) ≤ x2) ∧ (x2 < (((List.length x0) : Nat) : Int)))) = true then
    if ((ByteArray.toList (rdx .label x0 x2).name) == (ByteArray.toList x1)) = true then
      if (decide (((0 : Int) ≤ x2) ∧ (x2 < (((List.length x0) : Nat) : Int)))) = true then
      some (rdx .label x0 x2).value
      else none
    else
      P_ref05_Get_0 L (x0, (x1, (IntKind.wrap .i64 (x2 + (1 : Int)))))
    else none
  else
    some zeroS
theorem e_ref05_Get_0 (L : Lvl) (x0 : (List DLabel)) (x1 : ByteArray) (x2 : Int) : r_ref05_Get.tree prg0.G (prg0.calls L) (L.P r_ref05_Get) prg0.N [0, 0, 1, 0, 1] (q_ref05_Get_0.mk' (x0, (x1, x2)) 64) = B_ref05_Get_0 L x0 x1 x2 := by kernel_rfl
noncomputable def B_ref02_Uint (L : Lvl) (x0 : Int) : Option (List Int) :=
  P_ref02_Uint_0 L (x0, ([] : List Int))
theorem e_ref02_Uint (L : Lvl) (x0 : Int) : r_ref02_Uint.tree prg0.G (prg0.calls L) (L.P r_ref02_Uint) prg0.N [] (r_ref02_Uint.X.inp.mk' x0 64) = B_ref02_Uint L x0 := by kernel_rfl
noncomputable def B_ref02_Uint_0 (L : Lvl) (x0 : Int) (x1 : (List Int)) : Option (List Int) :=
  if (decide (x0 > (127 : Int))) = true then
    if (true && (decide ((((List.length x1) + (List.length ((IntKind.wrap .u8 (IntKind.wrap .u64 ((128 : Int) + (Int.tmod x0 (128 : Int))))) :: ([] : List Int)))) * (1 : Nat)) ≤ (140737488355328 : Nat)))) = true then
    P_ref02_Uint_0 L ((IntKind.wrap .u64 (Int.tdiv x0 (128 : Int))), (x1 ++ ((IntKind.wrap .u8 (IntKind.wrap .u64 ((128 : Int) + (Int.tmod x0 (128 : Int))))) :: ([] : List Int))))
    else none
  else
    if (true && (decide ((((List.length x1) + (List.length ((IntKind.wrap .u8 x0) :: ([] : List Int)))) * (1 : Nat)) ≤ (140737488355328 : Nat)))) = true then
    some (x1 ++ ((IntKind.wrap .u8 x0) :: ([] : List Int)))
    else none
theorem e_ref02_Uint_0 (L : Lvl) (x0 : Int) (x1 : (List Int)) : r_ref02_Uint.tree prg0.G (prg0.calls L) (L.P r_ref02_Uint) prg0.N [0, 0, 0, 1, 1] (q_ref02_Uint_0.mk' (x0, x1) 64) = B_ref02_Uint_0 L x0 x1 := by kernel_rfl
noncomputable def B_ref02_Zigzag (L : Lvl) (x0 : Int) : Option Int :=
  if (decide (x0 < (0 : Int))) = true then
    some (IntKind.wrap .u64 ((IntKind.wrap .u64 ((2 : Int) * (IntKind.wrap .u64 (IntKind.wrap .i64 ((0 : Int) - (IntKind.wrap .i64 (x0 + (1 : Int)))))))) + (1 : Int)))
  else
    some (IntKind.wrap .u64 ((2 : Int) * (IntKind.wrap .u64 x0)))
theorem e_ref02_Zigzag (L : Lvl) (x0 : Int) : r_ref02_Zigzag.tree prg0.G (prg0.calls L) (L.P r_ref02_Zigzag) prg0.N [] (r_ref02_Zigzag.X.inp.mk' x0 64) = B_ref02_Zigzag L x0 := by kernel_rfl
noncomputable def B_wire_zigzag (L : Lvl) (x0 : Int) : Option Int :=
  some (IntKind.wrap .u64 (((BitVec.toNat ((BitVec.ofInt (64 : Nat) (IntKind.wrap .u64 ((IntKind.wrap .u64 x0) * ((2 : Int) ^ (1 : Nat))))) ^^^ (BitVec.ofInt (64 : Nat) (IntKind.wrap .u64 (Int.fdiv x0 ((2 : Int) ^ (63 : Nat))))))) : Nat) : Int))
theorem e_wire_zigzag (L : Lvl) (x0 : Int) : r_wire_zigzag.tree prg0.G (prg0.calls L) (L.P r_wire_zigzag) prg0.N [] (r_wire_zigzag.X.inp.mk' x0 64) = B_wire_zigzag L x0 := by kernel_rfl
noncomputable def B_lexer_token (L : Lvl) (x0 : ByteArray) : Option (DTok × (Int × Int)) :=
  if (decide (((0 : Int) ≤ (0 : Int)) ∧ ((0 : Int) < (((ByteArray.size x0) : Nat) : Int)))) = true then
  (base_IndexByte ((⟨#[97, 98, 99, 100, 101, 102, 103, 104, 105, 106, 107, 108, 109, 110, 111, 112, 113, 114, 115, 116, 117, 118, 119, 120, 121, 122]⟩ : ByteArray), (Go.AM.bt x0 (0 : Int)))).bind fun (y1 : Int) =>
    if (decide (y1 ≥ (0 : Int))) = true then
      (S_lexer_prefix L (x0, (⟨#[97, 98, 99, 100, 101, 102, 103, 104, 105, 106, 107, 108, 109, 110, 111, 112, 113, 114, 115, 116, 117, 118, 119, 120, 121, 122, 48, 49, 50, 51, 52, 53, 54, 55, 56, 57, 95]⟩ : ByteArray))).bind fun (y2 : ByteArray) =>
        if (decide ((((ByteArray.size y2) : Nat) : Int) > (16 : Int))) = true then
          some ((Go.AM.DTok.mk (0 : Int) zeroS (0 : Int) (0 : Int)), ((0 : Int), (4 : Int)))
        else
          some ((Go.AM.DTok.mk (0 : Int) y2 (0 : Int) (0 : Int)), ((((ByteArray.size y2) : Nat) : Int), (0 : Int)))
    else
      if (decide (((0 : Int) ≤ (0 : Int)) ∧ ((0 : Int) < (((ByteArray.size x0) : Nat) : Int)))) = true then
      (base_IndexByte ((⟨#[48, 49, 50, 51, 52, 53, 54, 55, 56, 57]⟩ : ByteArray), (Go.AM.bt x0 (0 : Int)))).bind fun (y3 : Int) =>
        if (decide (y3 ≥ (0 : Int))) = true then
          (S_lexer_prefix L (x0, (⟨#[48, 49, 50, 51, 52, 53, 54, 55, 56, 57]⟩ : ByteArray))).bind fun (y4 : ByteArray) =>
            (S_lexer_number L y4).bind fun ((y5, (y6, y7)) : (DTok × (Int × Int))) =>
              some (y5, (y6, y7))
        else
          if (decide (((0 : Int) ≤ (0 : Int)) ∧ ((0 : Int) < (((ByteArray.size x0) : Nat) : Int)))) = true then
          if ((Go.AM.bt x0 (0 : Int)) == (34 : Int)) = true then
            if (decide (((0 : Int) ≤ (1 : Int)) ∧ (((1 : Int) ≤ (((ByteArray.size x0) : Nat) : Int)) ∧ ((((ByteArray.size x0) : Nat) : Int) ≤ (((ByteArray.size x0) : Nat) : Int))))) = true then
            (S_lexer_quoted L (ByteArray.extract x0 (1 : Nat) (Int.toNat (((ByteArray.size x0) : Nat) : Int)))).bind fun ((y8, (y9, y10)) : (DTok × (Int × Int))) =>
              some (y8, (y9, y10))
            else none
          else
            if (decide (((0 : Int) ≤ (0 : Int)) ∧ ((0 : Int) < (((ByteArray.size x0) : Nat) : Int)))) = true then
            if ((Go.AM.bt x0 (0 : Int)) == (33 : Int)) = true then
              if (decide ((2 : Int) > (((ByteArray.size x0) : Nat) : Int))) = true then
                some ((Go.AM.DTok.mk (0 : Int) zeroS (0 : Int) (0 : Int)), ((0 : Int), (2 : Int)))
              else
                if (decide (((0 : Int) ≤ (0 : Int)) ∧ ((0 : Int) < (((ByteArray.size x0) : Nat) : Int)))) = true then
                (base_IndexByte ((⟨#[43, 45, 42, 47, 40, 41, 123, 125, 44, 46, 64, 61, 33, 94]⟩ : ByteArray), (Go.AM.bt x0 (0 : Int)))).bind fun (y11 : Int) =>
                  if (decide (y11 < (0 : Int))) = true then
                    some ((Go.AM.DTok.mk (0 : Int) zeroS (0 : Int) (0 : Int)), ((0 : Int), (2 : Int)))
                  else
                    if (decide (((0 : Int) ≤ (1 : Int)) ∧ ((1 : Int) < (((ByteArray.size x0) : Nat) : Int)))) = true then
                    if ((Go.AM.bt x0 (1 : Int)) != (61 : Int)) = true then
                      some ((Go.AM.DTok.mk (0 : Int) zeroS (0 : Int) (0 : Int)), ((0 : Int), (2 : Int)))
                    else
                      if (decide (((0 : Int) ≤ (0 : Int)) ∧ (((0 : Int) ≤ (2 : Int)) ∧ ((2 : Int) ≤ (((ByteArray.size x0) : Nat) : Int))))) = true then
                      some ((Go.AM.DTok.mk (3 : Int) (ByteArray.extract x0 (0 : Nat) (2 : Nat)) (0 : Int) (0 : Int)), ((2 : Int), (0 : Int)))
                      else none
                    else none
                else none
            else
              if (decide (((0 : Int) ≤ (0 : Int)) ∧ ((0 : Int) < (((ByteArray.size x0) : Nat) : Int)))) = true then
              if ((Go.AM.bt x0 (0 : Int)) == (94 : Int)) = true then
                if (decide ((2 : Int) > (((ByteArray.size x0) : Nat) : Int))) = true then
                  some ((Go.AM.DTok.mk (0 : Int) zeroS (0 : Int) (0 : Int)), ((0 : Int), (2 : Int)))
                else
                  if (decide (((0 : Int) ≤ (0 : Int)) ∧ ((0 : Int) < (((ByteArray.size x0) : Nat) : Int)))) = true then
                  (base_IndexByte ((⟨#[43, 45, 42, 47, 40, 41, 123, 125, 44, 46, 64, 61, 33, 94]⟩ : ByteArray), (Go.AM.bt x0 (0 : Int)))).bind fun (y12 : Int) =>
                    if (decide (y12 < (0 : Int))) = true then
                      some ((Go.AM.DTok.mk (0 : Int) zeroS (0 : Int) (0 : Int)), ((0 : Int), (2 : Int)))
                    else
                      if (decide (((0 : Int) ≤ (1 : Int)) ∧ ((1 : Int) < (((ByteArray.size x0) : Nat) : Int)))) = true then
                      if ((Go.AM.bt x0 (1 : Int)) != (61 : Int)) = true then
                        some ((Go.AM.DTok.mk (0 : Int) zeroS (0 : Int) (0 : Int)), ((0 : Int), (2 : Int)))
                      else
                        if (decide (((0 : Int) ≤ (0 : Int)) ∧ (((0 : Int) ≤ (2 : Int)) ∧ ((2 : Int) ≤ (((ByteArray.size x0) : Nat) : Int))))) = true then
                        some ((Go.AM.DTok.mk (3 : Int) (ByteArray.extract x0 (0 : Nat) (2 : Nat)) (0 : Int) (0 : Int)), ((2 : Int), (0 : Int)))
                        else none
                      else none
                  else none
              else
                if (decide ((1 : Int) > (((ByteArray.size x0) : Nat) : Int))) = true then
                  some ((Go.AM.DTok.mk (0 : Int) zeroS (0 : Int) (0 : Int)), ((0 : Int), (2 : Int)))
                else
                  if (decide (((0 : Int) ≤ (0 : Int)) ∧ ((0 : Int) < (((ByteArray.size x0) : Nat) : Int)))) = true then
                  (base_IndexByte ((⟨#[43, 45, 42, 47, 40, 41, 123, 125, 44, 46, 64, 61, 33, 94]⟩ : ByteArray), (Go.AM.bt x0 (0 : Int)))).bind fun (y13 : Int) =>
                    if (decide (y13 < (0 : Int))) = true then
                      some ((Go.AM.DTok.mk (0 : Int) zeroS (0 : Int) (0 : Int)), ((0 : Int), (2 : Int)))
                    else
                      if (decide (((0 : Int) ≤ (0 : Int)) ∧ (((0 : Int) ≤ (1 : Int)) ∧ ((1 : Int) ≤ (((ByteArray.size x0) : Nat) : Int))))) = true then
                      some ((Go.AM.DTok.mk (3 : Int) (ByteArray.extract x0 (0 : Nat) (1 : Nat)) (0 : Int) (0 : Int)), ((1 : Int), (0 : Int)))
                      else none
                  else none
              else none
            else none
          else none
      else none
  else none
theorem e_lexer_token (L : Lvl) (x0 : ByteArray) : r_lexer_token.tree prg0.G (prg0.calls L) (L.P r_lexer_token) prg0.N [] (r_lexer_token.X.inp.mk' x0 64) = B_lexer_token L x0 := by kernel_rfl
noncomputable def B_parser_reader_factor (L : Lvl) (x0 : (List DTok)) (x1 : Int) : Option (Except DFrac (DExpr × ((List DTok) × Int))) :=
  (S_parser_reader_accept L ((⟨#[40]⟩ : ByteArray), (x0, x1))).bind fun ((y2, (y3, y4)) : (Bool × ((List DTok) × Int))) =>
    if y2 = true then
      exc (S_parser_reader_expression L (y3, y4)) (fun (y5 : DFrac) => some (.error y5))
      (fun ((y6, (y7, y8)) : (DExpr × ((List DTok) × Int))) => exc (S_parser_reader_expect L ((⟨#[41]⟩ : ByteArray), (y7, y8))) (fun (y9 : DFrac) => some (.error y9))
        (fun ((y10, y11) : ((List DTok) × Int)) => some (.ok ((Go.AM.eE y6), (y10, y11)))))
    else
      if (decide ((((List.length y3) : Nat) : Int) > (0 : Int))) = true then
        if (decide (((0 : Int) ≤ (0 : Int)) ∧ ((0 : Int) < (((List.length y3) : Nat) : Int)))) = true then
        if ((List.getD y3 (0 : Nat) (dflt .tok)).kind == (1 : Int)) = true then
          exc (S_parser_reader_number L (((0 : Int), (1073741824 : Int)), (y3, y4))) (fun (y12 : DFrac) => some (.error y12))
          (fun ((y13, (y14, y15)) : (Int × ((List DTok) × Int))) => some (.ok ((Go.AM.DExpr.mk (0 : Int) (0 : Int) (0 : Int) (0 : Int) (0 : Int) (Go.AM.DFrac.mk y13 (1 : Int)) zeroS ([] : List DMatcher) ([] : List ByteArray) ([] : List DExpr)), (y14, y15))))
        else
          exc (S_parser_reader_peek L ((0 : Int), (y3, y4))) (fun (y16 : DFrac) => some (.error y16))
          (fun ((y17, (y18, y19)) : (DTok × ((List DTok) × Int))) => (S_slices_Contains_string L ((List.take (5 : Nat) (List.drop (0 : Nat) ((⟨#[115, 117, 109]⟩ : ByteArray) :: ((⟨#[109, 105, 110]⟩ : ByteArray) :: ((⟨#[109, 97, 120]⟩ : ByteArray) :: ((⟨#[99, 111, 117, 110, 116]⟩ : ByteArray) :: ((⟨#[107, 116, 104]⟩ : ByteArray) :: ([] : List ByteArray)))))))), y17.text)).bind fun (y20 : Bool) =>
              if y20 = true then
                exc (S_parser_reader_group L (y18, y19)) (fun (y21 : DFrac) => some (.error y21))
                (fun ((y22, (y23, y24)) : (DExpr × ((List DTok) × Int))) => some (.ok ((Go.AM.eE y22), (y23, y24))))
              else
                exc (S_parser_reader_selection L (y18, y19)) (fun (y25 : DFrac) => some (.error y25))
                (fun ((y26, (y27, y28)) : (DExpr × ((List DTok) × Int))) => some (.ok ((Go.AM.eE y26), (y27, y28)))))
        else none
      else
        exc (S_parser_reader_peek L ((0 : Int), (y3, y4))) (fun (y29 : DFrac) => some (.error y29))
        (fun ((y30, (y31, y32)) : (DTok × ((List DTok) × Int))) => (S_slices_Contains_string L ((List.take (5 : Nat) (List.drop (0 : Nat) ((⟨#[115, 117, 109]⟩ : ByteArray) :: ((⟨#[109, 105, 110]⟩ : ByteArray) :: ((⟨#[109, 97, 120]⟩ : ByteArray) :: ((⟨#[99, 111, 117, 110, 116]⟩ : ByteArray) :: ((⟨#[107, 116, 104]⟩ : ByteArray) :: ([] : List ByteArray)))))))), y30.text)).bind fun (y33 : Bool) =>
            if y33 = true then
              exc (S_parser_reader_group L (y31, y32)) (fun (y34 : DFrac) => some (.error y34))
              (fun ((y35, (y36, y37)) : (DExpr × ((List DTok) × Int))) => some (.ok ((Go.AM.eE y35), (y36, y37))))
            else
              exc (S_parser_reader_selection L (y31, y32)) (fun (y38 : DFrac) => some (.error y38))
              (fun ((y39, (y40, y41)) : (DExpr × ((List DTok) × Int))) => some (.ok ((Go.AM.eE y39), (y40, y41)))))
theorem e_parser_reader_factor (L : Lvl) (x0 : (List DTok)) (x1 : Int) : r_parser_reader_factor.tree prg0.G (prg0.calls L) (L.P r_parser_reader_factor) prg0.N [] (r_parser_reader_factor.X.inp.mk' (x0, x1) 64) = B_parser_reader_factor L x0 x1 := by kernel_rfl
noncomputable def B_parser_reader_is (L : Lvl) (x0 : ByteArray) (x1 : (List DTok)) (x2 : Int) : Option (Bool × ((List DTok) × Int)) :=
  if (decide ((((List.length x1) : Nat) : Int) > (0 : Int))) = true then
    if (decide (((0 : Int) ≤ (0 : Int)) ∧ ((0 : Int) < (((List.length x1) : Nat) : Int)))) = true then
    if ((ByteArray.toList (List.getD x1 (0 : Nat) (dflt .tok)).text) == (ByteArray.toList x0)) = true then
      if (decide (((0 : Int) ≤ (0 : Int)) ∧ ((0 : Int) < (((List.length x1) : Nat) : Int)))) = true then
      if ((List.getD x1 (0 : Nat) (dflt .tok)).kind == (0 : Int)) = true then
        some (true, (x1, x2))
      else
        if (decide (((0 : Int) ≤ (0 : Int)) ∧ ((0 : Int) < (((List.length x1) : Nat) : Int)))) = true then
        some (((List.getD x1 (0 : Nat) (dflt .tok)).kind == (3 : Int)), (x1, x2))
        else none
      else none
    else
      some (false, (x1, x2))
    else none
  else
    some (false, (x1, x2))
theorem e_parser_reader_is (L : Lvl) (x0 : ByteArray) (x1 : (List DTok)) (x2 : Int) : r_parser_reader_is.tree prg0.G (prg0.calls L) (L.P r_parser_reader_is) prg0.N [] (r_parser_reader_is.X.inp.mk' (x0, (x1, x2)) 64) = B_parser_reader_is L x0 x1 x2 := by kernel_rfl
noncomputable def B_ref03_Valid (L : Lvl) (x0 : DFrac) : Option Bool :=
  if (decide (x0.den < (1 : Int))) = true then
    some false
  else
    (S_ref03_New L (x0.num, x0.den)).bind fun ((y1, y2) : (DFrac × Int)) =>
      if (y2 == (0 : Int)) = true then
        some (Go.AM.allB ((x0.num == y1.num) :: ((x0.den == y1.den) :: ([] : List Bool))))
      else
        some false
theorem e_ref03_Valid (L : Lvl) (x0 : DFrac) : r_ref03_Valid.tree prg0.G (prg0.calls L) (L.P r_ref03_Valid) prg0.N [] (r_ref03_Valid.X.inp.mk' x0 64) = B_ref03_Valid L x0 := by kernel_rfl
noncomputable def B_ref05_Name (L : Lvl) (x0 : ByteArray) : Option Bool :=
  if (decide ((((ByteArray.size x0) : Nat) : Int) < (1 : Int))) = true then
    some false
  else
    if (decide ((((ByteArray.size x0) : Nat) : Int) > (16 : Int))) = true then
      some false
    else
      P_ref05_Name_0 L (x0, (0 : Int))
theorem e_ref05_Name (L : Lvl) (x0 : ByteArray) : r_ref05_Name.tree prg0.G (prg0.calls L) (L.P r_ref05_Name) prg0.N [] (r_ref05_Name.X.inp.mk' x0 64) = B_ref05_Name L x0 := by kernel_rfl
noncomputable def B_ref05_Name_0 (L : Lvl) (x0 : ByteArray) (x1 : Int) : Option Bool :=
  if (decide (x1 < (((ByteArray.size x0) : Nat) : Int))) = true then
    if (decide (((0 : Int) ≤ x1) ∧ (x1 < (((ByteArray.size x0) : Nat) : Int)))) = true then
    if (decide ((Go.AM.bt x0 x1) ≥ (48 : Int))) = true then
      if (decide (((0 : Int) ≤ x1) ∧ (x1 < (((ByteArray.size x0) : Nat) : Int)))) = true then
      if (decide ((Go.AM.bt x0 x1) ≤ (57 : Int))) = true then
        if (decide (((0 : Int) ≤ x1) ∧ (x1 < (((ByteArray.size x0) : Nat) : Int)))) = true then
        (S_ref05_letter L (Go.AM.bt x0 x1)).bind fun (y2 : Bool) =>
          if (!y2) = true then
            if (x1 == (0 : Int)) = true then
              some false
            else
              P_ref05_Name_0 L (x0, (IntKind.wrap .i64 (x1 + (1 : Int))))
          else
            P_ref05_Name_0 L (x0, (IntKind.wrap .i64 (x1 + (1 : Int))))
        else none
      else
        if (decide (((0 : Int) ≤ x1) ∧ (x1 < (((ByteArray.size x0) : Nat) : Int)))) = true then
        if (decide (((0 : Int) ≤ x1) ∧ (x1 < (((ByteArray.size x0) : Nat) : Int)))) = true then
        (S_ref05_letter L (Go.AM.bt x0 x1)).bind fun (y3 : Bool) =>
          if (!y3) = true then
            if (x1 == (0 : Int)) = true then
              some false
            else
              if (!((Go.AM.bt x0 x1) == (95 : Int))) = true then
                some false
              else
                P_ref05_Name_0 L (x0, (IntKind.wrap .i64 (x1 + (1 : Int))))
          else
            P_ref05_Name_0 L (x0, (IntKind.wrap .i64 (x1 + (1 : Int))))
        else none
        else none
      else none
    else
      if (decide (((0 : Int) ≤ x1) ∧ (x1 < (((ByteArray.size x0) : Nat) : Int)))) = true then
      if (decide (((0 : Int) ≤ x1) ∧ (x1 < (((ByteArray.size x0) : Nat) : Int)))) = true then
      (S_ref05_letter L (Go.AM.bt x0 x1)).bind fun (y4 : Bool) =>
        if (!y4) = true then
          if (x1 == (0 : Int)) = true then
            some false
          else
            if (!((Go.AM.bt x0 x1) == (95 : Int))) = true then
              some false
            else
              P_ref05_Name_0 L (x0, (IntKind.wrap .i64 (x1 + (1 : Int))))
        else
          P_ref05_Name_0 L (x0, (IntKind.wrap .i64 (x1 + (1 : Int))))
      else none
      else none
    else none
  else
    some true
theorem e_ref05_Name_0 (L : Lvl) (x0 : ByteArray) (x1 : Int) : r_ref05_Name.tree prg0.G (prg0.calls L) (L.P r_ref05_Name) prg0.N [0, 0, 1, 0, 1, 1] (q_ref05_Name_0.mk' (x0, x1) 64) = B_ref05_Name_0 L x0 x1 := by kernel_rfl
noncomputable def B_ref07_find (L : Lvl) (x0 : (List ByteArray)) (x1 : ByteArray) : Option Int :=
  P_ref07_find_0 L (x0, (x1, (0 : Int)))
theorem e_ref07_find (L : Lvl) (x0 : (List ByteArray)) (x1 : ByteArray) : r_ref07_find.tree prg0.G (prg0.calls L) (L.P r_ref07_find) prg0.N [] (r_ref07_find.X.inp.mk' (x0, x1) 64) = B_ref07_find L x0 x1 := by kernel_rfl
noncomputable def B_ref07_find_0 (L : Lvl) (x0 : (List ByteArray)) (x1 : ByteArray) (x2 : Int) : Option Int :=
  if (decide (x2 < (((List.length x0) : Nat) : Int))) = true then
    if (decide (((0 : Int) ≤ x2) ∧ (x2 < (((List.length x0) : Nat) : Int)))) = true then
    if ((ByteArray.toList (rdx .str x0 x2)) == (ByteArray.toList x1)) = true then
      some x2
    else
      P_ref07_find_0 L (x0, (x1, (IntKind.wrap .i64 (x2 + (1 : Int)))))
    else none
  else
    some (-1 : Int)
theorem e_ref07_find_0 (L : Lvl) (x0 : (List ByteArray)) (x1 : ByteArray) (x2 : Int) : r_ref07_find.tree prg0.G (prg0.calls L) (L.P r_ref07_find) prg0.N [0, 0, 1, 0, 1] (q_ref07_find_0.mk' (x0, (x1, x2)) 64) = B_ref07_find_0 L x0 x1 x2 := by kernel_rfl
noncomputable def B_ref07_Groups (L : Lvl)  : Option (List ByteArray) :=
  some ((⟨#[115, 117, 109]⟩ : ByteArray) :: ((⟨#[109, 105, 110]⟩ : ByteArray) :: ((⟨#[109, 97, 120]⟩ : ByteArray) :: ((⟨#[99, 111, 117, 110, 116]⟩ : ByteArray) :: ((⟨#[107, 116, 104]⟩ : ByteArray) :: ([] : List ByteArray))))))
theorem e_ref07_Groups (L : Lvl)  : r_ref07_Groups.tree prg0.G (prg0.calls L) (L.P r_ref07_Groups) prg0.N [] (r_ref07_Groups.X.inp.mk' () 64) = B_ref07_Groups L  := by kernel_rfl
noncomputable def B_ref05_ValidMatcher (L : Lvl) (x0 : DMatcher) : Option Bool :=
  (S_ref05_Name L x0.name).bind fun (y1 : Bool) =>
    if y1 = true then
      if (decide (x0.kind ≥ (0 : Int))) = true then
        if (decide (x0.kind ≤ (2 : Int))) = true then
          (S_ref05_Value L x0.value).bind fun (y2 : Bool) =>
            some y2
        else
          some false
      else
        some false
    else
      some false
theorem e_ref05_ValidMatcher (L : Lvl) (x0 : DMatcher) : r_ref05_ValidMatcher.tree prg0.G (prg0.calls L) (L.P r_ref05_ValidMatcher) prg0.N [] (r_ref05_ValidMatcher.X.inp.mk' x0 64) = B_ref05_ValidMatcher L x0 := by kernel_rfl
noncomputable def B_frac_Valid (L : Lvl) (x0 : DFrac) : Option Bool :=
  if (decide (x0.den < (1 : Int))) = true then
    some false
  else
    if (decide (x0.den > (4611686018427387904 : Int))) = true then
      some false
    else
      (S_frac_size L x0.num).bind fun (y1 : Int) =>
        if (decide (y1 > (4611686018427387904 : Int))) = true then
          some false
        else
          (S_frac_size L x0.num).bind fun (y2 : Int) =>
            (S_frac_gcd_uint64 L (y2, (IntKind.wrap .u64 x0.den))).bind fun (y3 : Int) =>
              some (y3 == (1 : Int))
theorem e_frac_Valid (L : Lvl) (x0 : DFrac) : r_frac_Valid.tree prg0.G (prg0.calls L) (L.P r_frac_Valid) prg0.N [] (r_frac_Valid.X.inp.mk' x0 64) = B_frac_Valid L x0 := by kernel_rfl
noncomputable def B_labels_Name (L : Lvl) (x0 : ByteArray) : Option Bool :=
  if ((ByteArray.toList x0) == (ByteArray.toList zeroS)) = true then
    some false
  else
    if (decide ((((ByteArray.size x0) : Nat) : Int) > (16 : Int))) = true then
      some false
    else
      P_labels_Name_0 L (x0, (0 : Nat))
theorem e_labels_Name (L : Lvl) (x0 : ByteArray) : r_labels_Name.tree prg0.G (prg0.calls L) (L.P r_labels_Name) prg0.N [] (r_labels_Name.X.inp.mk' x0 64) = B_labels_Name L x0 := by kernel_rfl
noncomputable def B_labels_Name_0 (L : Lvl) (x0 : ByteArray) (x1 : Nat) : Option Bool :=
  if (decide (x1 < (ByteArray.size x0))) = true then
    if (decide ((((Go.Utf8.decode x0 x1).fst : Nat) : Int) ≥ (97 : Int))) = true then
      if (decide ((((Go.Utf8.decode x0 x1).fst : Nat) : Int) ≥ (48 : Int))) = true then
        if (decide ((((Go.Utf8.decode x0 x1).fst : Nat) : Int) ≤ (57 : Int))) = true then
          if (!(decide ((((Go.Utf8.decode x0 x1).fst : Nat) : Int) ≤ (122 : Int)))) = true then
            if (((x1 : Nat) : Int) == (0 : Int)) = true then
              some false
            else
              P_labels_Name_0 L (x0, (x1 + (Go.Utf8.decode x0 x1).snd))
          else
            P_labels_Name_0 L (x0, (x1 + (Go.Utf8.decode x0 x1).snd))
        else
          if (!(decide ((((Go.Utf8.decode x0 x1).fst : Nat) : Int) ≤ (122 : Int)))) = true then
            if (((x1 : Nat) : Int) == (0 : Int)) = true then
              some false
            else
              if (!((((Go.Utf8.decode x0 x1).fst : Nat) : Int) == (95 : Int))) = true then
                some false
              else
                P_labels_Name_0 L (x0, (x1 + (Go.Utf8.decode x0 x1).snd))
          else
            P_labels_Name_0 L (x0, (x1 + (Go.Utf8.decode x0 x1).snd))
      else
        if (!(decide ((((Go.Utf8.decode x0 x1).fst : Nat) : Int) ≤ (122 : Int)))) = true then
          if (((x1 : Nat) : Int) == (0 : Int)) = true then
            some false
          else
            if (!((((Go.Utf8.decode x0 x1).fst : Nat) : Int) == (95 : Int))) = true then
              some false
            else
              P_labels_Name_0 L (x0, (x1 + (Go.Utf8.decode x0 x1).snd))
        else
          P_labels_Name_0 L (x0, (x1 + (Go.Utf8.decode x0 x1).snd))
    else
      if (decide ((((Go.Utf8.decode x0 x1).fst : Nat) : Int) ≥ (48 : Int))) = true then
        if (decide ((((Go.Utf8.decode x0 x1).fst : Nat) : Int) ≤ (57 : Int))) = true then
          if (((x1 : Nat) : Int) == (0 : Int)) = true then
            some false
          else
            P_labels_Name_0 L (x0, (x1 + (Go.Utf8.decode x0 x1).snd))
        else
          if (((x1 : Nat) : Int) == (0 : Int)) = true then
            some false
          else
            if (!((((Go.Utf8.decode x0 x1).fst : Nat) : Int) == (95 : Int))) = true then
              some false
            else
              P_labels_Name_0 L (x0, (x1 + (Go.Utf8.decode x0 x1).snd))
      else
        if (((x1 : Nat) : Int) == (0 : Int)) = true then
          some false
        else
          if (!((((Go.Utf8.decode x0 x1).fst : Nat) : Int) == (95 : Int))) = true then
            some false
          else
            P_labels_Name_0 L (x0, (x1 + (Go.Utf8.decode x0 x1).snd))
  else
    some true
theorem e_labels_Name_0 (L : Lvl) (x0 : ByteArray) (x1 : Nat) : r_labels_Name.tree prg0.G (prg0.calls L) (L.P r_labels_Name) prg0.N [0, 0, 1, 0, 1, 1] (q_labels_Name_0.mk' (x0, x1) 64) = B_labels_Name_0 L x0 x1 := by kernel_rfl
noncomputable def B_slices_Contains_string (L : Lvl) (x0 : (List ByteArray)) (x1 : ByteArray) : Option Bool :=
  (S_slices_Index_string L (x0, x1)).bind fun (y2 : Int) =>
    some (decide (y2 ≥ (0 : Int)))
theorem e_slices_Contains_string (L : Lvl) (x0 : (List ByteArray)) (x1 : ByteArray) : r_slices_Contains_string.tree prg0.G (prg0.calls L) (L.P r_slices_Contains_string) prg0.N [] (r_slices_Contains_string.X.inp.mk' (x0, x1) 64) = B_slices_Contains_string L x0 x1 := by kernel_rfl
noncomputable def B_labels_ValidMatcher (L : Lvl) (x0 : DMatcher) : Option Bool :=
  (S_labels_Name L x0.name).bind fun (y1 : Bool) =>
    if y1 = true then
      if (decide (x0.kind ≥ (0 : Int))) = true then
        if (decide (x0.kind ≤ (2 : Int))) = true then
          (S_labels_Value L x0.value).bind fun (y2 : Bool) =>
            some y2
        else
          some false
      else
        some false
    else
      some false
theorem e_labels_ValidMatcher (L : Lvl) (x0 : DMatcher) : r_labels_ValidMatcher.tree prg0.G (prg0.calls L) (L.P r_labels_ValidMatcher) prg0.N [] (r_labels_ValidMatcher.X.inp.mk' x0 64) = B_labels_ValidMatcher L x0 := by kernel_rfl
noncomputable def B_parser_between (L : Lvl) (x0 : Int) (x1 : Int) (x2 : Int) : Option Bool :=
  if (decide (x0 ≤ x1)) = true then
    some (decide (x1 ≤ x2))
  else
    some false
theorem e_parser_between (L : Lvl) (x0 : Int) (x1 : Int) (x2 : Int) : r_parser_between.tree prg0.G (prg0.calls L) (L.P r_parser_between) prg0.N [] (r_parser_between.X.inp.mk' (x0, (x1, x2)) 64) = B_parser_between L x0 x1 x2 := by kernel_rfl
noncomputable def B_lexer_prefix (L : Lvl) (x0 : ByteArray) (x1 : ByteArray) : Option ByteArray :=
  P_lexer_prefix_0 L (x0, (x1, (0 : Int)))
theorem e_lexer_prefix (L : Lvl) (x0 : ByteArray) (x1 : ByteArray) : r_lexer_prefix.tree prg0.G (prg0.calls L) (L.P r_lexer_prefix) prg0.N [] (r_lexer_prefix.X.inp.mk' (x0, x1) 64) = B_lexer_prefix L x0 x1 := by kernel_rfl
noncomputable def B_lexer_prefix_0 (L : Lvl) (x0 : ByteArray) (x1 : ByteArray) (x2 : Int) : Option ByteArray :=
  if (decide (x2 < (((ByteArray.size x0) : Nat) : Int))) = true then
    if (decide (((0 : Int) ≤ x2) ∧ (x2 < (((ByteArray.size x0) : Nat) : Int)))) = true then
    (base_IndexByte (x1, (Go.AM.bt x0 x2))).bind fun (y3 : Int) =>
      if (decide (y3 ≥ (0 : Int))) = true then
        P_lexer_prefix_0 L (x0, (x1, (IntKind.wrap .i64 (x2 + (1 : Int)))))
      else
        if (decide (((0 : Int) ≤ (0 : Int)) ∧ (((0 : Int) ≤ x2) ∧ (x2 ≤ (((ByteArray.size x0) : Nat) : Int))))) = true then
        some (ByteArray.extract x0 (0 : Nat) (Int.toNat x2))
        else none
    else none
  else
    if (decide (((0 : Int) ≤ (0 : Int)) ∧ (((0 : Int) ≤ x2) ∧ (x2 ≤ (((ByteArray.size x0) : Nat) : Int))))) = true then
    some (ByteArray.extract x0 (0 : Nat) (Int.toNat x2))
    else none
theorem e_lexer_prefix_0 (L : Lvl) (x0 : ByteArray) (x1 : ByteArray) (x2 : Int) : r_lexer_prefix.tree prg0.G (prg0.calls L) (L.P r_lexer_prefix) prg0.N [0, 0, 0, 1, 1] (q_lexer_prefix_0.mk' (x0, (x1, x2)) 64) = B_lexer_prefix_0 L x0 x1 x2 := by kernel_rfl
noncomputable def B_lexer_number (L : Lvl) (x0 : ByteArray) : Option (DTok × (Int × Int)) :=
  P_lexer_number_0 L ((x0, (0 : Int)), ((Go.AM.DTok.mk (0 : Int) zeroS (0 : Int) (0 : Int)), (x0, (0 : Nat))))
theorem e_lexer_number (L : Lvl) (x0 : ByteArray) : r_lexer_number.tree prg0.G (prg0.calls L) (L.P r_lexer_number) prg0.N [] (r_lexer_number.X.inp.mk' x0 64) = B_lexer_number L x0 := by kernel_rfl
noncomputable def B_lexer_number_0 (L : Lvl) (x0 : ByteArray) (x1 : Int) (x2 : DTok) (x3 : ByteArray) (x4 : Nat) : Option (DTok × (Int × Int)) :=
  if (decide (x4 < (ByteArray.size x3))) = true then
    if (decide ((IntKind.wrap .i64 ((IntKind.wrap .i64 ((10 : Int) * x1)) + (IntKind.wrap .i64 (IntKind.wrap .i32 ((((Go.Utf8.decode x3 x4).fst : Nat) : Int) - (48 : Int)))))) > (1073741824 : Int))) = true then
      some ((Go.AM.DTok.mk (0 : Int) zeroS (0 : Int) (0 : Int)), ((0 : Int), (5 : Int)))
    else
      P_lexer_number_0 L ((x0, (IntKind.wrap .i64 ((IntKind.wrap .i64 ((10 : Int) * x1)) + (IntKind.wrap .i64 (IntKind.wrap .i32 ((((Go.Utf8.decode x3 x4).fst : Nat) : Int) - (48 : Int))))))), (x2, (x3, (x4 + (Go.Utf8.decode x3 x4).snd))))
  else
    some ((Go.AM.DTok.mk (1 : Int) x0 x1 (0 : Int)), ((((ByteArray.size x0) : Nat) : Int), (0 : Int)))
theorem e_lexer_number_0 (L : Lvl) (x0 : ByteArray) (x1 : Int) (x2 : DTok) (x3 : ByteArray) (x4 : Nat) : r_lexer_number.tree prg0.G (prg0.calls L) (L.P r_lexer_number) prg0.N [0, 0, 1, 0, 1, 1] (q_lexer_number_0.mk' ((x0, x1), (x2, (x3, x4))) 64) = B_lexer_number_0 L x0 x1 x2 x3 x4 := by kernel_rfl
noncomputable def B_lexer_quoted (L : Lvl) (x0 : ByteArray) : Option (DTok × (Int × Int)) :=
  (S_strings_Cut L (x0, (⟨#[34]⟩ : ByteArray))).bind fun ((y1, (y2, y3)) : (ByteArray × (ByteArray × Bool))) =>
    if (!y3) = true then
      some ((Go.AM.DTok.mk (0 : Int) zeroS (0 : Int) (0 : Int)), ((0 : Int), (2 : Int)))
    else
      P_lexer_quoted_0 L ((y1, ((((ByteArray.size y1) : Nat) : Int), (0 : Int))), (Go.AM.DTok.mk (0 : Int) zeroS (0 : Int) (0 : Int)))
theorem e_lexer_quoted (L : Lvl) (x0 : ByteArray) : r_lexer_quoted.tree prg0.G (prg0.calls L) (L.P r_lexer_quoted) prg0.N [] (r_lexer_quoted.X.inp.mk' x0 64) = B_lexer_quoted L x0 := by kernel_rfl
noncomputable def B_lexer_quoted_0 (L : Lvl) (x0 : ByteArray) (x1 : Int) (x2 : Int) (x3 : DTok) : Option (DTok × (Int × Int)) :=
  if (decide (x2 < x1)) = true then
    if (decide (((0 : Int) ≤ x2) ∧ (x2 < (((ByteArray.size x0) : Nat) : Int)))) = true then
    if (decide ((Go.AM.bt x0 x2) ≤ (32 : Int))) = true then
      some ((Go.AM.DTok.mk (0 : Int) zeroS (0 : Int) (0 : Int)), ((0 : Int), (2 : Int)))
    else
      if (decide (((0 : Int) ≤ x2) ∧ (x2 < (((ByteArray.size x0) : Nat) : Int)))) = true then
      if (decide ((Go.AM.bt x0 x2) > (126 : Int))) = true then
        some ((Go.AM.DTok.mk (0 : Int) zeroS (0 : Int) (0 : Int)), ((0 : Int), (2 : Int)))
      else
        if (decide (((0 : Int) ≤ x2) ∧ (x2 < (((ByteArray.size x0) : Nat) : Int)))) = true then
        (base_IndexByte ((⟨#[34, 92, 44, 123, 125]⟩ : ByteArray), (Go.AM.bt x0 x2))).bind fun (y4 : Int) =>
          if (decide (y4 ≥ (0 : Int))) = true then
            some ((Go.AM.DTok.mk (0 : Int) zeroS (0 : Int) (0 : Int)), ((0 : Int), (2 : Int)))
          else
            P_lexer_quoted_0 L ((x0, (x1, (IntKind.wrap .i64 (x2 + (1 : Int))))), x3)
        else none
      else none
    else none
  else
    if (decide ((((ByteArray.size x0) : Nat) : Int) > (16 : Int))) = true then
      some ((Go.AM.DTok.mk (0 : Int) zeroS (0 : Int) (0 : Int)), ((0 : Int), (4 : Int)))
    else
      some ((Go.AM.DTok.mk (2 : Int) x0 (0 : Int) (0 : Int)), ((IntKind.wrap .i64 ((((ByteArray.size x0) : Nat) : Int) + (2 : Int))), (0 : Int)))
theorem e_lexer_quoted_0 (L : Lvl) (x0 : ByteArray) (x1 : Int) (x2 : Int) (x3 : DTok) : r_lexer_quoted.tree prg0.G (prg0.calls L) (L.P r_lexer_quoted) prg0.N [0, 0, 1, 0, 1, 1, 1] (q_lexer_quoted_0.mk' ((x0, (x1, x2)), x3) 64) = B_lexer_quoted_0 L x0 x1 x2 x3 := by kernel_rfl
noncomputable def B_parser_reader_expect (L : Lvl) (x0 : ByteArray) (x1 : (List DTok)) (x2 : Int) : Option (Except DFrac ((List DTok) × Int)) :=
  (S_parser_reader_accept L (x0, (x1, x2))).bind fun ((y3, (y4, y5)) : (Bool × ((List DTok) × Int))) =>
    if (!y3) = true then
      exc (S_parser_reader_fail L ((2 : Int), (y4, y5))) (fun (y6 : DFrac) => some (.error y6))
      (fun ((y7, y8) : ((List DTok) × Int)) => some (.ok (y7, y8)))
    else
      some (.ok (y4, y5))
theorem e_parser_reader_expect (L : Lvl) (x0 : ByteArray) (x1 : (List DTok)) (x2 : Int) : r_parser_reader_expect.tree prg0.G (prg0.calls L) (L.P r_parser_reader_expect) prg0.N [] (r_parser_reader_expect.X.inp.mk' (x0, (x1, x2)) 64) = B_parser_reader_expect L x0 x1 x2 := by kernel_rfl
noncomputable def B_parser_reader_number (L : Lvl) (x0 : Int) (x1 : Int) (x2 : (List DTok)) (x3 : Int) : Option (Except DFrac (Int × ((List DTok) × Int))) :=
  exc (S_parser_reader_peek L ((1 : Int), (x2, x3))) (fun (y4 : DFrac) => some (.error y4))
  (fun ((y5, (y6, y7)) : (DTok × ((List DTok) × Int))) => if (decide (y5.n < x0)) = true then
      exc (S_parser_reader_fail L ((5 : Int), (y6, y7))) (fun (y8 : DFrac) => some (.error y8))
      (fun ((y9, y10) : ((List DTok) × Int)) => exc (S_parser_reader_take L ((1 : Int), (y9, y10))) (fun (y11 : DFrac) => some (.error y11))
        (fun ((y12, (y13, y14)) : (DTok × ((List DTok) × Int))) => some (.ok (y12.n, (y13, y14)))))
    else
      if (decide (y5.n > x1)) = true then
        exc (S_parser_reader_fail L ((5 : Int), (y6, y7))) (fun (y15 : DFrac) => some (.error y15))
        (fun ((y16, y17) : ((List DTok) × Int)) => exc (S_parser_reader_take L ((1 : Int), (y16, y17))) (fun (y18 : DFrac) => some (.error y18))
          (fun ((y19, (y20, y21)) : (DTok × ((List DTok) × Int))) => some (.ok (y19.n, (y20, y21)))))
      else
        exc (S_parser_reader_take L ((1 : Int), (y6, y7))) (fun (y22 : DFrac) => some (.error y22))
        (fun ((y23, (y24, y25)) : (DTok × ((List DTok) × Int))) => some (.ok (y23.n, (y24, y25)))))
theorem e_parser_reader_number (L : Lvl) (x0 : Int) (x1 : Int) (x2 : (List DTok)) (x3 : Int) : r_parser_reader_number.tree prg0.G (prg0.calls L) (L.P r_parser_reader_number) prg0.N [] (r_parser_reader_number.X.inp.mk' ((x0, x1), (x2, x3)) 64) = B_parser_reader_number L x0 x1 x2 x3 := by kernel_rfl
noncomputable def B_parser_reader_peek (L : Lvl) (x0 : Int) (x1 : (List DTok)) (x2 : Int) : Option (Except DFrac (DTok × ((List DTok) × Int))) :=
  if ((((List.length x1) : Nat) : Int) == (0 : Int)) = true then
    exc (S_parser_reader_fail L ((2 : Int), (x1, x2))) (fun (y3 : DFrac) => some (.error y3))
    (fun ((y4, y5) : ((List DTok) × Int)) => if (decide (((0 : Int) ≤ (0 : Int)) ∧ ((0 : Int) < (((List.length y4) : Nat) : Int)))) = true then
      some (.ok ((List.getD y4 (0 : Nat) (dflt .tok)), (y4, y5)))
      else none)
  else
    if (decide (((0 : Int) ≤ (0 : Int)) ∧ ((0 : Int) < (((List.length x1) : Nat) : Int)))) = true then
    if ((List.getD x1 (0 : Nat) (dflt .tok)).kind != x0) = true then
      exc (S_parser_reader_fail L ((2 : Int), (x1, x2))) (fun (y6 : DFrac) => some (.error y6))
      (fun ((y7, y8) : ((List DTok) × Int)) => if (decide (((0 : Int) ≤ (0 : Int)) ∧ ((0 : Int) < (((List.length y7) : Nat) : Int)))) = true then
        some (.ok ((List.getD y7 (0 : Nat) (dflt .tok)), (y7, y8)))
        else none)
    else
      if (decide (((0 : Int) ≤ (0 : Int)) ∧ ((0 : Int) < (((List.length x1) : Nat) : Int)))) = true then
      some (.ok ((List.getD x1 (0 : Nat) (dflt .tok)), (x1, x2)))
      else none
    else none
theorem e_parser_reader_peek (L : Lvl) (x0 : Int) (x1 : (List DTok)) (x2 : Int) : r_parser_reader_peek.tree prg0.G (prg0.calls L) (L.P r_parser_reader_peek) prg0.N [] (r_parser_reader_peek.X.inp.mk' (x0, (x1, x2)) 64) = B_parser_reader_peek L x0 x1 x2 := by kernel_rfl
noncomputable def B_parser_reader_group (L : Lvl) (x0 : (List DTok)) (x1 : Int) : Option (Except DFrac (DExpr × ((List DTok) × Int))) :=
  exc (S_parser_reader_take L ((0 : Int), (x0, x1))) (fun (y2 : DFrac) => none)
  (fun ((y3, (y4, y5)) : (DTok × ((List DTok) × Int))) => (S_slices_Index_string L ((List.take (5 : Nat) (List.drop (0 : Nat) ((⟨#[115, 117, 109]⟩ : ByteArray) :: ((⟨#[109, 105, 110]⟩ : ByteArray) :: ((⟨#[109, 97, 120]⟩ : ByteArray) :: ((⟨#[99, 111, 117, 110, 116]⟩ : ByteArray) :: ((⟨#[107, 116, 104]⟩ : ByteArray) :: ([] : List ByteArray)))))))), y3.text)).bind fun (y6 : Int) =>
      if (y6 == (4 : Int)) = true then
        exc (S_parser_reader_expect L ((⟨#[40]⟩ : ByteArray), (y4, y5))) (fun (y7 : DFrac) => some (.error y7))
        (fun ((y8, y9) : ((List DTok) × Int)) => exc (S_parser_reader_number L (((1 : Int), (4096 : Int)), (y8, y9))) (fun (y10 : DFrac) => some (.error y10))
          (fun ((y11, (y12, y13)) : (Int × ((List DTok) × Int))) => exc (S_parser_reader_expect L ((⟨#[41]⟩ : ByteArray), (y12, y13))) (fun (y14 : DFrac) => some (.error y14))
            (fun ((y15, y16) : ((List DTok) × Int)) => (S_parser_reader_accept L ((⟨#[98, 121]⟩ : ByteArray), (y15, y16))).bind fun ((y17, (y18, y19)) : (Bool × ((List DTok) × Int))) =>
                if y17 = true then
                  exc (S_parser_reader_expect L ((⟨#[40]⟩ : ByteArray), (y18, y19))) (fun (y20 : DFrac) => some (.error y20))
                  (fun ((y21, y22) : ((List DTok) × Int)) => none)
                else
                  exc (S_parser_reader_expect L ((⟨#[40]⟩ : ByteArray), (y18, y19))) (fun (y23 : DFrac) => some (.error y23))
                  (fun ((y24, y25) : ((List DTok) × Int)) => exc (S_parser_reader_expression L (y24, y25)) (fun (y26 : DFrac) => some (.error y26))
                    (fun ((y27, (y28, y29)) : (DExpr × ((List DTok) × Int))) => exc (S_parser_reader_expect L ((⟨#[41]⟩ : ByteArray), (y28, y29))) (fun (y30 : DFrac) => some (.error y30))
                      (fun ((y31, y32) : ((List DTok) × Int)) => some (.ok ((Go.AM.DExpr.mk (2 : Int) y6 (0 : Int) (0 : Int) y11 (Go.AM.DFrac.mk (0 : Int) (0 : Int)) zeroS ([] : List DMatcher) ([] : List ByteArray) ((Go.AM.eE y27) :: ([] : List DExpr))), (y31, y32)))))))))
      else
        (S_parser_reader_accept L ((⟨#[98, 121]⟩ : ByteArray), (y4, y5))).bind fun ((y33, (y34, y35)) : (Bool × ((List DTok) × Int))) =>
          if y33 = true then
            exc (S_parser_reader_expect L ((⟨#[40]⟩ : ByteArray), (y34, y35))) (fun (y36 : DFrac) => some (.error y36))
            (fun ((y37, y38) : ((List DTok) × Int)) => none)
          else
            exc (S_parser_reader_expect L ((⟨#[40]⟩ : ByteArray), (y34, y35))) (fun (y39 : DFrac) => some (.error y39))
            (fun ((y40, y41) : ((List DTok) × Int)) => exc (S_parser_reader_expression L (y40, y41)) (fun (y42 : DFrac) => some (.error y42))
              (fun ((y43, (y44, y45)) : (DExpr × ((List DTok) × Int))) => exc (S_parser_reader_expect L ((⟨#[41]⟩ : ByteArray), (y44, y45))) (fun (y46 : DFrac) => some (.error y46))
                (fun ((y47, y48) : ((List DTok) × Int)) => some (.ok ((Go.AM.DExpr.mk (2 : Int) y6 (0 : Int) (0 : Int) (0 : Int) (Go.AM.DFrac.mk (0 : Int) (0 : Int)) zeroS ([] : List DMatcher) ([] : List ByteArray) ((Go.AM.eE y43) :: ([] : List DExpr))), (y47, y48)))))))
theorem e_parser_reader_group (L : Lvl) (x0 : (List DTok)) (x1 : Int) : r_parser_reader_group.tree prg0.G (prg0.calls L) (L.P r_parser_reader_group) prg0.N [] (r_parser_reader_group.X.inp.mk' (x0, x1) 64) = B_parser_reader_group L x0 x1 := by kernel_rfl
noncomputable def B_parser_reader_selection (L : Lvl) (x0 : (List DTok)) (x1 : Int) : Option (Except DFrac (DExpr × ((List DTok) × Int))) :=
  exc (S_parser_reader_take L ((0 : Int), (x0, x1))) (fun (y2 : DFrac) => some (.error y2))
  (fun ((y3, (y4, y5)) : (DTok × ((List DTok) × Int))) => (S_parser_reader_accept L ((⟨#[123]⟩ : ByteArray), (y4, y5))).bind fun ((y6, (y7, y8)) : (Bool × ((List DTok) × Int))) =>
      if y6 = true then
        none
      else
        (S_parser_reader_accept L ((⟨#[46]⟩ : ByteArray), (y7, y8))).bind fun ((y9, (y10, y11)) : (Bool × ((List DTok) × Int))) =>
          if y9 = true then
            exc (S_parser_reader_function L ((y10, y11), (Go.AM.DExpr.mk (1 : Int) (0 : Int) (0 : Int) (0 : Int) (0 : Int) (Go.AM.DFrac.mk (0 : Int) (0 : Int)) y3.text ([] : List DMatcher) ([] : List ByteArray) ([] : List DExpr)))) (fun (y12 : DFrac) => some (.error y12))
            (fun (((y13, y14), y15) : (((List DTok) × Int) × DExpr)) => (S_parser_reader_accept L ((⟨#[64]⟩ : ByteArray), (y13, y14))).bind fun ((y16, (y17, y18)) : (Bool × ((List DTok) × Int))) =>
                if y16 = true then
                  exc (S_parser_reader_number L (((0 : Int), (4096 : Int)), (y17, y18))) (fun (y19 : DFrac) => some (.error y19))
                  (fun ((y20, (y21, y22)) : (Int × ((List DTok) × Int))) => some (.ok ((Go.AM.DExpr.mk y15.kind y15.fn y15.window y20 y15.k y15.num y15.name y15.ms y15.by_ y15.kids), (y21, y22))))
                else
                  some (.ok ((Go.AM.eE y15), (y17, y18))))
          else
            (S_parser_reader_accept L ((⟨#[64]⟩ : ByteArray), (y10, y11))).bind fun ((y23, (y24, y25)) : (Bool × ((List DTok) × Int))) =>
              if y23 = true then
                exc (S_parser_reader_number L (((0 : Int), (4096 : Int)), (y24, y25))) (fun (y26 : DFrac) => some (.error y26))
                (fun ((y27, (y28, y29)) : (Int × ((List DTok) × Int))) => some (.ok ((Go.AM.DExpr.mk (1 : Int) (0 : Int) (0 : Int) y27 (0 : Int) (Go.AM.DFrac.mk (0 : Int) (0 : Int)) y3.text ([] : List DMatcher) ([] : List ByteArray) ([] : List DExpr)), (y28, y29))))
              else
                some (.ok ((Go.AM.DExpr.mk (1 : Int) (0 : Int) (0 : Int) (0 : Int) (0 : Int) (Go.AM.DFrac.mk (0 : Int) (0 : Int)) y3.text ([] : List DMatcher) ([] : List ByteArray) ([] : List DExpr)), (y24, y25))))
theorem e_parser_reader_selection (L : Lvl) (x0 : (List DTok)) (x1 : Int) : r_parser_reader_selection.tree prg0.G (prg0.calls L) (L.P r_parser_reader_selection) prg0.N [] (r_parser_reader_selection.X.inp.mk' (x0, x1) 64) = B_parser_reader_selection L x0 x1 := by kernel_rfl
noncomputable def B_ref03_New (L : Lvl) (x0 : Int) (x1 : Int) : Option (DFrac × Int) :=
  if (x1 == (0 : Int)) = true then
    some ((Go.AM.DFrac.mk (0 : Int) (0 : Int)), (6 : Int))
  else
    (S_ref03_Size L x0).bind fun (y2 : Int) =>
      (S_ref03_Size L x1).bind fun (y3 : Int) =>
        if (decide (y2 > (9223372036854775807 : Int))) = true then
          some ((Go.AM.DFrac.mk (0 : Int) (0 : Int)), (5 : Int))
        else
          if (decide (y3 > (9223372036854775807 : Int))) = true then
            some ((Go.AM.DFrac.mk (0 : Int) (0 : Int)), (5 : Int))
          else
            (S_ref03_common L (y2, y3)).bind fun (y4 : Int) =>
              if (decide (y4 ≠ (0 : Int))) = true then
              if (decide (y4 ≠ (0 : Int))) = true then
              if (decide ((IntKind.wrap .u64 (Int.tdiv y2 y4)) > (4611686018427387904 : Int))) = true then
                some ((Go.AM.DFrac.mk (0 : Int) (0 : Int)), (5 : Int))
              else
                if (decide ((IntKind.wrap .u64 (Int.tdiv y3 y4)) > (4611686018427387904 : Int))) = true then
                  some ((Go.AM.DFrac.mk (0 : Int) (0 : Int)), (5 : Int))
                else
                  if (!((decide (x0 < (0 : Int))) == (decide (x1 < (0 : Int))))) = true then
                    some ((Go.AM.DFrac.mk (IntKind.wrap .i64 ((0 : Int) - (IntKind.wrap .i64 (IntKind.wrap .u64 (Int.tdiv y2 y4))))) (IntKind.wrap .i64 (IntKind.wrap .u64 (Int.tdiv y3 y4)))), (0 : Int))
                  else
                    some ((Go.AM.DFrac.mk (IntKind.wrap .i64 (IntKind.wrap .u64 (Int.tdiv y2 y4))) (IntKind.wrap .i64 (IntKind.wrap .u64 (Int.tdiv y3 y4)))), (0 : Int))
              else none
              else none
theorem e_ref03_New (L : Lvl) (x0 : Int) (x1 : Int) : r_ref03_New.tree prg0.G (prg0.calls L) (L.P r_ref03_New) prg0.N [] (r_ref03_New.X.inp.mk' (x0, x1) 64) = B_ref03_New L x0 x1 := by kernel_rfl
noncomputable def B_ref05_letter (L : Lvl) (x0 : Int) : Option Bool :=
  if (decide (x0 ≥ (97 : Int))) = true then
    some (decide (x0 ≤ (122 : Int)))
  else
    some false
theorem e_ref05_letter (L : Lvl) (x0 : Int) : r_ref05_letter.tree prg0.G (prg0.calls L) (L.P r_ref05_letter) prg0.N [] (r_ref05_letter.X.inp.mk' x0 64) = B_ref05_letter L x0 := by kernel_rfl
noncomputable def B_ref05_Value (L : Lvl) (x0 : ByteArray) : Option Bool :=
  if (decide ((((ByteArray.size x0) : Nat) : Int) > (16 : Int))) = true then
    some false
  else
    P_ref05_Value_0 L (x0, (0 : Int))
theorem e_ref05_Value (L : Lvl) (x0 : ByteArray) : r_ref05_Value.tree prg0.G (prg0.calls L) (L.P r_ref05_Value) prg0.N [] (r_ref05_Value.X.inp.mk' x0 64) = B_ref05_Value L x0 := by kernel_rfl
noncomputable def B_ref05_Value_0 (L : Lvl) (x0 : ByteArray) (x1 : Int) : Option Bool :=
  if (decide (x1 < (((ByteArray.size x0) : Nat) : Int))) = true then
    if (decide (((0 : Int) ≤ x1) ∧ (x1 < (((ByteArray.size x0) : Nat) : Int)))) = true then
    if (decide ((Go.AM.bt x0 x1) < (33 : Int))) = true then
      some false
    else
      if (decide ((Go.AM.bt x0 x1) > (126 : Int))) = true then
        some false
      else
        if ((Go.AM.bt x0 x1) == (34 : Int)) = true then
          some false
        else
          if ((Go.AM.bt x0 x1) == (92 : Int)) = true then
            some false
          else
            if ((Go.AM.bt x0 x1) == (44 : Int)) = true then
              some false
            else
              if ((Go.AM.bt x0 x1) == (123 : Int)) = true then
                some false
              else
                if ((Go.AM.bt x0 x1) == (125 : Int)) = true then
                  some false
                else
                  P_ref05_Value_0 L (x0, (IntKind.wrap .i64 (x1 + (1 : Int))))
    else none
  else
    some true
theorem e_ref05_Value_0 (L : Lvl) (x0 : ByteArray) (x1 : Int) : r_ref05_Value.tree prg0.G (prg0.calls L) (L.P r_ref05_Value) prg0.N [0, 0, 1, 0, 1, 1] (q_ref05_Value_0.mk' (x0, x1) 64) = B_ref05_Value_0 L x0 x1 := by kernel_rfl
noncomputable def B_frac_size (L : Lvl) (x0 : Int) : Option Int :=
  if (decide (x0 < (0 : Int))) = true then
    some (IntKind.wrap .u64 ((0 : Int) - (IntKind.wrap .u64 x0)))
  else
    some (IntKind.wrap .u64 x0)
theorem e_frac_size (L : Lvl) (x0 : Int) : r_frac_size.tree prg0.G (prg0.calls L) (L.P r_frac_size) prg0.N [] (r_frac_size.X.inp.mk' x0 64) = B_frac_size L x0 := by kernel_rfl
noncomputable def B_frac_gcd_uint64 (L : Lvl) (x0 : Int) (x1 : Int) : Option Int :=
  P_frac_gcd_uint64_0 L (x0, x1)
theorem e_frac_gcd_uint64 (L : Lvl) (x0 : Int) (x1 : Int) : r_frac_gcd_uint64.tree prg0.G (prg0.calls L) (L.P r_frac_gcd_uint64) prg0.N [] (r_frac_gcd_uint64.X.inp.mk' (x0, x1) 64) = B_frac_gcd_uint64 L x0 x1 := by kernel_rfl
noncomputable def B_frac_gcd_uint64_0 (L : Lvl) (x0 : Int) (x1 : Int) : Option Int :=
  if (x1 != (0 : Int)) = true then
    if (decide (x1 ≠ (0 : Int))) = true then
    P_frac_gcd_uint64_0 L (x1, (Int.tmod x0 x1))
    else none
  else
    some x0
theorem e_frac_gcd_uint64_0 (L : Lvl) (x0 : Int) (x1 : Int) : r_frac_gcd_uint64.tree prg0.G (prg0.calls L) (L.P r_frac_gcd_uint64) prg0.N [0, 0, 0, 1] (q_frac_gcd_uint64_0.mk' (x0, x1) 64) = B_frac_gcd_uint64_0 L x0 x1 := by kernel_rfl
noncomputable def B_slices_Index_string (L : Lvl) (x0 : (List ByteArray)) (x1 : ByteArray) : Option Int :=
  P_slices_Index_string_0 L (x0, (x1, ((((List.length x0) : Nat) : Int), (0 : Int))))
theorem e_slices_Index_string (L : Lvl) (x0 : (List ByteArray)) (x1 : ByteArray) : r_slices_Index_string.tree prg0.G (prg0.calls L) (L.P r_slices_Index_string) prg0.N [] (r_slices_Index_string.X.inp.mk' (x0, x1) 64) = B_slices_Index_string L x0 x1 := by kernel_rfl
noncomputable def B_slices_Index_string_0 (L : Lvl) (x0 : (List ByteArray)) (x1 : ByteArray) (x2 : Int) (x3 : Int) : Option Int :=
  if (decide (x3 < x2)) = true then
    if (decide (((0 : Int) ≤ x3) ∧ (x3 < (((List.length x0) : Nat) : Int)))) = true then
    if ((ByteArray.toList x1) == (ByteArray.toList (rdx .str x0 x3))) = true then
      some x3
    else
      P_slices_Index_string_0 L (x0, (x1, (x2, (IntKind.wrap .i64 (x3 + (1 : Int))))))
    else none
  else
    some (-1 : Int)
theorem e_slices_Index_string_0 (L : Lvl) (x0 : (List ByteArray)) (x1 : ByteArray) (x2 : Int) (x3 : Int) : r_slices_Index_string.tree prg0.G (prg0.calls L) (L.P r_slices_Index_string) prg0.N [0, 0, 1, 0, 1] (q_slices_Index_string_0.mk' (x0, (x1, (x2, x3))) 64) = B_slices_Index_string_0 L x0 x1 x2 x3 := by kernel_rfl
noncomputable def B_labels_Value (L : Lvl) (x0 : ByteArray) : Option Bool :=
  if (decide ((((ByteArray.size x0) : Nat) : Int) > (16 : Int))) = true then
    some false
  else
    P_labels_Value_0 L (x0, (0 : Nat))
theorem e_labels_Value (L : Lvl) (x0 : ByteArray) : r_labels_Value.tree prg0.G (prg0.calls L) (L.P r_labels_Value) prg0.N [] (r_labels_Value.X.inp.mk' x0 64) = B_labels_Value L x0 := by kernel_rfl
noncomputable def B_labels_Value_0 (L : Lvl) (x0 : ByteArray) (x1 : Nat) : Option Bool :=
  if (decide (x1 < (ByteArray.size x0))) = true then
    if (decide ((((Go.Utf8.decode x0 x1).fst : Nat) : Int) ≤ (32 : Int))) = true then
      some false
    else
      if (decide ((((Go.Utf8.decode x0 x1).fst : Nat) : Int) > (126 : Int))) = true then
        some false
      else
        (base_ContainsRune ((⟨#[34, 92, 44, 123, 125]⟩ : ByteArray), (((Go.Utf8.decode x0 x1).fst : Nat) : Int))).bind fun (y2 : Bool) =>
          if y2 = true then
            some false
          else
            P_labels_Value_0 L (x0, (x1 + (Go.Utf8.decode x0 x1).snd))
  else
    some true
theorem e_labels_Value_0 (L : Lvl) (x0 : ByteArray) (x1 : Nat) : r_labels_Value.tree prg0.G (prg0.calls L) (L.P r_labels_Value) prg0.N [0, 0, 1, 0, 1, 1] (q_labels_Value_0.mk' (x0, x1) 64) = B_labels_Value_0 L x0 x1 := by kernel_rfl
noncomputable def B_strings_Cut (L : Lvl) (x0 : ByteArray) (x1 : ByteArray) : Option (ByteArray × (ByteArray × Bool)) :=
  (S_stringslite_Cut L (x0, x1)).bind fun ((y2, (y3, y4)) : (ByteArray × (ByteArray × Bool))) =>
    some (y2, (y3, y4))
theorem e_strings_Cut (L : Lvl) (x0 : ByteArray) (x1 : ByteArray) : r_strings_Cut.tree prg0.G (prg0.calls L) (L.P r_strings_Cut) prg0.N [] (r_strings_Cut.X.inp.mk' (x0, x1) 64) = B_strings_Cut L x0 x1 := by kernel_rfl
noncomputable def B_parser_reader_take (L : Lvl) (x0 : Int) (x1 : (List DTok)) (x2 : Int) : Option (Except DFrac (DTok × ((List DTok) × Int))) :=
  exc (S_parser_reader_peek L (x0, (x1, x2))) (fun (y3 : DFrac) => some (.error y3))
  (fun ((y4, (y5, y6)) : (DTok × ((List DTok) × Int))) => if (decide (((0 : Int) ≤ (1 : Int)) ∧ (((1 : Int) ≤ (((List.length y5) : Nat) : Int)) ∧ ((((List.length y5) : Nat) : Int) ≤ (((List.length y5) : Nat) : Int))))) = true then
    some (.ok (y4, ((List.take (Int.toNat ((((List.length y5) : Nat) : Int) - (1 : Int))) (List.drop (1 : Nat) y5)), y6)))
    else none)
theorem e_parser_reader_take (L : Lvl) (x0 : Int) (x1 : (List DTok)) (x2 : Int) : r_parser_reader_take.tree prg0.G (prg0.calls L) (L.P r_parser_reader_take) prg0.N [] (r_parser_reader_take.X.inp.mk' (x0, (x1, x2)) 64) = B_parser_reader_take L x0 x1 x2 := by kernel_rfl
noncomputable def B_parser_reader_matcher (L : Lvl) (x0 : (List DTok)) (x1 : Int) : Option (Except DFrac (DMatcher × ((List DTok) × Int))) :=
  exc (S_parser_reader_take L ((0 : Int), (x0, x1))) (fun (y2 : DFrac) => some (.error y2))
  (fun ((y3, (y4, y5)) : (DTok × ((List DTok) × Int))) => (S_parser_reader_accept L ((⟨#[33, 61]⟩ : ByteArray), (y4, y5))).bind fun ((y6, (y7, y8)) : (Bool × ((List DTok) × Int))) =>
      if y6 = true then
        exc (S_parser_reader_take L ((2 : Int), (y7, y8))) (fun (y9 : DFrac) => some (.error y9))
        (fun ((y10, (y11, y12)) : (DTok × ((List DTok) × Int))) => some (.ok ((Go.AM.DMatcher.mk y3.text (1 : Int) y10.text), (y11, y12))))
      else
        (S_parser_reader_accept L ((⟨#[94, 61]⟩ : ByteArray), (y7, y8))).bind fun ((y13, (y14, y15)) : (Bool × ((List DTok) × Int))) =>
          if y13 = true then
            exc (S_parser_reader_take L ((2 : Int), (y14, y15))) (fun (y16 : DFrac) => some (.error y16))
            (fun ((y17, (y18, y19)) : (DTok × ((List DTok) × Int))) => some (.ok ((Go.AM.DMatcher.mk y3.text (2 : Int) y17.text), (y18, y19))))
          else
            exc (S_parser_reader_expect L ((⟨#[61]⟩ : ByteArray), (y14, y15))) (fun (y20 : DFrac) => some (.error y20))
            (fun ((y21, y22) : ((List DTok) × Int)) => exc (S_parser_reader_take L ((2 : Int), (y21, y22))) (fun (y23 : DFrac) => some (.error y23))
              (fun ((y24, (y25, y26)) : (DTok × ((List DTok) × Int))) => some (.ok ((Go.AM.DMatcher.mk y3.text (0 : Int) y24.text), (y25, y26))))))
theorem e_parser_reader_matcher (L : Lvl) (x0 : (List DTok)) (x1 : Int) : r_parser_reader_matcher.tree prg0.G (prg0.calls L) (L.P r_parser_reader_matcher) prg0.N [] (r_parser_reader_matcher.X.inp.mk' (x0, x1) 64) = B_parser_reader_matcher L x0 x1 := by kernel_rfl
noncomputable def B_parser_reader_function (L : Lvl) (x0 : (List DTok)) (x1 : Int) (x2 : DExpr) : Option (Except DFrac (((List DTok) × Int) × DExpr)) :=
  exc (S_parser_reader_peek L ((0 : Int), (x0, x1))) (fun (y3 : DFrac) => some (.error y3))
  (fun ((y4, (y5, y6)) : (DTok × ((List DTok) × Int))) => (S_slices_Index_string L ((List.take (8 : Nat) (List.drop (0 : Nat) ((⟨#[108, 97, 115, 116]⟩ : ByteArray) :: ((⟨#[108, 101, 97, 115, 116]⟩ : ByteArray) :: ((⟨#[103, 114, 101, 97, 116, 101, 115, 116]⟩ : ByteArray) :: ((⟨#[116, 111, 116, 97, 108]⟩ : ByteArray) :: ((⟨#[109, 101, 97, 110]⟩ : ByteArray) :: ((⟨#[105, 110, 99, 114, 101, 97, 115, 101]⟩ : ByteArray) :: ((⟨#[114, 97, 116, 101]⟩ : ByteArray) :: ((⟨#[107, 116, 104]⟩ : ByteArray) :: ([] : List ByteArray))))))))))), y4.text)).bind fun (y7 : Int) =>
      if (decide (y7 < (0 : Int))) = true then
        exc (S_parser_reader_fail L ((2 : Int), (y5, y6))) (fun (y8 : DFrac) => some (.error y8))
        (fun ((y9, y10) : ((List DTok) × Int)) => exc (S_parser_reader_take L ((0 : Int), (y9, y10))) (fun (y11 : DFrac) => some (.error y11))
          (fun ((y12, (y13, y14)) : (DTok × ((List DTok) × Int))) => if (y7 == (0 : Int)) = true then
              some (.ok ((y13, y14), (Go.AM.DExpr.mk x2.kind y7 x2.window x2.offset x2.k x2.num x2.name x2.ms x2.by_ x2.kids)))
            else
              exc (S_parser_reader_expect L ((⟨#[40]⟩ : ByteArray), (y13, y14))) (fun (y15 : DFrac) => some (.error y15))
              (fun ((y16, y17) : ((List DTok) × Int)) => exc (S_parser_reader_number L (((1 : Int), (4096 : Int)), (y16, y17))) (fun (y18 : DFrac) => some (.error y18))
                (fun ((y19, (y20, y21)) : (Int × ((List DTok) × Int))) => if (y7 == (7 : Int)) = true then
                    exc (S_parser_reader_expect L ((⟨#[44]⟩ : ByteArray), (y20, y21))) (fun (y22 : DFrac) => some (.error y22))
                    (fun ((y23, y24) : ((List DTok) × Int)) => exc (S_parser_reader_number L (((1 : Int), y19), (y23, y24))) (fun (y25 : DFrac) => some (.error y25))
                      (fun ((y26, (y27, y28)) : (Int × ((List DTok) × Int))) => exc (S_parser_reader_expect L ((⟨#[41]⟩ : ByteArray), (y27, y28))) (fun (y29 : DFrac) => some (.error y29))
                        (fun ((y30, y31) : ((List DTok) × Int)) => some (.ok ((y30, y31), (Go.AM.DExpr.mk x2.kind y7 y19 x2.offset y26 x2.num x2.name x2.ms x2.by_ x2.kids))))))
                  else
                    exc (S_parser_reader_expect L ((⟨#[41]⟩ : ByteArray), (y20, y21))) (fun (y32 : DFrac) => some (.error y32))
                    (fun ((y33, y34) : ((List DTok) × Int)) => some (.ok ((y33, y34), (Go.AM.DExpr.mk x2.kind y7 y19 x2.offset x2.k x2.num x2.name x2.ms x2.by_ x2.kids))))))))
      else
        exc (S_parser_reader_take L ((0 : Int), (y5, y6))) (fun (y35 : DFrac) => some (.error y35))
        (fun ((y36, (y37, y38)) : (DTok × ((List DTok) × Int))) => if (y7 == (0 : Int)) = true then
            some (.ok ((y37, y38), (Go.AM.DExpr.mk x2.kind y7 x2.window x2.offset x2.k x2.num x2.name x2.ms x2.by_ x2.kids)))
          else
            exc (S_parser_reader_expect L ((⟨#[40]⟩ : ByteArray), (y37, y38))) (fun (y39 : DFrac) => some (.error y39))
            (fun ((y40, y41) : ((List DTok) × Int)) => exc (S_parser_reader_number L (((1 : Int), (4096 : Int)), (y40, y41))) (fun (y42 : DFrac) => some (.error y42))
              (fun ((y43, (y44, y45)) : (Int × ((List DTok) × Int))) => if (y7 == (7 : Int)) = true then
                  exc (S_parser_reader_expect L ((⟨#[44]⟩ : ByteArray), (y44, y45))) (fun (y46 : DFrac) => some (.error y46))
                  (fun ((y47, y48) : ((List DTok) × Int)) => exc (S_parser_reader_number L (((1 : Int), y43), (y47, y48))) (fun (y49 : DFrac) => some (.error y49))
                    (fun ((y50, (y51, y52)) : (Int × ((List DTok) × Int))) => exc (S_parser_reader_expect L ((⟨#[41]⟩ : ByteArray), (y51, y52))) (fun (y53 : DFrac) => some (.error y53))
                      (fun ((y54, y55) : ((List DTok) × Int)) => some (.ok ((y54, y55), (Go.AM.DExpr.mk x2.kind y7 y43 x2.offset y50 x2.num x2.name x2.ms x2.by_ x2.kids))))))
                else
                  exc (S_parser_reader_expect L ((⟨#[41]⟩ : ByteArray), (y44, y45))) (fun (y56 : DFrac) => some (.error y56))
                  (fun ((y57, y58) : ((List DTok) × Int)) => some (.ok ((y57, y58), (Go.AM.DExpr.mk x2.kind y7 y43 x2.offset x2.k x2.num x2.name x2.ms x2.by_ x2.kids))))))))
theorem e_parser_reader_function (L : Lvl) (x0 : (List DTok)) (x1 : Int) (x2 : DExpr) : r_parser_reader_function.tree prg0.G (prg0.calls L) (L.P r_parser_reader_function) prg0.N [] (r_parser_reader_function.X.inp.mk' ((x0, x1), x2) 64) = B_parser_reader_function L x0 x1 x2 := by kernel_rfl
noncomputable def B_ref03_Size (L : Lvl) (x0 : Int) : Option Int :=
  if (decide (x0 < (0 : Int))) = true then
    some (IntKind.wrap .u64 ((0 : Int) - (IntKind.wrap .u64 x0)))
  else
    some (IntKind.wrap .u64 x0)
theorem e_ref03_Size (L : Lvl) (x0 : Int) : r_ref03_Size.tree prg0.G (prg0.calls L) (L.P r_ref03_Size) prg0.N [] (r_ref03_Size.X.inp.mk' x0 64) = B_ref03_Size L x0 := by kernel_rfl
noncomputable def B_ref03_common (L : Lvl) (x0 : Int) (x1 : Int) : Option Int :=
  P_ref03_common_0 L (x0, x1)
theorem e_ref03_common (L : Lvl) (x0 : Int) (x1 : Int) : r_ref03_common.tree prg0.G (prg0.calls L) (L.P r_ref03_common) prg0.N [] (r_ref03_common.X.inp.mk' (x0, x1) 64) = B_ref03_common L x0 x1 := by kernel_rfl
noncomputable def B_ref03_common_0 (L : Lvl) (x0 : Int) (x1 : Int) : Option Int :=
  if (x1 != (0 : Int)) = true then
    if (decide (x1 ≠ (0 : Int))) = true then
    P_ref03_common_0 L (x1, (Int.tmod x0 x1))
    else none
  else
    some x0
theorem e_ref03_common_0 (L : Lvl) (x0 : Int) (x1 : Int) : r_ref03_common.tree prg0.G (prg0.calls L) (L.P r_ref03_common) prg0.N [0, 0, 0, 1] (q_ref03_common_0.mk' (x0, x1) 64) = B_ref03_common_0 L x0 x1 := by kernel_rfl
noncomputable def B_stringslite_Cut (L : Lvl) (x0 : ByteArray) (x1 : ByteArray) : Option (ByteArray × (ByteArray × Bool)) :=
  (S_stringslite_Index L (x0, x1)).bind fun (y2 : Int) =>
    if (decide (y2 ≥ (0 : Int))) = true then
      if (decide (((0 : Int) ≤ (0 : Int)) ∧ (((0 : Int) ≤ y2) ∧ (y2 ≤ (((ByteArray.size x0) : Nat) : Int))))) = true then
      if (decide (((0 : Int) ≤ (IntKind.wrap .i64 (y2 + (((ByteArray.size x1) : Nat) : Int)))) ∧ (((IntKind.wrap .i64 (y2 + (((ByteArray.size x1) : Nat) : Int))) ≤ (((ByteArray.size x0) : Nat) : Int)) ∧ ((((ByteArray.size x0) : Nat) : Int) ≤ (((ByteArray.size x0) : Nat) : Int))))) = true then
      some ((ByteArray.extract x0 (0 : Nat) (Int.toNat y2)), ((ByteArray.extract x0 (Int.toNat (IntKind.wrap .i64 (y2 + (((ByteArray.size x1) : Nat) : Int)))) (Int.toNat (((ByteArray.size x0) : Nat) : Int))), true))
      else none
      else none
    else
      some (x0, (zeroS, false))
theorem e_stringslite_Cut (L : Lvl) (x0 : ByteArray) (x1 : ByteArray) : r_stringslite_Cut.tree prg0.G (prg0.calls L) (L.P r_stringslite_Cut) prg0.N [] (r_stringslite_Cut.X.inp.mk' (x0, x1) 64) = B_stringslite_Cut L x0 x1 := by kernel_rfl
noncomputable def B_stringslite_Index (L : Lvl) (x0 : ByteArray) (x1 : ByteArray) : Option Int :=
  if ((((ByteArray.size x1) : Nat) : Int) == (0 : Int)) = true then
    some (0 : Int)
  else
    if ((ByteArray.toList x1) == (ByteArray.toList x0)) = true then
      some (0 : Int)
    else
      if ((((ByteArray.size x1) : Nat) : Int) == (1 : Int)) = true then
        if (decide (((0 : Int) ≤ (0 : Int)) ∧ ((0 : Int) < (((ByteArray.size x1) : Nat) : Int)))) = true then
        (base_IndexByte (x0, (Go.AM.bt x1 (0 : Int)))).bind fun (y2 : Int) =>
          some y2
        else none
      else
        if (decide ((((ByteArray.size x1) : Nat) : Int) ≥ (((ByteArray.size x0) : Nat) : Int))) = true then
          some (-1 : Int)
        else
          none
theorem e_stringslite_Index (L : Lvl) (x0 : ByteArray) (x1 : ByteArray) : r_stringslite_Index.tree prg0.G (prg0.calls L) (L.P r_stringslite_Index) prg0.N [] (r_stringslite_Index.X.inp.mk' (x0, x1) 64) = B_stringslite_Index L x0 x1 := by kernel_rfl
end Go.AM
