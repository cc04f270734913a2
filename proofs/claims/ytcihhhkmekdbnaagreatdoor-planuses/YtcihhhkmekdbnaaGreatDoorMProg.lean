/-
  The abstract machine, a part.
-/
import Derived.Test.YtcihhhkmekdbnaaGreatDoorMYield
/-
  The abstract machine, part 29: a whole program, out of its rows: what each function computes with a given fuel, and that it does so.
-/
namespace Go.AM
open Go RowKit

/-- A function's row: its text, its contract's shapes, its points; or a contract that is proved by hand. -/
structure Row where
  X : Fx
  exc : Option Sh := none
  pts : List (List Nat × Pat) := []
  nx : Nat := 64
@[reducible] def Row.Z (r : Row) : Type := match r.exc with
  | none => r.X.Y
  | some sh => Except (El sh.ty) r.X.Y
def mkFT (exc : Option Sh) (A Y : Type) (F : A → Option (match exc with
  | none => Y
  | some sh => Except (El sh.ty) Y)) : FT A Y := match exc, F with
  | none, F => .plain F
  | some sh, F => .exc sh F
/-- What the functions compute; what a walk from a point comes to. -/
structure Lvl where
  S : (r : Row) → r.X.inp.X → Option r.Z
  P : (r : Row) → (p : Pat) → List Nat → p.X → Option r.Z
  Y : (y : Yx) → y.inp.X → Option y.Y
def Row.f (r : Row) : FuncId := r.X.f
def Row.spec (r : Row) (F : r.X.inp.X → Option r.Z) : CSpec := ⟨r.X.inp, r.X.res, r.X.robj, mkFT r.exc _ _ F⟩
structure Prg where
  G : Gl
  base : List (FuncId × CSpec)
  yields : List Yx := []
  rows : List Row
  N : Nat
def Yx.spec (y : Yx) (F : y.inp.X → Option y.Y) : CSpec := ⟨y.inp, [.bool], y.robj, .plain F⟩
def Prg.calls (p : Prg) (l : Lvl) : Calls1 := p.base ++ ((p.yields.map fun y => (2000000 + y.key, y.spec (l.Y y))) ++ p.rows.map fun r => (r.f, r.spec (l.S r)))
def ptsOf (Z : Type) (ps : List (List Nat × Pat)) (P : (p : Pat) → List Nat → p.X → Option Z) : Pts Z := ps.map fun p => (p.1, ⟨p.2, P p.2 p.1⟩)
/-- The tree of a function's walk from a place. -/
noncomputable def Row.tree (G : Gl) (calls : Calls1) (r : Row) (P : (p : Pat) → List Nat → p.X → Option r.Z) (N : Nat) (pos : List Nat) (st : ASt) : Option r.Z :=
  match r with
  | ⟨X, none, ps, nx⟩ => (drive (X.plain G calls (ptsOf _ ps P)) N pos st).eval
  | ⟨X, some sh, ps, nx⟩ => (drive (X.exc sh G calls (ptsOf _ ps P)) N pos st).eval
noncomputable def Prg.lvl (p : Prg) : Nat → Lvl
  | 0 => ⟨fun _ _ => none, fun _ _ _ _ => none, fun _ _ => none⟩
  | n + 1 => ⟨fun r x => r.tree p.G (p.calls (p.lvl n)) ((p.lvl n).P r) p.N [] (r.X.inp.mk' x r.nx), fun r pat pos x => r.tree p.G (p.calls (p.lvl n)) ((p.lvl n).P r) p.N pos (pat.mk' x r.nx), fun y x => (y.tree p.G (p.calls (p.lvl n)) 64 x).eval⟩

theorem findCall_mem {l : List (FuncId × CSpec)} {f : FuncId} {vs : List AV} {s : CSpec} (h : findCall l f vs = some s) : (f, s) ∈ l := by
  induction l with
  | nil => cases h
  | cons p l ih =>
    obtain ⟨g, s'⟩ := p
    simp only [findCall] at h
    split at h
    · rename_i he
      simp only [Bool.and_eq_true, beq_iff_eq] at he
      obtain ⟨rfl, _⟩ := he
      cases h
      simp
    · exact List.mem_cons_of_mem _ (ih h)

theorem allPts_of {Z : Type} {D : Nat → DEnv Z} {n N nx : Nat} {P : (p : Pat) → List Nat → p.X → Option Z} (h : ∀ (p : Pat) pos x z, P p pos x = some z → ∃ m, n = m + 1 ∧ (drive (D m) N pos (p.mk' x nx)).eval = some z) : ∀ ps : List (List Nat × Pat), AllPts D n N nx (ptsOf Z ps P)
  | [] => trivial
  | (pos, p) :: ps => ⟨fun x z hz => h p pos x z hz, allPts_of h ps⟩

/-- Every row's contract holds. -/
theorem Prg.ok {P : Program} (p : Prg) (hg : GlOK P p.G) (hb : ∀ f s, (f, s) ∈ p.base → CallOK P p.G.glob f s) (hy : ∀ y ∈ p.yields, YxOK P y) (hr : ∀ r ∈ p.rows, FxOK P r.X) : ∀ n f vs s, findCall (p.calls (p.lvl n)) f vs = some s → CallOK P p.G.glob f s := by
  intro n
  induction n using Nat.strongRecOn with
  | _ n ih =>
    intro f vs s hf
    have hm := findCall_mem hf
    unfold Prg.calls at hm
    rcases List.mem_append.1 hm with hm | hm
    · exact hb f s hm
    rcases List.mem_append.1 hm with hm | hm
    · obtain ⟨y, h1, h2⟩ := List.mem_map.1 hm
      cases h2
      cases n with
      | zero => intro x M0 κ w vs I he _ z hz; cases hz
      | succ n => exact yield_ok (nx := 64) hg (hy y h1) (ih n (by omega)) (fun x z hz => hz)
    · obtain ⟨r, h1, h2⟩ := List.mem_map.1 hm
      cases h2
      have hX := hr r h1
      cases n with
      | zero =>
        obtain ⟨X, exc, ps, nx⟩ := r
        cases exc with
        | none => intro x M0 κ w vs I he _ y hy; cases hy
        | some sh => intro x M0 κ w vs I he _ y hy; cases hy
      | succ n =>
        obtain ⟨X, exc, ps, nx⟩ := r
        cases exc with
        | none =>
          refine call_plain (n := n) (N := p.N) (nx := nx) (calls := fun m => p.calls (p.lvl m)) (pts := fun m => ptsOf _ ps ((p.lvl m).P ⟨X, none, ps, nx⟩)) hg hX (fun m hm => ih m (by omega)) (fun m hm => ?_) (fun x y hy => hy)
          refine allPts_of (fun pt pos x z hz => ?_) ps
          cases m with
          | zero => cases hz
          | succ m => exact ⟨m, rfl, hz⟩
        | some sh =>
          refine call_exc (n := n) (N := p.N) (nx := nx) (calls := fun m => p.calls (p.lvl m)) (pts := fun m => ptsOf _ ps ((p.lvl m).P ⟨X, some sh, ps, nx⟩)) hg hX (fun m hm => ih m (by omega)) (fun m hm => ?_) (fun x y hy => hy)
          refine allPts_of (fun pt pos x z hz => ?_) ps
          cases m with
          | zero => cases hz
          | succ m => exact ⟨m, rfl, hz⟩
end Go.AM
