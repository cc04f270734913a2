/-
  The abstract machine, first part: it is proved once that what it computes of a function holds of the program.
-/
import Derived.Test.YtcihhhkmekdbnaaGreatDoorProg
import Derived.RangeFuncIn
import Derived.Maps.AppendAt
import Derived.Below
import Derived.KernelRfl
import Derived.WalkLawsBesides
import Derived.Lib.AppendStr
import Derived.Laws.MakeOwn
import Derived.Laws.BytesString
import Derived.Laws.IdiomStrings
import Derived.Laws.Tables
/-
  The abstract machine, part 0: the loops over functions of this program: what a function's one such loop holds.
-/
namespace Go.AM
open Go

/-- A loop over a function: its temporaries, its codes, how many temporaries, which of them the round reads. -/
structure YI where
  params : Array Tmp
  assign : Code
  body : Code
  nt : Nat
  slots : List Nat
def down : Nat → List Item → Option (List Item)
  | 0, .code (.seq a b) :: k => some (.code a :: .code b :: k)
  | 1, .code (.seq _ b) :: k => some (.code b :: k)
  | 0, .code (.cond _ a _) :: k => some (.code a :: k)
  | 1, .code (.cond _ _ b) :: k => some (.code b :: k)
  | 0, .code (.block id c) :: k => some (.code c :: .inBlock id :: k)
  | 0, .code (.loop c) :: k => some (.code c :: .inLoop c :: k)
  | _, _ => none
def at_ (body : Code) : List Nat → Option (List Item)
  | [] => some [.code body]
  | d :: p => match at_ body p with
    | some T => down d T
    | none => none
/-- Where the loop is, and which of the function's temporaries its rounds read: by the function's name. -/
def yAt (name : String) : Option (List Nat × List Nat) :=
  if name == "intervalmon/plan.Compile" then some ([0, 1, 0, 1, 1, 1], [5])
  else if name == "intervalmon/lexer.Tokens" then some ([0, 1, 0, 1, 1, 1, 1], [6])
  else none
def ytabOf (fn : Func) : Option YI := match yAt fn.name, fn.body with
  | some (p, sl), some c => match at_ c p with
    | some (.code (.rangeFunc _ ps a b) :: _) => some ⟨ps, a, b, fn.ntmps, sl⟩
    | _ => none
  | _, _ => none
noncomputable def ytab (key : Nat) : Option YI := match Go.Proofs.Tryz.prog.funcs[key]? with
  | some fn => ytabOf fn
  | none => none
end Go.AM
/-
  The abstract machine, part 1: the data that a walk speaks of. Plain definitions: the structures of the program's data as Lean types, the abstract values and the abstract objects.
-/
namespace Go.AM
open Go

structure DFrac where
  num : Int
  den : Int
structure DMatcher where
  name : ByteArray
  kind : Int
  value : ByteArray
structure DLabel where
  name : ByteArray
  value : ByteArray
structure DUnit where
  u0 : Int
  u1 : Int
  u2 : Int
structure DIns where
  kind : Int
  fn : Int
  window : Int
  offset : Int
  k : Int
  num : DFrac
  name : ByteArray
  ms : List DMatcher
  by_ : List ByteArray
structure DExpr where
  kind : Int
  fn : Int
  window : Int
  offset : Int
  k : Int
  num : DFrac
  name : ByteArray
  ms : List DMatcher
  by_ : List ByteArray
  kids : List DExpr
structure DDecl where
  name : ByteArray
  labels : List DLabel
  unit : DUnit
  lo : Int
  hi : Int
  down : Int
  up : Int
  first : Int
  last : Int
  budget : Int
structure DTok where
  kind : Int
  text : ByteArray
  n : Int
  at_ : Int

/-- The kinds of elements. -/
inductive TC where
  | i (k : IntKind) | bool | str | list (t : TC) | frac | matcher | label | unit | ins | expr | decl | tok
  deriving DecidableEq

@[reducible] def Den : TC → Type
  | .i _ => Int
  | .bool => Bool
  | .str => ByteArray
  | .list t => List (Den t)
  | .frac => DFrac
  | .matcher => DMatcher
  | .label => DLabel
  | .unit => DUnit
  | .ins => DIns
  | .expr => DExpr
  | .decl => DDecl
  | .tok => DTok

def zeroS : ByteArray := ⟨#[]⟩
def dflt : (t : TC) → Den t
  | .i _ => (0 : Int)
  | .bool => false
  | .str => zeroS
  | .list _ => []
  | .frac => DFrac.mk 0 0
  | .matcher => DMatcher.mk zeroS 0 zeroS
  | .label => DLabel.mk zeroS zeroS
  | .unit => DUnit.mk 0 0 0
  | .ins => DIns.mk 0 0 0 0 0 (DFrac.mk 0 0) zeroS [] []
  | .expr => DExpr.mk 0 0 0 0 0 (DFrac.mk 0 0) zeroS [] [] []
  | .decl => DDecl.mk zeroS [] (DUnit.mk 0 0 0) 0 0 0 0 0 0 0
  | .tok => DTok.mk 0 zeroS 0 0

/-- Cells of an element. -/
def csize : TC → Nat
  | .i _ | .bool | .str | .list _ => 1
  | .frac | .label => 2
  | .matcher | .unit => 3
  | .ins => 10
  | .expr => 11
  | .decl => 12
  | .tok => 4

/-- An element, read by a walk: element i of a list. -/
def rdx (t : TC) (xs : List (Den t)) (i : Int) : Den t := xs.getD i.toNat (dflt t)

/-- Abstract values. -/
inductive AV where
  | sc (v : Value)
  | gd (c : Bool) (v : AV)
  | sl (t : TC) (xs : List (Den t))
  | agg (cs : List AV)
  | tup (cs : List AV)
  | ptr (id off : Nat)
  | pp (t : TC) (x : Den t) (off : Nat)
  | pr (t : TC) (xs : List (Den t))
  | af (id : Nat)
  | as_ (id lo len sz : Nat)
  | ap (id idx off sz : Nat)
  | fn (f : FuncId) (cap : List AV)
  | ifc (t : TypeId) (v : AV)
  | junk

/-- Abstract objects: a boxed variable; an array of the call's own that may grow; such an array that is no longer written; nothing known. -/
inductive AObj where
  | var (t : TypeId) (cs : List AV)
  | arr (e : TypeId) (t : TC) (xs : List (Den t))
  | fz (t : TC) (xs : List (Den t))
  | iter (s : ByteArray) (pos : Nat)
  | dfr
  | lp (key : Nat) (busy : Bool) (cs : List AV)
  | blk
  | gone

abbrev int (n : Int) : AV := .sc (.int .i64 n)
abbrev str (s : ByteArray) : AV := .sc (.string s)
abbrev bool (b : Bool) : AV := .sc (.bool b)
abbrev nilS : AV := .sc (.slice none 0 0)

/-- The cells of an element as abstract values. -/
def embC : (t : TC) → Den t → List AV
  | .i k, n => [.sc (.int k n)]
  | .bool, b => [.sc (.bool b)]
  | .str, s => [.sc (.string s)]
  | .list t, xs => [.sl t xs]
  | .frac, x => [int x.num, int x.den]
  | .matcher, x => [str x.name, int x.kind, str x.value]
  | .label, x => [str x.name, str x.value]
  | .unit, x => [int x.u0, int x.u1, int x.u2]
  | .ins, x => [int x.kind, int x.fn, int x.window, int x.offset, int x.k, int x.num.num, int x.num.den, str x.name, .sl .matcher x.ms, .sl .str x.by_]
  | .expr, x => [int x.kind, int x.fn, int x.window, int x.offset, int x.k, int x.num.num, int x.num.den, str x.name, .sl .matcher x.ms, .sl .str x.by_, .sl .expr x.kids]
  | .decl, x => [str x.name, .sl .label x.labels, int x.unit.u0, int x.unit.u1, int x.unit.u2, int x.lo, int x.hi, int x.down, int x.up, int x.first, int x.last, int x.budget]
  | .tok, x => [int x.kind, str x.text, int x.n, int x.at_]

theorem embC_length : ∀ (t : TC) (x : Den t), (embC t x).length = csize t := by
  intro t x; cases t <;> rfl

/-- A list cell's contents: nil reads as the empty list. -/
def unS (t : TC) : AV → Option (List (Den t))
  | .sl t' xs => if h : t' = t then some (h ▸ xs) else none
  | .sc (.slice none 0 0) => some []
  | _ => none

example (x : DMatcher) : unS .matcher (.sl .matcher [x]) = some [x] := by kernel_rfl
example (x : DMatcher) : unS .matcher (.sl .str []) = none := by kernel_rfl

end Go.AM
/-
  The abstract machine, part 2: what it means that a value of the model is as an abstract value says, in a world. Plain definitions and their laws under later worlds.
-/
namespace Go.AM
open Go RowKit

/-- Scalars in their range. -/
def scOK : Value → Prop
  | .int k n => k.has n
  | .string s => s.size ≤ 9223372036854775807
  | .agg _ | .tuple _ => False
  | _ => True

mutual
inductive RepC (w : World) (ok : Nat → Prop) : (t : TC) → Den t → List Value → Prop
  | i (k : IntKind) (n : Int) : k.has n → RepC w ok (.i k) n [.int k n]
  | bool (b : Bool) : RepC w ok .bool b [.bool b]
  | str (s : ByteArray) : s.size ≤ 9223372036854775807 → RepC w ok .str s [.string s]
  | list (t : TC) (xs : List (Den t)) (v : Value) : RepS w ok t xs v → RepC w ok (.list t) xs [v]
  | frac (x : DFrac) : IntKind.i64.has x.num → IntKind.i64.has x.den → RepC w ok .frac x [.int .i64 x.num, .int .i64 x.den]
  | matcher (x : DMatcher) : x.name.size ≤ 9223372036854775807 → IntKind.i64.has x.kind → x.value.size ≤ 9223372036854775807 → RepC w ok .matcher x [.string x.name, .int .i64 x.kind, .string x.value]
  | label (x : DLabel) : x.name.size ≤ 9223372036854775807 → x.value.size ≤ 9223372036854775807 → RepC w ok .label x [.string x.name, .string x.value]
  | unit (x : DUnit) : IntKind.i64.has x.u0 → IntKind.i64.has x.u1 → IntKind.i64.has x.u2 → RepC w ok .unit x [.int .i64 x.u0, .int .i64 x.u1, .int .i64 x.u2]
  | ins (x : DIns) (v1 v2 : Value) : IntKind.i64.has x.kind → IntKind.i64.has x.fn → IntKind.i64.has x.window → IntKind.i64.has x.offset → IntKind.i64.has x.k → IntKind.i64.has x.num.num → IntKind.i64.has x.num.den →
      x.name.size ≤ 9223372036854775807 → RepS w ok .matcher x.ms v1 → RepS w ok .str x.by_ v2 →
      RepC w ok .ins x [.int .i64 x.kind, .int .i64 x.fn, .int .i64 x.window, .int .i64 x.offset, .int .i64 x.k, .int .i64 x.num.num, .int .i64 x.num.den, .string x.name, v1, v2]
  | expr (x : DExpr) (v1 v2 v3 : Value) : IntKind.i64.has x.kind → IntKind.i64.has x.fn → IntKind.i64.has x.window → IntKind.i64.has x.offset → IntKind.i64.has x.k → IntKind.i64.has x.num.num → IntKind.i64.has x.num.den →
      x.name.size ≤ 9223372036854775807 → RepS w ok .matcher x.ms v1 → RepS w ok .str x.by_ v2 → RepS w ok .expr x.kids v3 →
      RepC w ok .expr x [.int .i64 x.kind, .int .i64 x.fn, .int .i64 x.window, .int .i64 x.offset, .int .i64 x.k, .int .i64 x.num.num, .int .i64 x.num.den, .string x.name, v1, v2, v3]
  | decl (x : DDecl) (v1 : Value) : x.name.size ≤ 9223372036854775807 → RepS w ok .label x.labels v1 → IntKind.i64.has x.unit.u0 → IntKind.i64.has x.unit.u1 → IntKind.i64.has x.unit.u2 →
      IntKind.i64.has x.lo → IntKind.i64.has x.hi → IntKind.i64.has x.down → IntKind.i64.has x.up → IntKind.i64.has x.first → IntKind.i64.has x.last → IntKind.i64.has x.budget →
      RepC w ok .decl x [.string x.name, v1, .int .i64 x.unit.u0, .int .i64 x.unit.u1, .int .i64 x.unit.u2, .int .i64 x.lo, .int .i64 x.hi, .int .i64 x.down, .int .i64 x.up, .int .i64 x.first, .int .i64 x.last, .int .i64 x.budget]
  | tok (x : DTok) : IntKind.i64.has x.kind → x.text.size ≤ 9223372036854775807 → IntKind.i64.has x.n → IntKind.i64.has x.at_ → RepC w ok .tok x [.int .i64 x.kind, .string x.text, .int .i64 x.n, .int .i64 x.at_]
inductive RepS (w : World) (ok : Nat → Prop) : (t : TC) → List (Den t) → Value → Prop
  | mk (t : TC) (xs : List (Den t)) (a : Option Addr) (c b o : Nat) (cs : Nat → List Value) : xs.length ≤ c → xs.length ≤ 140737488355328 →
      (∀ (j : Nat) (x : Den t), xs[j]? = some x → a = some ⟨b, o, none⟩ ∧ ok b) → (∀ (j : Nat) (x : Den t), xs[j]? = some x → RepC w ok t x (cs j)) →
      (∀ (j : Nat) (x : Den t) (i : Nat) (u : Value), xs[j]? = some x → (cs j)[i]? = some u → w.cell? ⟨b, o + (j * csize t + i), none⟩ = some u) → RepS w ok t xs (.slice a xs.length c)
end

/-- A later world: the allowed blocks are as they were, and still allowed. -/
structure Ext (w w' : World) (ok ok' : Nat → Prop) : Prop where
  same : ∀ b, ok b → b < w.heap.size → w'.heap[b]? = w.heap[b]?
  still : ∀ b, ok b → b < w.heap.size → ok' b

theorem Ext.refl (w : World) (ok : Nat → Prop) : Ext w w ok ok := ⟨fun _ _ _ => rfl, fun _ h _ => h⟩
theorem Ext.cell {w w' : World} {ok ok' : Nat → Prop} (h : Ext w w' ok ok') {b o : Nat} {v : Value} (hb : ok b) (hc : w.cell? ⟨b, o, none⟩ = some v) : w'.cell? ⟨b, o, none⟩ = some v ∧ ok' b := by
  have hlt := World.block_lt_of_cell? w _ hc
  exact ⟨(World.cell?_of_block (w := w) (a := ⟨b, o, none⟩) (h.same b hb hlt)).trans hc, h.still b hb hlt⟩

theorem csize_pos (t : TC) : 0 < csize t := by cases t <;> simp [csize]

theorem RepC.len {w : World} {ok : Nat → Prop} {t : TC} {x : Den t} {cs : List Value} (h : RepC w ok t x cs) : cs.length = csize t := by cases h <;> rfl

theorem RepC.mono_aux {w w' : World} {ok ok' : Nat → Prop} (h : Ext w w' ok ok') {t : TC} {x : Den t} {cs : List Value} (hr : RepC w ok t x cs) : RepC w' ok' t x cs := by
  refine RepC.rec (motive_1 := fun t x cs _ => RepC w' ok' t x cs) (motive_2 := fun t xs v _ => RepS w' ok' t xs v)
    ?_ ?_ ?_ ?_ ?_ ?_ ?_ ?_ ?_ ?_ ?_ ?_ ?_ hr
  · intros; constructor <;> assumption
  · intros; constructor
  · intros; constructor; assumption
  · intros; constructor; assumption
  · intros; constructor <;> assumption
  · intros; constructor <;> assumption
  · intros; constructor <;> assumption
  · intros; constructor <;> assumption
  · intros; constructor <;> assumption
  · intros; constructor <;> assumption
  · intros; constructor <;> assumption
  · intros; constructor <;> assumption
  · intro t xs a c b o cs h1 h2 h3 h4 h5 ih
    have hcell : ∀ j x, xs[j]? = some x → ∃ u, (cs j)[0]? = some u ∧ w.cell? ⟨b, o + (j * csize t + 0), none⟩ = some u := by
      intro j x hx
      have hl := (h4 j x hx).len
      have hp := csize_pos t
      have : (cs j)[0]? = some ((cs j)[0]'(by omega)) := List.getElem?_eq_getElem _
      exact ⟨_, this, h5 j x 0 _ hx this⟩
    refine RepS.mk t xs a c b o cs h1 h2 (fun j x hx => ?_) ih (fun j x i u hx hu => ?_)
    · obtain ⟨u, _, hc⟩ := hcell j x hx
      exact ⟨(h3 j x hx).1, (h.cell (h3 j x hx).2 hc).2⟩
    · exact (h.cell (h3 j x hx).2 (h5 j x i u hx hu)).1

theorem RepS.mono {w w' : World} {ok ok' : Nat → Prop} (h : Ext w w' ok ok') {t : TC} {xs : List (Den t)} {v : Value} (hr : RepS w ok t xs v) : RepS w' ok' t xs v := by
  have h1 := RepC.mono_aux h (RepC.list t xs v hr)
  cases h1; assumption
theorem RepC.mono {w w' : World} {ok ok' : Nat → Prop} (h : Ext w w' ok ok') {t : TC} {x : Den t} {cs : List Value} (hr : RepC w ok t x cs) : RepC w' ok' t x cs := RepC.mono_aux h hr

/-- A row of elements at a place. -/
def RepRow (w : World) (ok : Nat → Prop) (t : TC) (xs : List (Den t)) (b o : Nat) : Prop :=
  ∀ (j : Nat) (x : Den t), xs[j]? = some x → ok b ∧ ∃ cs, RepC w ok t x cs ∧ ∀ (i : Nat) (u : Value), cs[i]? = some u → w.cell? ⟨b, o + (j * csize t + i), none⟩ = some u

theorem RepRow.mono {w w' : World} {ok ok' : Nat → Prop} (h : Ext w w' ok ok') {t : TC} {xs : List (Den t)} {b o : Nat} (hr : RepRow w ok t xs b o) : RepRow w' ok' t xs b o := by
  intro j x hx
  obtain ⟨hb, cs, hc, hcell⟩ := hr j x hx
  have hp := csize_pos t
  have hl := hc.len
  have h0 : cs[0]? = some (cs[0]'(by omega)) := List.getElem?_eq_getElem _
  exact ⟨(h.cell hb (hcell 0 _ h0)).2, cs, hc.mono h, fun i u hu => (h.cell hb (hcell i u hu)).1⟩

theorem RepS.row {w : World} {ok : Nat → Prop} {t : TC} {xs : List (Den t)} {v : Value} (h : RepS w ok t xs v) :
    ∃ a c b o, v = .slice a xs.length c ∧ xs.length ≤ c ∧ xs.length ≤ 140737488355328 ∧ (0 < xs.length → a = some ⟨b, o, none⟩) ∧ RepRow w ok t xs b o := by
  cases h with
  | mk _ _ a c b o cs h1 h2 h3 h4 h5 =>
    refine ⟨a, c, b, o, rfl, h1, h2, fun hp => ?_, fun j x hx => ⟨(h3 j x hx).2, cs j, h4 j x hx, fun i u hu => h5 j x i u hx hu⟩⟩
    exact (h3 0 _ (List.getElem?_eq_getElem hp)).1
theorem RepS.of_row {w : World} {ok : Nat → Prop} {t : TC} {xs : List (Den t)} {a : Option Addr} {c b o : Nat} (h1 : xs.length ≤ c) (h2 : xs.length ≤ 140737488355328) (h3 : 0 < xs.length → a = some ⟨b, o, none⟩) (h : RepRow w ok t xs b o) :
    RepS w ok t xs (.slice a xs.length c) := by
  have hf : ∀ j : Nat, ∃ cs : List Value, ∀ x : Den t, xs[j]? = some x → RepC w ok t x cs ∧ ∀ (i : Nat) (u : Value), cs[i]? = some u → w.cell? ⟨b, o + (j * csize t + i), none⟩ = some u := by
    intro j
    cases hj : xs[j]? with
    | none => exact ⟨[], fun x hx => by cases hx⟩
    | some y =>
      obtain ⟨_, cs, hc, hcell⟩ := h j y hj
      exact ⟨cs, fun x hx => by cases hx; exact ⟨hc, hcell⟩⟩
  obtain ⟨f, hf⟩ := Classical.axiomOfChoice hf
  exact RepS.mk t xs a c b o f h1 h2 (fun j x hx => ⟨h3 (by have := (List.getElem?_eq_some_iff.1 hx).1; omega), (h j x hx).1⟩) (fun j x hx => (hf j x hx).1) (fun j x i u hx hu => (hf j x hx).2 i u hu)
theorem RepS.nil (w : World) (ok : Nat → Prop) (t : TC) (a : Option Addr) (c : Nat) : RepS w ok t [] (.slice a 0 c) :=
  RepS.of_row (xs := []) (Nat.zero_le _) (Nat.zero_le _) (fun h => absurd h (by simp)) (b := 0) (o := 0) (fun j x hx => by simp at hx)

/-- Numbers of functions: a function with captured values; with bound ones (from 1000000 on); the yield of a loop over a function (from 2000000 on). -/
def FnR (f : Nat) (us : List Value) (u : Value) : Prop :=
  if f < 1000000 then u = .func (.func f) #[] us.toArray
  else if f < 2000000 then u = .func (.func (f - 1000000)) us.toArray #[]
  else ∃ l, u = .func (.yield l) #[] #[] ∧ us = [.pointer (some ⟨l, 0, none⟩)]
theorem FnR.func {f : Nat} {us : List Value} {u : Value} (h : FnR f us u) : ∃ g a b, u = .func g a b := by
  unfold FnR at h
  split at h
  · exact ⟨_, _, _, h⟩
  · split at h
    · exact ⟨_, _, _, h⟩
    · obtain ⟨l, h, _⟩ := h; exact ⟨_, _, _, h⟩

mutual
/-- The value u is as the abstract value says. κ: the objects' own values (a variable's address, an array's header). -/
def RepV (w : World) (ok : Nat → Prop) (κ : Nat → Value) : AV → Value → Prop
  | .sc v, u => u = v ∧ scOK v
  | .gd c v, u => c = true → RepV w ok κ v u
  | .sl t xs, u => RepS w ok t xs u
  | .agg cs, u => ∃ us : List Value, u = .agg us.toArray ∧ RepL w ok κ cs us
  | .tup cs, u => ∃ us : List Value, u = .tuple us.toArray ∧ RepL w ok κ cs us
  | .ptr id off, u => ∃ b, κ id = .pointer (some ⟨b, 0, none⟩) ∧ u = .pointer (some ⟨b, off, none⟩)
  | .pp t x off, u => ∃ b o cs, u = .pointer (some ⟨b, o + off, none⟩) ∧ ok b ∧ RepC w ok t x cs ∧ ∀ (i : Nat) (v : Value), cs[i]? = some v → w.cell? ⟨b, o + i, none⟩ = some v
  | .pr t xs, u => ∃ b o, u = .pointer (some ⟨b, o, none⟩) ∧ xs.length ≤ 140737488355328 ∧ RepRow w ok t xs b o
  | .af id, u => u = κ id ∧ ∃ a n c, u = .slice a n c
  | .as_ id lo len sz, u => ∃ a n c a' c', κ id = .slice a n c ∧ n ≤ 140737488355328 ∧ lo + len ≤ n ∧ len ≤ c' ∧ u = .slice a' len c' ∧ (lo = 0 → a' = a ∧ c' = c) ∧ (0 < len → ∀ b, a = some ⟨b, 0, none⟩ → a' = some ⟨b, lo * sz, none⟩)
  | .ap id idx off sz, u => ∃ b n c, κ id = .slice (some ⟨b, 0, none⟩) n c ∧ u = .pointer (some ⟨b, idx * sz + off, none⟩)
  | .fn f cap, u => ∃ us : List Value, FnR f us u ∧ RepL w ok κ cap us
  | .ifc t v, u => ∃ u', u = .iface t u' ∧ RepV w ok κ v u'
  | .junk, _ => True
def RepL (w : World) (ok : Nat → Prop) (κ : Nat → Value) : List AV → List Value → Prop
  | [], us => us = []
  | c :: cs, us => ∃ u us', us = u :: us' ∧ RepV w ok κ c u ∧ RepL w ok κ cs us'
end

mutual
theorem RepV.mono {w w' : World} {ok ok' : Nat → Prop} {κ : Nat → Value} (h : Ext w w' ok ok') : ∀ (v : AV) (u : Value), RepV w ok κ v u → RepV w' ok' κ v u
  | .sc v, u, hr => hr
  | .gd c v, u, hr => fun hc => RepV.mono h v u (hr hc)
  | .sl t xs, u, hr => RepS.mono h hr
  | .agg cs, u, hr => by obtain ⟨us, he, hl⟩ := hr; exact ⟨us, he, RepL.mono h cs us hl⟩
  | .tup cs, u, hr => by obtain ⟨us, he, hl⟩ := hr; exact ⟨us, he, RepL.mono h cs us hl⟩
  | .ptr id off, u, hr => hr
  | .pp t x off, u, hr => by
    obtain ⟨b, o, cs, he, hb, hc, hcell⟩ := hr
    have hp := csize_pos t
    have hl := hc.len
    have h0 : cs[0]? = some (cs[0]'(by omega)) := List.getElem?_eq_getElem _
    exact ⟨b, o, cs, he, (h.cell hb (hcell 0 _ h0)).2, hc.mono h, fun i v hv => (h.cell hb (hcell i v hv)).1⟩
  | .pr t xs, u, hr => by obtain ⟨b, o, he, hle, hrow⟩ := hr; exact ⟨b, o, he, hle, hrow.mono h⟩
  | .af id, u, hr => hr
  | .as_ id lo len sz, u, hr => hr
  | .ap id idx off sz, u, hr => hr
  | .fn f cap, u, hr => by obtain ⟨us, he, hl⟩ := hr; exact ⟨us, he, RepL.mono h cap us hl⟩
  | .ifc t v, u, hr => by obtain ⟨u', he, hv⟩ := hr; exact ⟨u', he, RepV.mono h v u' hv⟩
  | .junk, _, _ => trivial
theorem RepL.mono {w w' : World} {ok ok' : Nat → Prop} {κ : Nat → Value} (h : Ext w w' ok ok') : ∀ (cs : List AV) (us : List Value), RepL w ok κ cs us → RepL w' ok' κ cs us
  | [], us, hr => hr
  | c :: cs, us, hr => by obtain ⟨u, us', he, hv, hl⟩ := hr; exact ⟨u, us', he, RepV.mono h c u hv, RepL.mono h cs us' hl⟩
end

theorem RepL.length {w : World} {ok : Nat → Prop} {κ : Nat → Value} : ∀ (cs : List AV) (us : List Value), RepL w ok κ cs us → us.length = cs.length
  | [], us, hr => by rw [show us = [] from hr]; rfl
  | c :: cs, us, hr => by obtain ⟨u, us', rfl, _, hl⟩ := hr; simp [RepL.length cs us' hl]
theorem RepL.get {w : World} {ok : Nat → Prop} {κ : Nat → Value} : ∀ (cs : List AV) (us : List Value), RepL w ok κ cs us → ∀ (j : Nat) (c : AV), cs[j]? = some c → ∃ u, us[j]? = some u ∧ RepV w ok κ c u
  | [], us, hr, j, c, hc => by simp at hc
  | c :: cs, us, hr, 0, d, hc => by obtain ⟨u, us', rfl, hv, hl⟩ := hr; simp at hc; subst hc; exact ⟨u, rfl, hv⟩
  | c :: cs, us, hr, j + 1, d, hc => by obtain ⟨u, us', rfl, hv, hl⟩ := hr; simpa using RepL.get cs us' hl j d (by simpa using hc)
theorem RepL.of_get {w : World} {ok : Nat → Prop} {κ : Nat → Value} : ∀ (cs : List AV) (us : List Value), us.length = cs.length → (∀ (j : Nat) (c : AV) (u : Value), cs[j]? = some c → us[j]? = some u → RepV w ok κ c u) → RepL w ok κ cs us
  | [], us, hl, _ => List.eq_nil_of_length_eq_zero (by simpa using hl)
  | c :: cs, [], hl, _ => by simp at hl
  | c :: cs, u :: us, hl, h => ⟨u, us, rfl, h 0 c u rfl rfl, RepL.of_get cs us (by simpa using hl) (fun j d v hd hv => h (j + 1) d v (by simpa using hd) (by simpa using hv))⟩
theorem RepL.append {w : World} {ok : Nat → Prop} {κ : Nat → Value} {cs ds : List AV} {us vs : List Value} (h : RepL w ok κ cs us) (k : RepL w ok κ ds vs) : RepL w ok κ (cs ++ ds) (us ++ vs) := by
  induction cs generalizing us with
  | nil => rw [show us = [] from h]; simpa using k
  | cons c cs ih => obtain ⟨u, us', rfl, hv, hl⟩ := h; exact ⟨u, us' ++ vs, rfl, hv, ih hl⟩
theorem RepL.take {w : World} {ok : Nat → Prop} {κ : Nat → Value} {cs : List AV} {us : List Value} (h : RepL w ok κ cs us) (n : Nat) : RepL w ok κ (cs.take n) (us.take n) := by
  induction n generalizing cs us with
  | zero => simp [RepL]
  | succ n ih => cases cs with
    | nil => rw [show us = [] from h]; simp [RepL]
    | cons c cs => obtain ⟨u, us', rfl, hv, hl⟩ := h; exact ⟨u, us'.take n, by simp, hv, ih hl⟩
theorem RepL.drop {w : World} {ok : Nat → Prop} {κ : Nat → Value} {cs : List AV} {us : List Value} (h : RepL w ok κ cs us) (n : Nat) : RepL w ok κ (cs.drop n) (us.drop n) := by
  induction n generalizing cs us with
  | zero => simpa using h
  | succ n ih => cases cs with
    | nil => rw [show us = [] from h]; simp [RepL]
    | cons c cs => obtain ⟨u, us', rfl, hv, hl⟩ := h; simpa using ih hl
end Go.AM
/-
  The abstract machine, part 3: what one operation does to abstract values: a function that the kernel can compute.
-/
namespace Go.AM
open Go RowKit

/-- What is known of a type. -/
inductive TD where
  | int (k : IntKind) | bool | str | slice (e : TypeId) | arr (n : Nat) (e : TypeId) | struct (fs : List (Nat × TypeId)) | other
structure TI where
  td : TD
  size : Nat
  bytes : Nat
  zero : List Value
  tc : Option TC

def assoc {α : Type} : List (Nat × α) → Nat → Option α
  | [], _ => none
  | (k, v) :: l, i => if k == i then some v else assoc l i

abbrev Tab := List (Nat × TI)

def isAggT : TD → Bool
  | .arr .. | .struct _ => true
  | _ => false

/-- May stand in one cell. -/
def cellAV : AV → Bool
  | .sc (.agg _) | .sc (.tuple _) => false
  | .gd .. | .agg _ | .tup _ | .junk => false
  | _ => true
def cellsAV : AV → List AV
  | .agg cs => cs
  | v => [v]

/-- A deferred call: a mark of a loop over a function; a function's value. -/
inductive ADf where
  | mark (id : Nat)
  | fn (f : FuncId) (cap : List AV)
structure ASt where
  slots : List (Nat × AV)
  objs : List (Nat × AObj)
  nxt : Nat := 0
  dfs : List ADf := []

/-- The number of an array that a value leans on. -/
def leanOn : AV → List Nat
  | .af id => [id]
  | .as_ id _ _ _ => [id]
  | _ => []
def leans (v : AV) : List Nat := (cellsAV v).flatMap leanOn

mutual
/-- Object numbers turned. -/
def ren (f : Nat → Option Nat) : AV → AV
  | .sc v => .sc v
  | .gd c v => .gd c (ren f v)
  | .sl t xs => .sl t xs
  | .agg cs => .agg (renL f cs)
  | .tup cs => .tup (renL f cs)
  | .ptr id off => match f id with | some j => .ptr j off | none => .junk
  | .pp t x off => .pp t x off
  | .pr t xs => .pr t xs
  | .af id => match f id with | some j => .af j | none => .junk
  | .as_ id lo len sz => match f id with | some j => .as_ j lo len sz | none => .junk
  | .ap id idx off sz => match f id with | some j => .ap j idx off sz | none => .junk
  | .fn g cap => .fn g (renL f cap)
  | .ifc t v => .ifc t (ren f v)
  | .junk => .junk
def renL (f : Nat → Option Nat) : List AV → List AV
  | [] => []
  | c :: cs => ren f c :: renL f cs
end
def renO (f : Nat → Option Nat) : AObj → AObj
  | .var t cs => .var t (renL f cs)
  | .arr e t xs => .arr e t xs
  | .fz t xs => .fz t xs
  | .iter s pos => .iter s pos
  | .dfr => .dfr
  | .lp key b cs => .lp key b (renL f cs)
  | .blk => .blk
  | .gone => .gone

/-- The contents of an array that a value leans on, as a list of its own: nil and shared lists stay as they are. -/
def settle (ob : List (Nat × AObj)) : AV → AV
  | .sc v => .sc v
  | .af id => match assoc ob id with
    | some (.arr _ t xs) => .sl t xs
    | some (.fz t xs) => .sl t xs
    | _ => .af id
  | .as_ id lo len sz => match assoc ob id with
    | some (.arr _ t xs) => if sz = csize t then .sl t ((xs.drop lo).take len) else .as_ id lo len sz
    | _ => .as_ id lo len sz
  | v => v
/-- The arrays that are leant on are no longer written. -/
def froze (ob : List (Nat × AObj)) : List (Nat × AObj) :=
  ob.filterMap fun (id, o) => match o with
    | .arr _ t xs => some (id, .fz t xs)
    | _ => none

def scI : IntKind → AV → Option Int
  | k, .sc (.int k' n) => if k = k' then some n else none
  | _, _ => none
def scS : AV → Option ByteArray
  | .sc (.string s) => some s
  | _ => none

/-- An element out of its cells. -/
def unembC : (t : TC) → List AV → Option (Den t)
  | .i k, [a] => scI k a
  | .bool, [.sc (.bool b)] => some b
  | .str, [a] => scS a
  | .list t, [a] => unS t a
  | .frac, [a, b] => do some (DFrac.mk (← scI .i64 a) (← scI .i64 b))
  | .matcher, [a, b, c] => do some (DMatcher.mk (← scS a) (← scI .i64 b) (← scS c))
  | .label, [a, b] => do some (DLabel.mk (← scS a) (← scS b))
  | .unit, [a, b, c] => do some (DUnit.mk (← scI .i64 a) (← scI .i64 b) (← scI .i64 c))
  | .ins, [a0, a1, a2, a3, a4, a5, a6, a7, a8, a9] => do
    some (DIns.mk (← scI .i64 a0) (← scI .i64 a1) (← scI .i64 a2) (← scI .i64 a3) (← scI .i64 a4) (DFrac.mk (← scI .i64 a5) (← scI .i64 a6)) (← scS a7) (← unS .matcher a8) (← unS .str a9))
  | .expr, [a0, a1, a2, a3, a4, a5, a6, a7, a8, a9, a10] => do
    some (DExpr.mk (← scI .i64 a0) (← scI .i64 a1) (← scI .i64 a2) (← scI .i64 a3) (← scI .i64 a4) (DFrac.mk (← scI .i64 a5) (← scI .i64 a6)) (← scS a7) (← unS .matcher a8) (← unS .str a9) (← unS .expr a10))
  | .decl, [a0, a1, a2, a3, a4, a5, a6, a7, a8, a9, a10, a11] => do
    some (DDecl.mk (← scS a0) (← unS .label a1) (DUnit.mk (← scI .i64 a2) (← scI .i64 a3) (← scI .i64 a4)) (← scI .i64 a5) (← scI .i64 a6) (← scI .i64 a7) (← scI .i64 a8) (← scI .i64 a9) (← scI .i64 a10) (← scI .i64 a11))
  | .tok, [a, b, c, d] => do some (DTok.mk (← scI .i64 a) (← scS b) (← scI .i64 c) (← scI .i64 d))
  | _, _ => none

/-- Which objects an operation looks at. -/
def touch (op : Op) (vals : List AV) : List Nat :=
  match op, vals with
  | .load .., [.ptr id _] => [id]
  | .load .., [.ap id _ _ _] => [id]
  | .store .., [.ptr id _, v] => [id]
  | .store .., [.ap id _ _ _, v] => id :: leans v
  | .indexAddr .., [x, _] => leanOn x
  | .slice .., x :: _ => leanOn x
  | .buildSlice .., vs => vs.flatMap leans
  | .convert .., [x] => leanOn x
  | .next .., [.ptr id _] => [id]
  | .call _, vs => vs.flatMap leans
  | _, _ => []

structure COut where
  vc : Bool
  dst : AV
  objs : List (Nat × AObj)

def ret (v : AV) : Option COut := some ⟨true, v, []⟩
def retV (vc : Prop) [Decidable vc] (v : AV) : Option COut := some ⟨decide vc, v, []⟩

/-- Cells put in a place. -/
def splice (cs : List AV) (off : Nat) (ds : List AV) : List AV := cs.take off ++ (ds ++ cs.drop (off + ds.length))

/-- Parts put in their places: (place, cells). -/
def fillA : List AV → List (Nat × Nat × AV) → Option (List AV)
  | cs, [] => some cs
  | cs, (off, size, v) :: r =>
    if (cellsAV v).length == size && off + size ≤ cs.length && (cellsAV v).all cellAV then fillA (splice cs off (cellsAV v)) r else none

def scs (l : List Value) : List AV := l.map .sc

/-- Lists cut into elements of sz cells. -/
def chunk (sz : Nat) : Nat → List AV → List (List AV)
  | 0, _ => []
  | n + 1, cs => cs.take sz :: chunk sz n (cs.drop sz)
def unAll (t : TC) : List (List AV) → Option (List (Den t))
  | [] => some []
  | c :: r => do some ((← unembC t c) :: (← unAll t r))

def bt (s : ByteArray) (i : Int) : Int := if h : i.toNat < s.size then ((s[i.toNat]'h).toNat : Int) else 0
def bytesOf (s : ByteArray) : List Int := s.data.toList.map fun b => (b.toNat : Int)
def ofBytes (xs : List Int) : ByteArray := ⟨(xs.map fun n => UInt8.ofNat n.toNat).toArray⟩

def eqCells : List AV → List AV → Option (List Bool)
  | [], [] => some []
  | .sc (.int k a) :: r, .sc (.int k' b) :: q => if k = k' then (eqCells r q).map ((a == b) :: ·) else none
  | .sc (.string a) :: r, .sc (.string b) :: q => (eqCells r q).map ((a.toList == b.toList) :: ·)
  | .sc (.bool a) :: r, .sc (.bool b) :: q => (eqCells r q).map ((a == b) :: ·)
  | _, _ => none
def allB : List Bool → Bool
  | [] => true
  | [b] => b
  | b :: r => b && allB r

def coreBin (op : BinOp) (Θ : Tab) (T : TypeId) (x y : AV) : Option COut :=
  match x, y with
  | .sc (.string a), .sc (.string b) =>
    match op with
    | .add => retV (((a.size + b.size : Nat) : Int) ≤ 9223372036854775807) (.sc (.string (a ++ b)))
    | .eql => ret (.sc (.bool (a.toList == b.toList)))
    | .neq => ret (.sc (.bool (!(a.toList == b.toList))))
    | .lss => ret (.sc (.bool (Op.bytesLess a.toList b.toList)))
    | .leq => ret (.sc (.bool (Op.bytesLess a.toList b.toList || a.toList == b.toList)))
    | .gtr => ret (.sc (.bool (!(Op.bytesLess a.toList b.toList || a.toList == b.toList))))
    | .geq => ret (.sc (.bool (!Op.bytesLess a.toList b.toList)))
    | _ => none
  | .sc (.int k a), .sc (.int k' b) =>
    match op with
    | .shl => retV (0 ≤ b) (.sc (.int k (k.wrap (a * 2 ^ (min b.toNat k.bits)))))
    | .shr => retV (0 ≤ b) (.sc (.int k (a.fdiv (2 ^ (min b.toNat k.bits)))))
    | _ =>
      if k = k' then
        match op with
        | .add => ret (.sc (.int k (k.wrap (a + b))))
        | .sub => ret (.sc (.int k (k.wrap (a - b))))
        | .mul => ret (.sc (.int k (k.wrap (a * b))))
        | .quo => retV (b ≠ 0) (.sc (.int k (k.wrap (a.tdiv b))))
        | .rem => retV (b ≠ 0) (.sc (.int k (a.tmod b)))
        | .eql => ret (.sc (.bool (a == b)))
        | .neq => ret (.sc (.bool (a != b)))
        | .lss => ret (.sc (.bool (decide (a < b))))
        | .leq => ret (.sc (.bool (decide (a ≤ b))))
        | .gtr => ret (.sc (.bool (decide (a > b))))
        | .geq => ret (.sc (.bool (decide (a ≥ b))))
        | .and => ret (.sc (.int k (k.wrap (BitVec.ofInt k.bits a &&& BitVec.ofInt k.bits b).toNat)))
        | .or => ret (.sc (.int k (k.wrap (BitVec.ofInt k.bits a ||| BitVec.ofInt k.bits b).toNat)))
        | .xor => ret (.sc (.int k (k.wrap (BitVec.ofInt k.bits a ^^^ BitVec.ofInt k.bits b).toNat)))
        | .andNot => ret (.sc (.int k (k.wrap (BitVec.ofInt k.bits a &&& ~~~(BitVec.ofInt k.bits b)).toNat)))
        | _ => none
      else none
  | .sc (.bool a), .sc (.bool b) =>
    match assoc Θ T with
    | some ti => match ti.td with
      | .bool => match op with
        | .eql => ret (.sc (.bool (a == b)))
        | .neq => ret (.sc (.bool (!(a == b))))
        | _ => none
      | _ => none
    | none => none
  | _, _ => none

def scOKb : Value → Bool
  | .int k n => decide (k.min ≤ n) && decide (n ≤ k.max)
  | .string s => decide (s.size ≤ 9223372036854775807)
  | .agg _ | .tuple _ => false
  | _ => true
/-- The value of an operand: a slot's, a constant's, a function's. -/
def opIn (slots : List (Nat × AV)) (glob : List (Nat × AV)) : Operand → Option AV
  | .tmp t => assoc slots t
  | .const v => if scOKb v = true then some (.sc v) else none
  | .func f => if f < 1000000 then some (.fn f []) else none
  | .global g => assoc glob g

def loBound (lo : Option AV) : Option Int := match lo with | none => some 0 | some (.sc (.int _ n)) => some n | _ => none
def hiBound (n : Nat) (hi : Option AV) : Option Int := match hi with | none => some n | some (.sc (.int _ n)) => some n | _ => none
/-- The bounds of 'x[lo:hi]' among a slice's operands. -/
def bounds (lo hi mx : Option Operand) (vs : List AV) (n : Nat) : Option (Int × Int) :=
  match lo, hi, mx, vs with
  | none, none, none, [] => some (0, n)
  | some _, none, none, [.sc (.int _ a)] => some (a, n)
  | none, some _, none, [.sc (.int _ b)] => some (0, b)
  | some _, some _, none, [.sc (.int _ a), .sc (.int _ b)] => some (a, b)
  | _, _, _, _ => none
end Go.AM
/-
  The abstract machine, part 4: one operation.
-/
namespace Go.AM
open Go RowKit

/-- The length of what may be sliced or indexed. -/
def lenAV (obs : List (Nat × AObj)) : AV → Option Nat
  | .sl _ xs => some xs.length
  | .pr _ xs => some xs.length
  | .af id => match assoc obs id with
    | some (.arr _ _ xs) => some xs.length
    | some (.fz _ xs) => some xs.length
    | _ => none
  | .as_ _ _ len _ => some len
  | .sc (.slice none 0 0) => some 0
  | .sc (.string s) => some s.size
  | _ => none

/-- A value out of cells. -/
def giveC (ti : TI) (vc : Prop) [Decidable vc] (cs : List AV) (off : Nat) : Option COut :=
  if off + ti.size ≤ cs.length then
    if isAggT ti.td then retV vc (.agg ((cs.drop off).take ti.size))
    else match cs[off]? with
      | some c => retV vc c
      | none => none
  else none

def coreLoad (Θ : Tab) (T : TypeId) (obs : List (Nat × AObj)) (a : AV) : Option COut :=
  match assoc Θ T with
  | none => none
  | some ti => match a with
    | .ptr id off => match assoc obs id with
      | some (.var _ cs) => giveC ti True cs off
      | _ => none
    | .pp t x off => giveC ti True (embC t x) off
    | .ap id idx off sz => match assoc obs id with
      | some (.arr _ t xs) => if sz = csize t then giveC ti (idx < xs.length) (embC t (xs.getD idx (dflt t))) off else none
      | some (.fz t xs) => if sz = csize t then giveC ti (idx < xs.length) (embC t (xs.getD idx (dflt t))) off else none
      | _ => none
    | .pr t xs => if isAggT ti.td = true ∧ ti.size = xs.length * csize t then retV True (.agg (xs.flatMap (embC t))) else none
    | _ => none

/-- The objects but one. -/
def but (id : Nat) (obs : List (Nat × AObj)) : List (Nat × AObj) := obs.filter fun p => p.1 != id

def coreStore (Θ : Tab) (T : TypeId) (obs : List (Nat × AObj)) (a v : AV) : Option COut :=
  match assoc Θ T with
  | none => none
  | some ti =>
    if (cellsAV v).length = ti.size ∧ (cellsAV v).all cellAV = true then
      match a with
      | .ptr id off => match assoc obs id with
        | some (.var t cs) => if off + (cellsAV v).length ≤ cs.length then some ⟨true, .junk, [(id, .var t (splice cs off (cellsAV v)))]⟩ else none
        | _ => none
      | .ap id idx off sz => match assoc obs id with
        | some (.arr e t xs) =>
          if sz = csize t ∧ off + (cellsAV v).length ≤ csize t then
            match unembC t (splice (embC t (xs.getD idx (dflt t))) off ((cellsAV v).map (settle (but id obs)))) with
            | some y => some ⟨decide (idx < xs.length), .junk, froze (but id obs) ++ [(id, .arr e t (xs.set idx y))]⟩
            | none => none
          else none
        | _ => none
      | _ => none
    else none

def coreIndexAddr (Θ : Tab) (T : TypeId) (obs : List (Nat × AObj)) (x i : AV) : Option COut :=
  match assoc Θ T, i with
  | some ti, .sc (.int _ n) =>
    match ti.td with
    | .slice e => match assoc Θ e with
      | some te => match x with
        | .sl t xs => if te.size = csize t then retV (0 ≤ n ∧ n < xs.length) (.pp t (xs.getD n.toNat (dflt t)) 0) else none
        | .af id => match assoc obs id with
          | some (.arr _ t xs) => if te.size = csize t then retV (0 ≤ n ∧ n < xs.length) (.ap id n.toNat 0 (csize t)) else none
          | some (.fz t xs) => if te.size = csize t then retV (0 ≤ n ∧ n < xs.length) (.pp t (xs.getD n.toNat (dflt t)) 0) else none
          | _ => none
        | .as_ id lo len sz => match assoc obs id with
          | some (.arr _ t xs) => if te.size = csize t ∧ sz = csize t then retV (0 ≤ n ∧ n < len ∧ lo + len ≤ xs.length) (.ap id (lo + n.toNat) 0 (csize t)) else none
          | _ => none
        | _ => none
      | none => none
    | .arr m e => match assoc Θ e with
      | some te => match x with
        | .pr t xs => if te.size = csize t ∧ m = xs.length ∧ 1 < m then retV (0 ≤ n ∧ n < xs.length) (.pp t (xs.getD n.toNat (dflt t)) 0) else none
        | .ptr id off => match n with
          | .ofNat j => if j < m ∧ 1 < m then ret (.ptr id (off + j * te.size)) else none
          | _ => none
        | _ => none
      | none => none
    | _ => none
  | _, _ => none

def coreIndex (Θ : Tab) (T : TypeId) (x i : AV) : Option COut :=
  match assoc Θ T, i, x with
  | some ti, .sc (.int _ n), .sc (.string s) => match ti.td with
    | .str => retV (0 ≤ n ∧ n < s.size) (.sc (.int .u8 (bt s n)))
    | _ => none
  | _, _, _ => none

def coreSlice (Θ : Tab) (T : TypeId) (obs : List (Nat × AObj)) (lo hi mx : Option Operand) (x : AV) (bs : List AV) : Option COut :=
  match assoc Θ T, lenAV obs x with
  | some ti, some n => match bounds lo hi mx bs n with
    | some (l, h) => match ti.td with
      | .str => match x with
        | .sc (.string s) => retV (0 ≤ l ∧ l ≤ h ∧ h ≤ s.size) (.sc (.string (s.extract l.toNat h.toNat)))
        | _ => none
      | .slice e => match assoc Θ e with
        | some te => match x with
          | .sl t xs => if te.size = csize t then retV (0 ≤ l ∧ l ≤ h ∧ h ≤ n) (.sl t ((xs.drop l.toNat).take (h - l).toNat)) else none
          | .af id => match assoc obs id with
            | some (.arr _ t _) => if te.size = csize t then retV (0 ≤ l ∧ l ≤ h ∧ h ≤ n) (.as_ id l.toNat (h - l).toNat (csize t)) else none
            | _ => none
          | .as_ id lo' _ sz => if te.size = sz then retV (0 ≤ l ∧ l ≤ h ∧ h ≤ n) (.as_ id (lo' + l.toNat) (h - l).toNat sz) else none
          | _ => none
        | none => none
      | .arr m e => match assoc Θ e with
        | some te => match x with
          | .pr t xs => if te.size = csize t ∧ m = xs.length then retV (0 ≤ l ∧ l ≤ h ∧ h ≤ n) (.sl t ((xs.drop l.toNat).take (h - l).toNat)) else none
          | _ => none
        | none => none
      | _ => none
    | none => none
  | _, _ => none

/-- The numbers that an operation may give. -/
def newIds (nid i : Nat) : Bool := decide (nid ≤ i) && decide (i < nid + 16)

mutual
/-- No number out of N in it. -/
def lacks (N : Nat → Bool) : AV → Bool
  | .gd _ v => lacks N v
  | .agg cs => lacksL N cs
  | .tup cs => lacksL N cs
  | .ptr id _ => !N id
  | .af id => !N id
  | .as_ id _ _ _ => !N id
  | .ap id _ _ _ => !N id
  | .fn _ cap => lacksL N cap
  | .ifc _ v => lacks N v
  | _ => true
def lacksL (N : Nat → Bool) : List AV → Bool
  | [] => true
  | c :: cs => lacks N c && lacksL N cs
end
def lacksO (N : Nat → Bool) : AObj → Bool
  | .var _ cs => lacksL N cs
  | .lp _ _ cs => lacksL N cs
  | _ => true
def lacksD (N : Nat → Bool) : ADf → Bool
  | .mark id => !N id
  | .fn _ cap => lacksL N cap
/-- append(v, x): what v was, its number, and what that asks. -/
def headOf (obs : List (Nat × AObj)) (e : TypeId) (t : TC) : AV → Option (List (Den t) × Option Nat × Bool)
  | .sc (.slice none 0 0) => some ([], none, true)
  | .af id => match assoc obs id with
    | some (.arr e' t' xs) => if h : t' = t then if e' = e then some (h ▸ xs, some id, true) else none else none
    | _ => none
  | .as_ id 0 len sz => match assoc obs id with
    | some (.arr e' t' xs) => if h : t' = t then if e' = e then some ((h ▸ xs : List (Den t)).take len, some id, decide (len ≤ xs.length)) else none else none
    | _ => none
  | _ => none
/-- The contents of what is put behind. -/
def tailOf (obs : List (Nat × AObj)) (t : TC) (x : AV) : Option (List (Den t)) :=
  match t, x with
  | .i .u8, .sc (.string s) => some (bytesOf s)
  | t, x => unS t (settle obs x)
def isStr : AV → Bool
  | .sc (.string _) => true
  | _ => false

/-- A byte's type. -/
def byteTI (te : TI) : Bool := match te.td, te.zero with
  | .int .u8, [.int .u8 n] => decide (n = 0) && te.bytes == 1
  | _, _ => false
def strTI (Θ : Tab) (T : TypeId) : Bool := match assoc Θ T with
  | some ti => match ti.td with
    | .str => true
    | _ => false
  | none => false
def coreAppend (Θ : Tab) (T T2 : TypeId) (nid : Nat) (obs : List (Nat × AObj)) (v x : AV) : Option COut :=
  match assoc Θ T with
  | some ti => match ti.td with
    | .slice e => match assoc Θ e with
      | some te => match te.tc with
        | some t => match headOf obs e t v, tailOf obs t x with
          | some (xs, id, vc), some ys =>
            if te.size = csize t ∧ 0 < te.bytes ∧ (if isStr x then byteTI te && strTI Θ T2 && decide (t = .i .u8) else decide (T = T2)) = true ∧ id.all (fun i => !(leanOn x).contains i) = true then
              some ⟨vc && decide ((xs.length + ys.length) * te.bytes ≤ 140737488355328), .af nid, (id.map (·, .gone)).toList ++ [(nid, .arr e t (xs ++ ys))]⟩
            else none
          | _, _ => none
        | none => none
      | none => none
    | _ => none
  | none => none

def intMin (x y : Int) : Int := if y < x then y else x
def intMax (x y : Int) : Int := if y > x then y else x

/-- What len may be asked of. -/
def lenOK : TD → AV → Bool
  | .str, .sc (.string _) => true
  | .slice _, .sc (.slice ..) => true
  | .slice _, .sl .. => true
  | .slice _, .af _ => true
  | .slice _, .as_ .. => true
  | _, _ => false
def coreBuiltin (Θ : Tab) (b : Builtin) (argTypes : List TypeId) (nid : Nat) (obs : List (Nat × AObj)) (vals : List AV) : Option COut :=
  match b, argTypes, vals with
  | .len, [T], [x] => match assoc Θ T with
    | some ti => if lenOK ti.td x = true then match ti.td, lenAV obs x with
        | .str, some n => ret (.sc (.int .i64 n))
        | .slice _, some n => ret (.sc (.int .i64 n))
        | _, _ => none
      else none
    | none => none
  | .append, [T, T2], [v, x] => coreAppend Θ T T2 nid obs v x
  | .min, [_, _], [.sc (.int k a), .sc (.int k' b)] => if k = k' then ret (.sc (.int k (intMin a b))) else none
  | .max, [_, _], [.sc (.int k a), .sc (.int k' b)] => if k = k' then ret (.sc (.int k (intMax a b))) else none
  | _, _, _ => none

/-- A struct's parts with their places. -/
def partsOf (Θ : Tab) (fs : List (Nat × TypeId)) : List (Nat × Operand) → List AV → Option (List (Nat × Nat × AV))
  | [], [] => some []
  | (i, _) :: ps, v :: vs => match fs[i]? with
    | some (off, ft) => match assoc Θ ft, partsOf Θ fs ps vs with
      | some tf, some r => some ((off, tf.size, v) :: r)
      | _, _ => none
    | none => none
  | _, _ => none
def partsAt (size : Nat) : List (Nat × Operand) → List AV → List (Nat × Nat × AV)
  | (i, _) :: ps, v :: vs => (i * size, size, v) :: partsAt size ps vs
  | _, _ => []

def coreBuild (Θ : Tab) (T : TypeId) (parts : List (Nat × Operand)) (vals : List AV) : Option COut :=
  match assoc Θ T with
  | some ti => match ti.td with
    | .struct fs => if fs.all (fun p => (assoc Θ p.2).isSome) = true then match partsOf Θ fs parts vals with
        | some ps => match fillA (scs ti.zero) ps with
          | some cs => ret (.agg cs)
          | none => none
        | none => none
      else none
    | .arr _ e => match assoc Θ e with
      | some te => match fillA (scs ti.zero) (partsAt te.size parts vals) with
        | some cs => ret (.agg cs)
        | none => none
      | none => none
    | _ => none
  | none => none

def coreBuildSlice (Θ : Tab) (T : TypeId) (len : Nat) (parts : List (Nat × Operand)) (nid : Nat) (obs : List (Nat × AObj)) (vals : List AV) : Option COut :=
  match assoc Θ T with
  | some ti => match ti.td with
    | .slice e => match assoc Θ e with
      | some te => match te.tc with
        | some t =>
          if te.size = csize t ∧ te.zero.length = te.size ∧ len * te.size ≤ 16777216 ∧ len * te.bytes ≤ 140737488355328 ∧ len ≤ 140737488355328 then
            match fillA ((List.range len).flatMap fun _ => scs te.zero) (partsAt te.size parts vals) with
            | some cs => match unAll t (chunk te.size len (cs.map (settle obs))) with
              | some xs => some ⟨true, .af nid, froze obs ++ [(nid, .arr e t xs)]⟩
              | none => none
            | none => none
          else none
        | none => none
      | none => none
    | _ => none
  | none => none

def coreConvert (Θ : Tab) (src dst : TypeId) (obs : List (Nat × AObj)) (x : AV) : Option COut :=
  match assoc Θ src, assoc Θ dst with
  | some ts, some td => match ts.td, td.td, x with
    | .int _, .int k, .sc (.int _ n) => ret (.sc (.int k (k.wrap n)))
    | .str, .str, .sc (.string s) => ret (.sc (.string s))
    | .str, .slice e, .sc (.string s) => match assoc Θ e with
      | some te => match te.td with
        | .int .u8 => retV (s.size ≤ 140737488355328) (.sl (.i .u8) (bytesOf s))
        | _ => none
      | none => none
    | .slice e, .str, x => match assoc Θ e with
      | some te => match te.td, unS (.i .u8) (settle obs x) with
        | .int .u8, some xs => ret (.sc (.string (ofBytes xs)))
        | _, _ => none
      | none => none
    | _, _, _ => none
  | _, _ => none

def coreField (Θ : Tab) (S f : Nat) (cs : List AV) : Option COut :=
  match assoc Θ S with
  | some ti => match ti.td with
    | .struct fs => match fs[f]? with
      | some (off, ft) => match assoc Θ ft with
        | some tf => if off + tf.size ≤ cs.length then if isAggT tf.td then ret (.agg ((cs.drop off).take tf.size)) else (cs[off]?).bind ret else none
        | none => none
      | none => none
    | _ => none
  | none => none
def coreFieldAddr (Θ : Tab) (S f : Nat) (a : AV) : Option COut :=
  match assoc Θ S with
  | some ti => match ti.td with
    | .struct fs => match fs[f]? with
      | some (off, ft) => match assoc Θ ft with
        | some tf => if 0 < tf.size then match a with
            | .ptr id o => ret (.ptr id (o + off))
            | .pp t x o => ret (.pp t x (o + off))
            | .ap id idx o sz => ret (.ap id idx (o + off) sz)
            | _ => none
          else none
        | none => none
      | none => none
    | _ => none
  | none => none

/-- A walk over a string's letters. -/
def coreRange (Θ : Tab) (T : TypeId) (nid : Nat) : AV → Option COut
  | .sc (.string s) => match assoc Θ T with
    | some ti => match ti.td with
      | .str => some ⟨true, .ptr nid 0, [(nid, .iter s 0)]⟩
      | _ => none
    | none => none
  | _ => none
def corePick : AV → AV → AV → Option COut
  | .sc (.bool c), .sc (.bool x), .sc (.bool y) => ret (.sc (.bool (if c then x else y)))
  | .sc (.bool c), x, y => match c with
    | true => ret x
    | false => ret y
  | _, _, _ => none

/-- Which kinds the cells are of. -/
def eqK (cs : List AV) : List Nat := cs.map fun | .sc (.int .i64 _) => 0 | .sc (.string _) => 1 | .sc (.bool _) => 2 | _ => 9
def coreEq (eqs : List (Nat × List Nat)) (op : BinOp) (T : TypeId) (cs ds : List AV) : Option COut :=
  match eqCells cs ds with
  | some l => if eqs.contains (T, eqK cs) then match op with
      | .eql => ret (.sc (.bool (allB l)))
      | .neq => ret (.sc (.bool (!allB l)))
      | _ => none
    else none
  | none => none

def coreIface (Θ : Tab) (T : TypeId) (v : AV) : Option COut :=
  match assoc Θ T with
  | some ti => match ti.td with
    | .other => none
    | _ => ret (.ifc T v)
  | none => none

def coreMakeSlice (Θ : Tab) (T : TypeId) (nid : Nat) (l c : Int) : Option COut :=
  match assoc Θ T with
  | some ti => match ti.td with
    | .slice e => match assoc Θ e with
      | some te => match te.tc with
        | some t => match unembC t (scs te.zero) with
          | some z => if te.size = csize t ∧ 0 < te.bytes ∧ te.zero.length = te.size then
              some ⟨decide (l = c ∧ 0 ≤ l ∧ l * te.bytes ≤ 140737488355328), .af nid, [(nid, .arr e t (List.replicate l.toNat z))]⟩
            else none
          | none => none
        | none => none
      | none => none
    | _ => none
  | none => none

def coreUn (u : UnOp) (x : AV) : Option COut :=
  match u, x with
  | .neg, .sc (.int k n) => ret (.sc (.int k (k.wrap (0 - n))))
  | .not, .sc (.bool b) => ret (.sc (.bool (!b)))
  | _, _ => none
def coreFunc (fn : Fn) (first cap : Array Operand) (vals : List AV) : Option COut :=
  match fn with
  | .func f => if f < 1000000 then if first.size = 0 then ret (.fn f vals) else if cap.size = 0 then ret (.fn (f + 1000000) vals) else none else none
  | _ => none
def coreExtract (k : Nat) : AV → Option COut
  | .tup cs => match cs[k]? with
    | some v => ret v
    | none => none
  | _ => none
def coreCall (Θ : Tab) (c : Call) (nid : Nat) (obs : List (Nat × AObj)) (vals : List AV) : Option COut :=
  match c.callee with
  | .builtin b => coreBuiltin Θ b c.argTypes.toList nid obs vals
  | _ => none
def coreBin2 (Θ : Tab) (eqs : List (Nat × List Nat)) (b : BinOp) (T : TypeId) (x y : AV) : Option COut :=
  match x, y with
  | .agg cs, .agg ds => coreEq eqs b T cs ds
  | x, y => coreBin b Θ T x y
def coreBox (T : TypeId) (nid : Nat) (v : AV) : Option COut :=
  if (cellsAV v).all cellAV = true ∧ lacksL (newIds nid) (cellsAV v) = true then some ⟨true, .ptr nid 0, [(nid, .var T (cellsAV v))]⟩ else none
def coreAlloc (Θ : Tab) (T : TypeId) (nid : Nat) : Option COut :=
  match assoc Θ T with
  | some ti => some ⟨true, .ptr nid 0, [(nid, .var T (scs ti.zero))]⟩
  | none => none
def coreFieldV (Θ : Tab) (S f : Nat) : AV → Option COut
  | .agg cs => coreField Θ S f cs
  | _ => none
def coreMk (Θ : Tab) (T : TypeId) (nid : Nat) : AV → AV → Option COut
  | .sc (.int _ l), .sc (.int _ c) => coreMakeSlice Θ T nid l c
  | _, _ => none
def coreNil : AV → Option COut
  | .ptr a b => ret (.ptr a b)
  | .pp a b c => ret (.pp a b c)
  | .pr a b => ret (.pr a b)
  | .ap a b c d => ret (.ap a b c d)
  | _ => none

def core (Θ : Tab) (eqs : List (Nat × List Nat)) (op : Op) (nid : Nat) (obs : List (Nat × AObj)) (vals : List AV) : Option COut :=
  match op with
  | .move _ => match vals with
    | [v] => ret v
    | _ => none
  | .assign _ => match vals with
    | [v] => ret v
    | _ => none
  | .pick .. => match vals with
    | [c, a, b] => corePick c a b
    | _ => none
  | .alloc T => coreAlloc Θ T nid
  | .box T _ => match vals with
    | [v] => coreBox T nid v
    | _ => none
  | .build T parts => coreBuild Θ T parts.toList vals
  | .buildSlice T len parts => coreBuildSlice Θ T len parts.toList nid obs vals
  | .load T _ => match vals with
    | [a] => coreLoad Θ T obs a
    | _ => none
  | .store T _ _ => match vals with
    | [a, v] => coreStore Θ T obs a v
    | _ => none
  | .nilCheck _ => match vals with
    | [a] => coreNil a
    | _ => none
  | .binOp b T _ _ _ => match vals with
    | [x, y] => coreBin2 Θ eqs b T x y
    | _ => none
  | .unOp u _ _ => match vals with
    | [x] => coreUn u x
    | _ => none
  | .convert src dst _ => match vals with
    | [x] => coreConvert Θ src dst obs x
    | _ => none
  | .makeInterface T _ => match vals with
    | [v] => coreIface Θ T v
    | _ => none
  | .makeFunc fn first cap => coreFunc fn first cap vals
  | .makeSlice T _ _ => match vals with
    | [l, c] => coreMk Θ T nid l c
    | _ => none
  | .slice T _ lo hi mx => match vals with
    | x :: bs => coreSlice Θ T obs lo hi mx x bs
    | _ => none
  | .fieldAddr S _ f => match vals with
    | [a] => coreFieldAddr Θ S f a
    | _ => none
  | .field S _ f => match vals with
    | [a] => coreFieldV Θ S f a
    | _ => none
  | .indexAddr T _ _ => match vals with
    | [x, i] => coreIndexAddr Θ T obs x i
    | _ => none
  | .index T _ _ => match vals with
    | [x, i] => coreIndex Θ T x i
    | _ => none
  | .extract _ k => match vals with
    | [t] => coreExtract k t
    | _ => none
  | .range T _ => match vals with
    | [x] => coreRange Θ T nid x
    | _ => none
  | .call c => coreCall Θ c nid obs vals
  | _ => none

/-- Objects that are looked at; objects put into a state. -/
def gather (objs : List (Nat × AObj)) (ids : List Nat) : List (Nat × AObj) := ids.eraseDups.filterMap fun i => (assoc objs i).map (i, ·)
def putObjs (objs : List (Nat × AObj)) (ws : List (Nat × AObj)) : List (Nat × AObj) := ws.reverse ++ objs
def putSlot (slots : List (Nat × AV)) (dst : Option Tmp) (v : AV) : List (Nat × AV) := match dst with | some d => (d, v) :: slots | none => slots
def ASt.upd (st : ASt) (dst : Option Tmp) (v : AV) (ws : List (Nat × AObj)) : ASt := ⟨putSlot st.slots dst v, putObjs st.objs ws, st.nxt, st.dfs⟩

def freshOK (N : Nat → Bool) (glob : List (Nat × AV)) (st : ASt) : Bool :=
  st.slots.all (fun p => lacks N p.2) && st.objs.all (fun p => !N p.1 && lacksO N p.2) && glob.all (fun p => lacks N p.2) && st.dfs.all (lacksD N)
end Go.AM
/-
  The abstract machine, part 5: what a world holds of the abstract objects, and what of it lives on when a world grows or one of the objects is written.
-/
namespace Go.AM
open Go RowKit

def blkOf : Value → Option Nat
  | .pointer (some a) => some a.block
  | .slice (some a) _ _ => some a.block
  | _ => none
def mutO : AObj → Bool
  | .var .. | .arr .. | .iter .. | .dfr | .lp .. | .blk => true
  | _ => false

def live (κ : Nat → Value) (objs : List (Nat × AObj)) (b : Nat) : Prop := ∃ id o, assoc objs id = some o ∧ mutO o = true ∧ blkOf (κ id) = some b
def okB (M0 : Nat → Prop) (κ : Nat → Value) (objs : List (Nat × AObj)) (b : Nat) : Prop := ¬ M0 b ∧ ¬ live κ objs b

def ObjR (w : World) (ok : Nat → Prop) (κ : Nat → Value) (id : Nat) : AObj → Prop
  | .var t cs => ∃ b us, κ id = .pointer (some ⟨b, 0, none⟩) ∧ w.heap[b]? = some (.cells (List.toArray us) t (0, 0)) ∧ RepL w ok κ cs us ∧ ∀ u ∈ us, u.oneCell' = true
  | .arr e t xs => ∃ cells, w.ownsRow 0 e (csize t) (κ id) xs.length cells ∧ xs.length ≤ 140737488355328 ∧ (∀ u ∈ cells, u.oneCell' = true) ∧
      ∀ (j : Nat) (x : Den t), xs[j]? = some x → RepC w ok t x ((cells.drop (j * csize t)).take (csize t))
  | .fz t xs => RepS w ok t xs (κ id)
  | .iter s pos => ∃ b, κ id = .pointer (some ⟨b, 0, none⟩) ∧ w.heap[b]? = some (.stringIter s pos) ∧ s.size ≤ 9223372036854775807
  | .dfr => ∃ b, κ id = .pointer (some ⟨b, 0, none⟩) ∧ w.heap[b]? = some (.deferred (some []))
  | .lp key busy cs => ∃ b r y, κ id = .pointer (some ⟨b, 0, none⟩) ∧ w.heap[b]? = some (.loop r) ∧ r.state = (if busy then .busy else .ready) ∧ r.pending = none ∧ ytab key = some y ∧ r.fn = key ∧ r.params = y.params ∧ r.assign = y.assign ∧ r.body = y.body ∧ r.tmps.size = y.nt ∧
      RepL w ok κ cs (y.slots.map fun t => r.tmps.getD t undef)
  | .blk => ∃ b, κ id = .pointer (some ⟨b, 0, none⟩) ∧ b < w.heap.size
  | .gone => True

structure Keeps (B0 : Nat → Prop) (w0 w : World) : Prop where
  os : w.os = w0.os
  tape : w.tape = w0.tape
  output : w.output = w0.output
  size : w0.heap.size ≤ w.heap.size
  block : ∀ b, b < w0.heap.size → ¬ B0 b → w.heap[b]? = w0.heap[b]?

theorem Keeps.refl (B0 : Nat → Prop) (w : World) : Keeps B0 w w := ⟨rfl, rfl, rfl, Nat.le_refl _, fun _ _ _ => rfl⟩

structure Mem (glob : List (Nat × AV)) (M0 B0 : Nat → Prop) (w0 w : World) (κ : Nat → Value) (objs : List (Nat × AObj)) : Prop where
  each : ∀ id o, assoc objs id = some o → ObjR w (okB M0 κ objs) κ id o
  sep : ∀ i j o p b, assoc objs i = some o → assoc objs j = some p → mutO o = true → mutO p = true → blkOf (κ i) = some b → blkOf (κ j) = some b → i = j
  off : ∀ b, live κ objs b → ¬ M0 b ∧ (w0.heap.size ≤ b ∨ B0 b)
  keep : Keeps B0 w0 w
  glob : ∀ g v, assoc glob g = some v → RepV w (okB M0 κ objs) κ v (.pointer (some ⟨g, 0, none⟩))

mutual
theorem RepV.kap {w : World} {ok : Nat → Prop} {κ κ' : Nat → Value} {N : Nat → Bool} (h : ∀ id, N id = false → κ' id = κ id) : ∀ (v : AV) (u : Value), lacks N v = true → RepV w ok κ v u → RepV w ok κ' v u
  | .sc v, u, _, hr => hr
  | .gd c v, u, hl, hr => fun hc => RepV.kap h v u hl (hr hc)
  | .sl t xs, u, _, hr => hr
  | .agg cs, u, hl, hr => by obtain ⟨us, he, hl'⟩ := hr; exact ⟨us, he, RepL.kap h cs us hl hl'⟩
  | .tup cs, u, hl, hr => by obtain ⟨us, he, hl'⟩ := hr; exact ⟨us, he, RepL.kap h cs us hl hl'⟩
  | .ptr id off, u, hl, hr => by obtain ⟨b, h1, h2⟩ := hr; exact ⟨b, (h id (by simpa [lacks] using hl)).trans h1, h2⟩
  | .pp t x off, u, _, hr => hr
  | .pr t xs, u, _, hr => hr
  | .af id, u, hl, hr => ⟨Eq.trans hr.1 (h id (by simpa [lacks] using hl)).symm, hr.2⟩
  | .as_ id lo len sz, u, hl, hr => by obtain ⟨a, n, c, a', c', h1, h2⟩ := hr; exact ⟨a, n, c, a', c', (h id (by simpa [lacks] using hl)).trans h1, h2⟩
  | .ap id idx off sz, u, hl, hr => by obtain ⟨b, n, c, h1, h2⟩ := hr; exact ⟨b, n, c, (h id (by simpa [lacks] using hl)).trans h1, h2⟩
  | .fn f cap, u, hl, hr => by obtain ⟨us, he, hl'⟩ := hr; exact ⟨us, he, RepL.kap h cap us hl hl'⟩
  | .ifc t v, u, hl, hr => by obtain ⟨u', he, hv⟩ := hr; exact ⟨u', he, RepV.kap h v u' hl hv⟩
  | .junk, _, _, _ => trivial
theorem RepL.kap {w : World} {ok : Nat → Prop} {κ κ' : Nat → Value} {N : Nat → Bool} (h : ∀ id, N id = false → κ' id = κ id) : ∀ (cs : List AV) (us : List Value), lacksL N cs = true → RepL w ok κ cs us → RepL w ok κ' cs us
  | [], us, _, hr => hr
  | c :: cs, us, hl, hr => by
    obtain ⟨u, us', he, hv, hl'⟩ := hr
    simp only [lacksL, Bool.and_eq_true] at hl
    exact ⟨u, us', he, RepV.kap h c u hl.1 hv, RepL.kap h cs us' hl.2 hl'⟩
end

theorem ObjR.mono {w w' : World} {ok ok' : Nat → Prop} {κ κ' : Nat → Value} {N : Nat → Bool} (hx : Ext w w' ok ok') (hk : ∀ id, N id = false → κ' id = κ id) {id : Nat} {o : AObj}
    (hid : N id = false) (hl : lacksO N o = true) (hb : mutO o = true → ∀ b, blkOf (κ id) = some b → w'.heap[b]? = w.heap[b]?) (h : ObjR w ok κ id o) : ObjR w' ok' κ' id o := by
  cases o with
  | var t cs =>
    obtain ⟨b, us, h1, h2, h3, h4⟩ := h
    exact ⟨b, us, (hk id hid).trans h1, (hb rfl b (by rw [h1]; rfl)).trans h2, RepL.kap hk cs us hl (RepL.mono hx cs us h3), h4⟩
  | arr e t xs =>
    obtain ⟨cells, h1, h2, h3, h4⟩ := h
    refine ⟨cells, ?_, h2, h3, fun j x hj => (h4 j x hj).mono hx⟩
    rw [hk id hid]
    refine ⟨h1.1, ?_⟩
    rcases h1.2 with hn | ⟨g, cap, cur, hv, hg, hh, rest⟩
    · exact .inl hn
    · exact .inr ⟨g, cap, cur, hv, hg, (hb rfl g (by rw [hv]; rfl)).trans hh, rest⟩
  | fz t xs => have h' : RepS w ok t xs (κ id) := h; exact (show RepS w' ok' t xs (κ' id) from by rw [hk id hid]; exact h'.mono hx)
  | iter s pos =>
    obtain ⟨b, h1, h2, h3⟩ := h
    exact ⟨b, (hk id hid).trans h1, (hb rfl b (by rw [h1]; rfl)).trans h2, h3⟩
  | dfr =>
    obtain ⟨b, h1, h2⟩ := h
    exact ⟨b, (hk id hid).trans h1, (hb rfl b (by rw [h1]; rfl)).trans h2⟩
  | lp key busy cs =>
    obtain ⟨b, r, y, h1, h2, h3, h4, h5, h6, h7, h8, h9, h10, h11⟩ := h
    exact ⟨b, r, y, (hk id hid).trans h1, (hb rfl b (by rw [h1]; rfl)).trans h2, h3, h4, h5, h6, h7, h8, h9, h10, RepL.kap hk cs _ hl (RepL.mono hx cs _ h11)⟩
  | blk =>
    obtain ⟨b, h1, h2⟩ := h
    refine ⟨b, (hk id hid).trans h1, ?_⟩
    have := hb rfl b (by rw [h1]; rfl)
    rw [Array.getElem?_eq_getElem h2] at this
    exact (Array.getElem?_eq_some_iff.1 this).1
  | gone => trivial

/-- From one state of memory to the next: numbers in N are new; of old blocks only live ones have turned; what is live was live or is new. -/
structure Next (M0 : Nat → Prop) (N : Nat → Bool) (κ κ' : Nat → Value) (objs objs' : List (Nat × AObj)) (w w' : World) : Prop where
  kap : ∀ id, N id = false → κ' id = κ id
  same : ∀ b, b < w.heap.size → ¬ live κ objs b → w'.heap[b]? = w.heap[b]?
  live : ∀ b, live κ' objs' b → live κ objs b ∨ w.heap.size ≤ b
  os : w'.os = w.os
  tape : w'.tape = w.tape
  output : w'.output = w.output
  size : w.heap.size ≤ w'.heap.size

theorem Next.ext {M0 : Nat → Prop} {N : Nat → Bool} {κ κ' : Nat → Value} {objs objs' : List (Nat × AObj)} {w w' : World} (h : Next M0 N κ κ' objs objs' w w') : Ext w w' (okB M0 κ objs) (okB M0 κ' objs') := by
  refine ⟨fun b hb hlt => h.same b hlt hb.2, fun b hb hlt => ⟨hb.1, fun hl => ?_⟩⟩
  rcases h.live b hl with h1 | h1
  · exact hb.2 h1
  · omega

theorem Mem.live_lt {glob : List (Nat × AV)} {M0 B0 : Nat → Prop} {w0 w : World} {κ : Nat → Value} {objs : List (Nat × AObj)} (h : Mem glob M0 B0 w0 w κ objs) {b : Nat} (hb : live κ objs b) : b < w.heap.size := by
  obtain ⟨id, o, h1, h2, h3⟩ := hb
  have ho := h.each id o h1
  cases o with
  | var t cs =>
    obtain ⟨b', us, h4, h5, _⟩ := ho
    rw [h4] at h3
    simp [blkOf] at h3
    subst h3
    exact (Array.getElem?_eq_some_iff.1 h5).1
  | arr e t xs =>
    obtain ⟨cells, h4, _⟩ := ho
    rcases h4.2 with ⟨hv, _⟩ | ⟨g, cap, cur, hv, _, hh, _⟩
    · rw [hv] at h3; simp [blkOf] at h3
    · rw [hv] at h3
      simp [blkOf] at h3
      subst h3
      exact (Array.getElem?_eq_some_iff.1 hh).1
  | fz => cases h2
  | iter s pos =>
    obtain ⟨b', h4, h5, _⟩ := ho
    rw [h4] at h3
    simp [blkOf] at h3
    subst h3
    exact (Array.getElem?_eq_some_iff.1 h5).1
  | dfr =>
    obtain ⟨b', h4, h5⟩ := ho
    rw [h4] at h3
    simp [blkOf] at h3
    subst h3
    exact (Array.getElem?_eq_some_iff.1 h5).1
  | lp key busy cs =>
    obtain ⟨b', r, y, h4, h5, _⟩ := ho
    rw [h4] at h3
    simp [blkOf] at h3
    subst h3
    exact (Array.getElem?_eq_some_iff.1 h5).1
  | blk =>
    obtain ⟨b', h4, h5⟩ := ho
    rw [h4] at h3
    simp [blkOf] at h3
    subst h3
    exact h5
  | gone => cases h2

/-- The memory behind a step. What is untouched lives on; what is touched is shown. -/
theorem Mem.next {glob : List (Nat × AV)} {M0 B0 : Nat → Prop} {w0 w w' : World} {κ κ' : Nat → Value} {objs objs' : List (Nat × AObj)} {N : Nat → Bool} (hm : Mem glob M0 B0 w0 w κ objs) (hn : Next M0 N κ κ' objs objs' w w')
    (hM : ∀ b, M0 b → b < w.heap.size)
    (hobj : ∀ id o, assoc objs' id = some o → (assoc objs id = some o ∧ N id = false ∧ lacksO N o = true ∧ (mutO o = true → ∀ b, blkOf (κ id) = some b → w'.heap[b]? = w.heap[b]?)) ∨ ObjR w' (okB M0 κ' objs') κ' id o)
    (hsep : ∀ i j o p b, assoc objs' i = some o → assoc objs' j = some p → mutO o = true → mutO p = true → blkOf (κ' i) = some b → blkOf (κ' j) = some b → i = j)
    (hglob : ∀ g v, assoc glob g = some v → lacks N v = true) : Mem glob M0 B0 w0 w' κ' objs' := by
  refine ⟨fun id o ho => ?_, hsep, fun b hb => ?_, ⟨hn.os.trans hm.keep.os, hn.tape.trans hm.keep.tape, hn.output.trans hm.keep.output, Nat.le_trans hm.keep.size hn.size, fun b hb hB => ?_⟩, fun g v hg => ?_⟩
  · rcases hobj id o ho with ⟨h1, h2, h3, h4⟩ | h1
    · exact (hm.each id o h1).mono hn.ext hn.kap h2 h3 h4
    · exact h1
  · rcases hn.live b hb with h1 | h1
    · exact hm.off b h1
    · exact ⟨fun hM0 => by have := hM b hM0; omega, .inl (Nat.le_trans hm.keep.size h1)⟩
  · have hlt : b < w.heap.size := Nat.lt_of_lt_of_le hb hm.keep.size
    rw [← hm.keep.block b hb hB]
    refine hn.same b hlt (fun hl => ?_)
    rcases (hm.off b hl).2 with h1 | h1
    · omega
    · exact hB h1
  · exact RepV.kap hn.kap v _ (hglob g v hg) (RepV.mono hn.ext v _ (hm.glob g v hg))

/-- The deferred calls. -/
def DfR (w : World) (ok : Nat → Prop) (κ : Nat → Value) : List ADf → List Deferred → Prop
  | [], ds => ds = []
  | .mark id :: l, ds => ∃ b ds', κ id = .pointer (some ⟨b, 0, none⟩) ∧ ds = { target := .collected b, args := #[] } :: ds' ∧ DfR w ok κ l ds'
  | .fn f cap :: l, ds => ∃ us ds', ds = { target := .fn (.func f) us.toArray, args := #[] } :: ds' ∧ RepL w ok κ cap us ∧ DfR w ok κ l ds'
theorem DfR.next {w w' : World} {ok ok' : Nat → Prop} {κ κ' : Nat → Value} {N : Nat → Bool} (hx : Ext w w' ok ok') (hk : ∀ id, N id = false → κ' id = κ id) : ∀ (l : List ADf) (ds : List Deferred), (∀ d ∈ l, lacksD N d = true) → DfR w ok κ l ds → DfR w' ok' κ' l ds
  | [], _, _, h => h
  | .mark id :: l, ds, hl, h => by
    obtain ⟨b, ds', h1, h2, h3⟩ := h
    have := hl (.mark id) (by simp)
    exact ⟨b, ds', (hk id (by simpa [lacksD] using this)).trans h1, h2, DfR.next hx hk l ds' (fun d hd => hl d (by simp [hd])) h3⟩
  | .fn f cap :: l, ds, hl, h => by
    obtain ⟨us, ds', h1, h2, h3⟩ := h
    exact ⟨us, ds', h1, RepL.kap hk cap us (hl (.fn f cap) (by simp)) (RepL.mono hx cap us h2), DfR.next hx hk l ds' (fun d hd => hl d (by simp [hd])) h3⟩

/-- The state of a walk. -/
structure R (glob : List (Nat × AV)) (M0 B0 : Nat → Prop) (w0 : World) (nt : Nat) (st : ASt) (κ : Nat → Value) (a : Act) (w : World) : Prop where
  mem : Mem glob M0 B0 w0 w κ st.objs
  slots : ∀ i v, assoc st.slots i = some v → RepV w (okB M0 κ st.objs) κ v (a.tmps.getD i undef)
  defers : DfR w (okB M0 κ st.objs) κ st.dfs a.defers
  size : a.tmps.size = nt
  old : ∀ b, M0 b → b < w0.heap.size

theorem R.next {glob : List (Nat × AV)} {M0 B0 : Nat → Prop} {w0 w w' : World} {nt : Nat} {st : ASt} {κ κ' : Nat → Value} {a : Act} {objs' : List (Nat × AObj)} {N : Nat → Bool} (h : R glob M0 B0 w0 nt st κ a w)
    (hn : Next M0 N κ κ' st.objs objs' w w') (hm : Mem glob M0 B0 w0 w' κ' objs') (hl : ∀ i v, assoc st.slots i = some v → lacks N v = true) (hdf : ∀ d ∈ st.dfs, lacksD N d = true) {dst : Option Tmp} {v : AV} {u : Value} (hd : ∀ d, dst = some d → d < nt)
    (hv : dst.isSome = true → RepV w' (okB M0 κ' objs') κ' v u) : R glob M0 B0 w0 nt ⟨putSlot st.slots dst v, objs', st.nxt, st.dfs⟩ κ' (a.put dst u) w' := by
  refine ⟨hm, fun i x hx => ?_, ?_, ?_, h.old⟩
  · have old : ∀ y, assoc st.slots i = some y → RepV w' (okB M0 κ' objs') κ' y (a.tmps.getD i undef) := fun y hy => RepV.kap hn.kap y _ (hl i y hy) (RepV.mono hn.ext y _ (h.slots i y hy))
    cases dst with
    | none => exact old x hx
    | some d =>
      simp only [putSlot, assoc] at hx
      have hdn := hd d rfl
      by_cases he : d = i
      · subst he
        simp at hx
        subst hx
        have : (a.put (some d) u).tmps.getD d undef = u := by simp [Act.put, Array.getD, h.size, hdn]
        rw [this]
        exact hv rfl
      · have hne : (d == i) = false := by simpa using he
        rw [hne] at hx
        have : (a.put (some d) u).tmps.getD i undef = a.tmps.getD i undef := by
          simp only [Act.put, Array.getD_eq_getD_getElem?, Array.getElem?_setIfInBounds, he, if_false]
        rw [this]
        exact old x hx
  · have := DfR.next hn.ext hn.kap st.dfs a.defers hdf h.defers
    cases dst <;> exact this
  · cases dst <;> simp [Act.put, h.size]
end Go.AM
/-
  The abstract machine, part 6: a table of types, and what it says of a program; small runs of the model.
-/
namespace Go.AM
open Go RowKit

def TDok (P : Program) (t : TypeId) : TD → Prop
  | .int k => P.underlying t = some (.int k)
  | .bool => P.underlying t = some .bool
  | .str => P.underlying t = some .string
  | .slice e => P.underlying t = some (.slice e)
  | .arr n e => P.underlying t = some (.array n e)
  | .struct fs => ∃ fields, P.underlying t = some (.struct fields) ∧ fields.toList.map (fun f => (f.offset, f.type)) = fs
  | .other => ∃ d, P.underlying t = some d ∧ (match d with | .struct _ | .array _ _ => False | _ => True)

theorem scOKb_ok {v : Value} (h : scOKb v = true) : scOK v := by
  cases v <;> simp_all [scOKb, scOK, IntKind.has]

/-- A variable's value out of its cells. -/
def valOf (agg : Bool) (cs : List Value) : Value := if agg then .agg cs.toArray else cs.headD undef

structure TIok (P : Program) (t : TypeId) (ti : TI) : Prop where
  td : TDok P t ti.td
  inf : ∃ i, P.info? t = some i ∧ i.size = ti.size ∧ i.bytes = ti.bytes ∧ i.zero = some (valOf (isAggT ti.td) ti.zero)
  zero : ti.zero.all scOKb = true
  len : ti.zero.length = ti.size
  one : isAggT ti.td = false → ti.size = 1

theorem TIok.info {P : Program} {t : TypeId} {ti : TI} (h : TIok P t ti) : ∃ i z, P.info? t = some i ∧ i.size = ti.size ∧ i.bytes = ti.bytes ∧ i.zero = some z ∧ z.cells.toList = ti.zero ∧ z = valOf (isAggT ti.td) ti.zero := by
  obtain ⟨i, h1, h2, h3, h4⟩ := h.inf
  refine ⟨i, _, h1, h2, h3, h4, ?_, rfl⟩
  unfold valOf
  cases ha : isAggT ti.td with
  | true => simp [Value.cells]
  | false =>
    have hl := h.len
    have h1 := h.one ha
    have hz := h.zero
    match hq : ti.zero, hl with
    | [], hl => simp [h1] at hl
    | [v], _ =>
      rw [hq] at hz
      simp at hz
      cases v <;> simp_all [Value.cells, scOKb]
    | _ :: _ :: _, hl => simp [h1] at hl

def TabOK (P : Program) (Θ : Tab) : Prop := ∀ t ti, assoc Θ t = some ti → TIok P t ti

section
variable {P : Program} {w : World}

theorem run_isAgg_td {t : TypeId} {td : TD} (h : TDok P t td) : (isAgg t).run P w = .ok (isAggT td) w := by
  unfold isAgg
  rw [Sem.run_bind]
  cases td with
  | int k => rw [run_underlying (show P.underlying t = _ from h)]; rfl
  | bool => rw [run_underlying (show P.underlying t = _ from h)]; rfl
  | str => rw [run_underlying (show P.underlying t = _ from h)]; rfl
  | slice e => rw [run_underlying (show P.underlying t = _ from h)]; rfl
  | arr n e => rw [run_underlying (show P.underlying t = _ from h)]; rfl
  | struct fs => obtain ⟨fields, h1, _⟩ := h; rw [run_underlying h1]; rfl
  | other => obtain ⟨d, h1, h2⟩ := h; rw [run_underlying h1]; cases d <;> simp_all [isAggT]

theorem run_sizeOf_ti {t : TypeId} {ti : TI} (h : TIok P t ti) : (sizeOf t).run P w = .ok ti.size w := by
  obtain ⟨i, z, h1, h2, _⟩ := h.info
  simp [sizeOf, typeInfo, h1, h2]

theorem addr_add (b o n : Nat) : (⟨b, o, none⟩ : Addr).add n = ⟨b, o + n, none⟩ := by
  unfold Addr.add; split <;> simp_all

theorem run_load_cells {b o : Nat} {cs : List Value} (h : ∀ (j : Nat) (v : Value), cs[j]? = some v → w.cell? ⟨b, o + j, none⟩ = some v) : (loadCells ⟨b, o, none⟩ cs.length).run P w = .ok cs.toArray w :=
  run_loadCells_list w _ cs (fun j v hv => by rw [addr_add]; exact h j v hv)

theorem run_loadVar_ti {t : TypeId} {ti : TI} (ht : TIok P t ti) {b o : Nat} {cs : List Value} (hl : cs.length = ti.size) (h : ∀ (j : Nat) (v : Value), cs[j]? = some v → w.cell? ⟨b, o + j, none⟩ = some v) :
    (loadVar t ⟨b, o, none⟩).run P w = .ok (valOf (isAggT ti.td) cs) w := by
  unfold loadVar
  rw [Sem.run_bind, run_isAgg_td ht.td]
  simp only [Result.andThen_ok]
  cases ha : isAggT ti.td with
  | true =>
    have := run_load_cells (P := P) h
    rw [hl] at this
    simp [run_sizeOf_ti ht, this, valOf]
  | false =>
    have h1 := ht.one ha
    match cs, hl with
    | [], hl => simp [h1] at hl
    | [v], _ => have := h 0 v rfl; simp at this; simp [this, valOf]
    | _ :: _ :: _, hl => simp [h1] at hl

theorem run_storeVar_ti {t : TypeId} {ti : TI} (ht : TIok P t ti) {b o : Nat} {et : TypeId} {cur : Array Value} {v : Value} (hv : v.cells.size = ti.size) (h1 : ∀ u ∈ v.cells.toList, u.oneCell' = true)
    (hg : w.heap[b]? = some (.cells cur et (0, 0))) (hfit : o + v.cells.size ≤ cur.size) :
    (storeVar t ⟨b, o, none⟩ v).run P w = .ok () (w.setRow b (cur.toList.take o ++ v.cells.toList ++ cur.toList.drop (o + v.cells.size)).toArray) := by
  unfold storeVar
  simp only [Sem.run_bind, run_sizeOf_ti ht, Result.andThen_ok]
  rw [if_neg (by simpa using hv)]
  have := run_storeCells_at P b o et v.cells.toList 0 cur w hg (by simpa using hfit) h1
  simp only [Nat.add_zero] at this
  simpa using this

end
end Go.AM
/-
  The abstract machine, part 7: elements as cells and cells as elements.
-/
namespace Go.AM
open Go RowKit
section
variable {w : World} {ok : Nat → Prop} {κ : Nat → Value}

theorem repL_cons {c : AV} {cs : List AV} {us : List Value} : RepL w ok κ (c :: cs) us ↔ ∃ u us', us = u :: us' ∧ RepV w ok κ c u ∧ RepL w ok κ cs us' := Iff.rfl
theorem repL_nil {us : List Value} : RepL w ok κ [] us ↔ us = [] := Iff.rfl
theorem repV_int {k : IntKind} {n : Int} (h : k.has n) : RepV w ok κ (.sc (.int k n)) (.int k n) := ⟨rfl, h⟩
theorem repV_str {s : ByteArray} (h : s.size ≤ 9223372036854775807) : RepV w ok κ (.sc (.string s)) (.string s) := ⟨rfl, h⟩

theorem embC_rep {t : TC} {x : Den t} {cs : List Value} (h : RepC w ok t x cs) : RepL w ok κ (embC t x) cs := by
  cases h with
  | i k n h => exact ⟨_, _, rfl, repV_int h, rfl⟩
  | bool b => exact ⟨_, _, rfl, ⟨rfl, trivial⟩, rfl⟩
  | str s h => exact ⟨_, _, rfl, repV_str h, rfl⟩
  | list t xs v h => exact ⟨_, _, rfl, h, rfl⟩
  | frac x h1 h2 => exact ⟨_, _, rfl, repV_int h1, _, _, rfl, repV_int h2, rfl⟩
  | matcher x h1 h2 h3 => exact ⟨_, _, rfl, repV_str h1, _, _, rfl, repV_int h2, _, _, rfl, repV_str h3, rfl⟩
  | label x h1 h2 => exact ⟨_, _, rfl, repV_str h1, _, _, rfl, repV_str h2, rfl⟩
  | unit x h1 h2 h3 => exact ⟨_, _, rfl, repV_int h1, _, _, rfl, repV_int h2, _, _, rfl, repV_int h3, rfl⟩
  | ins x v1 v2 h0 h1 h2 h3 h4 h5 h6 h7 h8 h9 =>
    exact ⟨_, _, rfl, repV_int h0, _, _, rfl, repV_int h1, _, _, rfl, repV_int h2, _, _, rfl, repV_int h3, _, _, rfl, repV_int h4, _, _, rfl, repV_int h5, _, _, rfl, repV_int h6, _, _, rfl, repV_str h7, _, _, rfl, h8, _, _, rfl, h9, rfl⟩
  | expr x v1 v2 v3 h0 h1 h2 h3 h4 h5 h6 h7 h8 h9 h10 =>
    exact ⟨_, _, rfl, repV_int h0, _, _, rfl, repV_int h1, _, _, rfl, repV_int h2, _, _, rfl, repV_int h3, _, _, rfl, repV_int h4, _, _, rfl, repV_int h5, _, _, rfl, repV_int h6, _, _, rfl, repV_str h7, _, _, rfl, h8, _, _, rfl, h9, _, _, rfl, h10, rfl⟩
  | decl x v1 h0 h1 h2 h3 h4 h5 h6 h7 h8 h9 h10 h11 =>
    exact ⟨_, _, rfl, repV_str h0, _, _, rfl, h1, _, _, rfl, repV_int h2, _, _, rfl, repV_int h3, _, _, rfl, repV_int h4, _, _, rfl, repV_int h5, _, _, rfl, repV_int h6, _, _, rfl, repV_int h7, _, _, rfl, repV_int h8, _, _, rfl, repV_int h9, _, _, rfl, repV_int h10, _, _, rfl, repV_int h11, rfl⟩
  | tok x h1 h2 h3 h4 => exact ⟨_, _, rfl, repV_int h1, _, _, rfl, repV_str h2, _, _, rfl, repV_int h3, _, _, rfl, repV_int h4, rfl⟩

theorem scI_rep {k : IntKind} {a : AV} {n : Int} {u : Value} (h : scI k a = some n) (hr : RepV w ok κ a u) : u = .int k n ∧ k.has n := by
  unfold scI at h
  split at h
  · split at h
    · rename_i k k' n' hk
      subst hk
      cases h
      exact ⟨hr.1, hr.2⟩
    · cases h
  · cases h
theorem scS_rep {a : AV} {s : ByteArray} {u : Value} (h : scS a = some s) (hr : RepV w ok κ a u) : u = .string s ∧ s.size ≤ 9223372036854775807 := by
  unfold scS at h
  split at h
  · cases h
    exact ⟨hr.1, hr.2⟩
  · cases h
theorem unS_rep {t : TC} {a : AV} {xs : List (Den t)} {u : Value} (h : unS t a = some xs) (hr : RepV w ok κ a u) : RepS w ok t xs u := by
  unfold unS at h
  split at h
  · rename_i t' ys
    split at h
    · rename_i ht
      subst ht
      cases h
      exact hr
    · cases h
  · cases h
    rw [hr.1]
    exact RepS.nil w ok t none 0
  · cases h

theorem bind_some {α β : Type} {x : Option α} {f : α → Option β} {b : β} (h : (x >>= f) = some b) : ∃ a, x = some a ∧ f a = some b := by
  cases x with
  | none => cases h
  | some a => exact ⟨a, rfl, h⟩

theorem unembC_rep {t : TC} {avs : List AV} {x : Den t} {cs : List Value} (h : unembC t avs = some x) (hr : RepL w ok κ avs cs) : RepC w ok t x cs := by
  unfold unembC at h
  split at h
  · obtain ⟨u, us, rfl, h1, rfl⟩ := hr
    obtain ⟨rfl, h2⟩ := scI_rep h h1
    exact .i _ _ h2
  · obtain ⟨u, us, rfl, h1, rfl⟩ := hr
    cases h
    rw [h1.1]
    exact .bool _
  · obtain ⟨u, us, rfl, h1, rfl⟩ := hr
    obtain ⟨rfl, h2⟩ := scS_rep h h1
    exact .str _ h2
  · obtain ⟨u, us, rfl, h1, rfl⟩ := hr
    exact .list _ _ _ (unS_rep h h1)
  · obtain ⟨a, ha, h⟩ := bind_some h
    obtain ⟨b, hb, h⟩ := bind_some h
    obtain ⟨u, us, rfl, h1, u2, us, rfl, h2, rfl⟩ := hr
    cases h
    obtain ⟨rfl, k1⟩ := scI_rep ha h1
    obtain ⟨rfl, k2⟩ := scI_rep hb h2
    exact .frac (DFrac.mk a b) k1 k2
  · obtain ⟨a, ha, h⟩ := bind_some h
    obtain ⟨b, hb, h⟩ := bind_some h
    obtain ⟨c, hc, h⟩ := bind_some h
    obtain ⟨u, us, rfl, h1, u2, us, rfl, h2, u3, us, rfl, h3, rfl⟩ := hr
    cases h
    obtain ⟨rfl, k1⟩ := scS_rep ha h1
    obtain ⟨rfl, k2⟩ := scI_rep hb h2
    obtain ⟨rfl, k3⟩ := scS_rep hc h3
    exact .matcher (DMatcher.mk a b c) k1 k2 k3
  · obtain ⟨a, ha, h⟩ := bind_some h
    obtain ⟨b, hb, h⟩ := bind_some h
    obtain ⟨u, us, rfl, h1, u2, us, rfl, h2, rfl⟩ := hr
    cases h
    obtain ⟨rfl, k1⟩ := scS_rep ha h1
    obtain ⟨rfl, k2⟩ := scS_rep hb h2
    exact .label (DLabel.mk a b) k1 k2
  · obtain ⟨a, ha, h⟩ := bind_some h
    obtain ⟨b, hb, h⟩ := bind_some h
    obtain ⟨c, hc, h⟩ := bind_some h
    obtain ⟨u, us, rfl, h1, u2, us, rfl, h2, u3, us, rfl, h3, rfl⟩ := hr
    cases h
    obtain ⟨rfl, k1⟩ := scI_rep ha h1
    obtain ⟨rfl, k2⟩ := scI_rep hb h2
    obtain ⟨rfl, k3⟩ := scI_rep hc h3
    exact .unit (DUnit.mk a b c) k1 k2 k3
  · obtain ⟨a0, h0, h⟩ := bind_some h
    obtain ⟨a1, h1, h⟩ := bind_some h
    obtain ⟨a2, h2, h⟩ := bind_some h
    obtain ⟨a3, h3, h⟩ := bind_some h
    obtain ⟨a4, h4, h⟩ := bind_some h
    obtain ⟨a5, h5, h⟩ := bind_some h
    obtain ⟨a6, h6, h⟩ := bind_some h
    obtain ⟨a7, h7, h⟩ := bind_some h
    obtain ⟨a8, h8, h⟩ := bind_some h
    obtain ⟨a9, h9, h⟩ := bind_some h
    obtain ⟨u0, us, rfl, r0, u1, us, rfl, r1, u2, us, rfl, r2, u3, us, rfl, r3, u4, us, rfl, r4, u5, us, rfl, r5, u6, us, rfl, r6, u7, us, rfl, r7, u8, us, rfl, r8, u9, us, rfl, r9, rfl⟩ := hr
    cases h
    obtain ⟨rfl, k0⟩ := scI_rep h0 r0
    obtain ⟨rfl, k1⟩ := scI_rep h1 r1
    obtain ⟨rfl, k2⟩ := scI_rep h2 r2
    obtain ⟨rfl, k3⟩ := scI_rep h3 r3
    obtain ⟨rfl, k4⟩ := scI_rep h4 r4
    obtain ⟨rfl, k5⟩ := scI_rep h5 r5
    obtain ⟨rfl, k6⟩ := scI_rep h6 r6
    obtain ⟨rfl, k7⟩ := scS_rep h7 r7
    exact .ins (DIns.mk a0 a1 a2 a3 a4 (DFrac.mk a5 a6) a7 a8 a9) _ _ k0 k1 k2 k3 k4 k5 k6 k7 (unS_rep h8 r8) (unS_rep h9 r9)
  · obtain ⟨a0, h0, h⟩ := bind_some h
    obtain ⟨a1, h1, h⟩ := bind_some h
    obtain ⟨a2, h2, h⟩ := bind_some h
    obtain ⟨a3, h3, h⟩ := bind_some h
    obtain ⟨a4, h4, h⟩ := bind_some h
    obtain ⟨a5, h5, h⟩ := bind_some h
    obtain ⟨a6, h6, h⟩ := bind_some h
    obtain ⟨a7, h7, h⟩ := bind_some h
    obtain ⟨a8, h8, h⟩ := bind_some h
    obtain ⟨a9, h9, h⟩ := bind_some h
    obtain ⟨a10, h10, h⟩ := bind_some h
    obtain ⟨u0, us, rfl, r0, u1, us, rfl, r1, u2, us, rfl, r2, u3, us, rfl, r3, u4, us, rfl, r4, u5, us, rfl, r5, u6, us, rfl, r6, u7, us, rfl, r7, u8, us, rfl, r8, u9, us, rfl, r9, u10, us, rfl, r10, rfl⟩ := hr
    cases h
    obtain ⟨rfl, k0⟩ := scI_rep h0 r0
    obtain ⟨rfl, k1⟩ := scI_rep h1 r1
    obtain ⟨rfl, k2⟩ := scI_rep h2 r2
    obtain ⟨rfl, k3⟩ := scI_rep h3 r3
    obtain ⟨rfl, k4⟩ := scI_rep h4 r4
    obtain ⟨rfl, k5⟩ := scI_rep h5 r5
    obtain ⟨rfl, k6⟩ := scI_rep h6 r6
    obtain ⟨rfl, k7⟩ := scS_rep h7 r7
    exact .expr (DExpr.mk a0 a1 a2 a3 a4 (DFrac.mk a5 a6) a7 a8 a9 a10) _ _ _ k0 k1 k2 k3 k4 k5 k6 k7 (unS_rep h8 r8) (unS_rep h9 r9) (unS_rep h10 r10)
  · obtain ⟨a0, h0, h⟩ := bind_some h
    obtain ⟨a1, h1, h⟩ := bind_some h
    obtain ⟨a2, h2, h⟩ := bind_some h
    obtain ⟨a3, h3, h⟩ := bind_some h
    obtain ⟨a4, h4, h⟩ := bind_some h
    obtain ⟨a5, h5, h⟩ := bind_some h
    obtain ⟨a6, h6, h⟩ := bind_some h
    obtain ⟨a7, h7, h⟩ := bind_some h
    obtain ⟨a8, h8, h⟩ := bind_some h
    obtain ⟨a9, h9, h⟩ := bind_some h
    obtain ⟨a10, h10, h⟩ := bind_some h
    obtain ⟨a11, h11, h⟩ := bind_some h
    obtain ⟨u0, us, rfl, r0, u1, us, rfl, r1, u2, us, rfl, r2, u3, us, rfl, r3, u4, us, rfl, r4, u5, us, rfl, r5, u6, us, rfl, r6, u7, us, rfl, r7, u8, us, rfl, r8, u9, us, rfl, r9, u10, us, rfl, r10, u11, us, rfl, r11, rfl⟩ := hr
    cases h
    obtain ⟨rfl, k0⟩ := scS_rep h0 r0
    obtain ⟨rfl, k2⟩ := scI_rep h2 r2
    obtain ⟨rfl, k3⟩ := scI_rep h3 r3
    obtain ⟨rfl, k4⟩ := scI_rep h4 r4
    obtain ⟨rfl, k5⟩ := scI_rep h5 r5
    obtain ⟨rfl, k6⟩ := scI_rep h6 r6
    obtain ⟨rfl, k7⟩ := scI_rep h7 r7
    obtain ⟨rfl, k8⟩ := scI_rep h8 r8
    obtain ⟨rfl, k9⟩ := scI_rep h9 r9
    obtain ⟨rfl, k10⟩ := scI_rep h10 r10
    obtain ⟨rfl, k11⟩ := scI_rep h11 r11
    exact .decl (DDecl.mk a0 a1 (DUnit.mk a2 a3 a4) a5 a6 a7 a8 a9 a10 a11) _ k0 (unS_rep h1 r1) k2 k3 k4 k5 k6 k7 k8 k9 k10 k11
  · obtain ⟨a, ha, h⟩ := bind_some h
    obtain ⟨b, hb, h⟩ := bind_some h
    obtain ⟨c, hc, h⟩ := bind_some h
    obtain ⟨d, hd, h⟩ := bind_some h
    obtain ⟨u, us, rfl, h1, u2, us, rfl, h2, u3, us, rfl, h3, u4, us, rfl, h4, rfl⟩ := hr
    cases h
    obtain ⟨rfl, k1⟩ := scI_rep ha h1
    obtain ⟨rfl, k2⟩ := scS_rep hb h2
    obtain ⟨rfl, k3⟩ := scI_rep hc h3
    obtain ⟨rfl, k4⟩ := scI_rep hd h4
    exact .tok (DTok.mk a b c d) k1 k2 k3 k4
  · cases h

theorem scs_rep {l : List Value} (h : l.all scOKb = true) : RepL w ok κ (scs l) l := by
  induction l with
  | nil => rfl
  | cons v l ih =>
    simp only [List.all_cons, Bool.and_eq_true] at h
    exact ⟨v, l, rfl, ⟨rfl, scOKb_ok h.1⟩, ih h.2⟩

theorem cellsAV_rep {v : AV} {u : Value} (h : RepV w ok κ v u) (hc : (cellsAV v).all cellAV = true) : RepL w ok κ (cellsAV v) u.cells.toList ∧ ∀ x ∈ u.cells.toList, x.oneCell' = true := by
  have one : ∀ (v : AV) (u : Value), cellAV v = true → RepV w ok κ v u → u.oneCell' = true := by
    intro v u hv hr
    cases v with
    | sc x => rw [hr.1]; cases x <;> simp_all [cellAV, Value.oneCell']
    | gd => simp [cellAV] at hv
    | sl t xs => obtain ⟨a, c, b, o, rfl, _⟩ := RepS.row hr; rfl
    | agg => simp [cellAV] at hv
    | tup => simp [cellAV] at hv
    | ptr => obtain ⟨b, _, rfl⟩ := hr; rfl
    | pp => obtain ⟨b, o, cs, rfl, _⟩ := hr; rfl
    | pr => obtain ⟨b, o, rfl, _⟩ := hr; rfl
    | af id => obtain ⟨_, a, n, c, rfl⟩ := hr; rfl
    | as_ => obtain ⟨a, n, c, a', c', _, _, _, _, rfl, _⟩ := hr; rfl
    | ap => obtain ⟨b, n, c, _, rfl⟩ := hr; rfl
    | fn => obtain ⟨us, h, _⟩ := hr; obtain ⟨_, _, _, rfl⟩ := h.func; rfl
    | ifc => obtain ⟨u', rfl, _⟩ := hr; rfl
    | junk => simp [cellAV] at hv
  have many : ∀ (cs : List AV) (us : List Value), cs.all cellAV = true → RepL w ok κ cs us → ∀ x ∈ us, x.oneCell' = true := by
    intro cs
    induction cs with
    | nil => intro us _ hr; rw [show us = [] from hr]; simp
    | cons c cs ih =>
      intro us ha hr
      obtain ⟨u, us', rfl, h1, h2⟩ := hr
      simp only [List.all_cons, Bool.and_eq_true] at ha
      intro x hx
      rcases List.mem_cons.1 hx with rfl | hx
      · exact one c _ ha.1 h1
      · exact ih us' ha.2 h2 x hx
  by_cases ha : ∃ cs, v = .agg cs
  · obtain ⟨cs, rfl⟩ := ha
    obtain ⟨us, rfl, hl⟩ := h
    exact ⟨by simpa [cellsAV, Value.cells] using hl, by simpa [Value.cells] using many cs us hc hl⟩
  · have he : cellsAV v = [v] := by cases v <;> simp_all [cellsAV]
    rw [he] at hc ⊢
    simp only [List.all_cons, List.all_nil, Bool.and_true] at hc
    have h1 := one v u hc h
    have h2 : u.cells = #[u] := by cases u <;> simp_all [Value.cells, Value.oneCell']
    rw [h2]
    exact ⟨⟨u, [], rfl, h, rfl⟩, by simpa using h1⟩
end
end Go.AM
/-
  The abstract machine, part 8: operations that only compute and read.
-/
namespace Go.AM
open Go RowKit
section
variable {P : Program} {Θ : Tab} {w : World} {ok : Nat → Prop} {κ : Nat → Value} {obs : List (Nat × AObj)}

/-- What is known of the objects that an operation looks at. -/
def Obs (w : World) (ok : Nat → Prop) (κ : Nat → Value) (obs : List (Nat × AObj)) : Prop := ∀ id o, assoc obs id = some o → ObjR w ok κ id o

/-- The outcome of a run that only computes. -/
def Pure1 (P : Program) (w : World) (ok : Nat → Prop) (κ : Nat → Value) (s : Sem Value) (r : COut) : Prop :=
  ∃ vc dst, r = ⟨vc, dst, []⟩ ∧ (vc = true → ∃ x, s.run P w = .ok x w ∧ RepV w ok κ dst x)

theorem ret_pure {s : Sem Value} {v : AV} {r : COut} (h : ret v = some r) (hr : ∃ x, s.run P w = .ok x w ∧ RepV w ok κ v x) : Pure1 P w ok κ s r := by
  cases h; exact ⟨_, _, rfl, fun _ => hr⟩
theorem retV_pure {s : Sem Value} {vc : Prop} [Decidable vc] {v : AV} {r : COut} (h : retV vc v = some r) (hr : vc → ∃ x, s.run P w = .ok x w ∧ RepV w ok κ v x) : Pure1 P w ok κ s r := by
  cases h; exact ⟨_, _, rfl, fun hd => hr (of_decide_eq_true hd)⟩

theorem give_pure {T : TypeId} {ti : TI} (ht : TIok P T ti) {vc : Prop} [Decidable vc] {cs : List AV} {off : Nat} {r : COut} {b o : Nat} {us : List Value} (h : giveC ti vc cs off = some r) (hr : vc → RepL w ok κ cs us)
    (hc : vc → ∀ (j : Nat) (v : Value), us[j]? = some v → w.cell? ⟨b, o + j, none⟩ = some v) : Pure1 P w ok κ (loadVar T ⟨b, o + off, none⟩) r := by
  unfold giveC at h
  split at h
  · rename_i hle
    have main : vc → (loadVar T ⟨b, o + off, none⟩).run P w = .ok (valOf (isAggT ti.td) ((us.drop off).take ti.size)) w := by
      intro hv
      have hl := RepL.length _ _ (hr hv)
      refine run_loadVar_ti ht (by simp [hl]; omega) (fun j v hj => ?_)
      have hjs : j < ti.size := by
        have := (List.getElem?_eq_some_iff.1 hj).1
        simp at this; omega
      rw [List.getElem?_take, if_pos hjs, List.getElem?_drop] at hj
      have := hc hv (off + j) v hj
      rwa [← Nat.add_assoc] at this
    split at h
    · rename_i ha
      exact retV_pure h (fun hv => ⟨_, main hv, by rw [ha]; exact ⟨_, rfl, ((hr hv).drop off).take ti.size⟩⟩)
    · rename_i ha
      split at h
      · rename_i c hcc
        refine retV_pure h (fun hv => ⟨_, main hv, ?_⟩)
        have h1 := ht.one (by simpa using ha)
        obtain ⟨u, hu, hru⟩ := RepL.get _ _ (hr hv) off c hcc
        have hlt := (List.getElem?_eq_some_iff.1 hu).1
        have : (us.drop off).take ti.size = [u] := by
          rw [h1, List.drop_eq_getElem_cons hlt]
          have := (List.getElem?_eq_some_iff.1 hu).2
          simp [this]
        rw [this]
        simpa [valOf, ha] using hru
      · cases h
  · cases h

theorem cells_of_heap {b : Nat} {us : List Value} {t : TypeId} {fr : Nat × Nat} (h : w.heap[b]? = some (.cells us.toArray t fr)) (j : Nat) (v : Value) (hj : us[j]? = some v) : w.cell? ⟨b, j, none⟩ = some v := by
  rw [cell_of_row w b j _ t fr h]; simpa using hj

theorem Obs.of_arr {id : Nat} {e : TypeId} {t : TC} {xs : List (Den t)} (h : ObjR w ok κ id (.arr e t xs)) (j : Nat) (x : Den t) (hj : xs[j]? = some x) {b n c : Nat} (hk : κ id = .slice (some ⟨b, 0, none⟩) n c) :
    ∃ cs, RepC w ok t x cs ∧ ∀ (i : Nat) (u : Value), cs[i]? = some u → w.cell? ⟨b, j * csize t + i, none⟩ = some u := by
  obtain ⟨cells, h1, h2, h3, h4⟩ := h
  refine ⟨_, h4 j x hj, fun i u hu => ?_⟩
  have hlt : i < csize t := by
    have := (List.getElem?_eq_some_iff.1 hu).1
    simp at this; omega
  rw [List.getElem?_take, if_pos hlt, List.getElem?_drop] at hu
  have := h1.cells (g := b) (by rw [hk]; rfl) _ u hu
  rwa [addr_add, Nat.zero_add] at this
theorem Obs.of_fz {id : Nat} {t : TC} {xs : List (Den t)} (h : ObjR w ok κ id (.fz t xs)) (j : Nat) (x : Den t) (hj : xs[j]? = some x) {b n c : Nat} (hk : κ id = .slice (some ⟨b, 0, none⟩) n c) :
    ∃ cs, RepC w ok t x cs ∧ ∀ (i : Nat) (u : Value), cs[i]? = some u → w.cell? ⟨b, j * csize t + i, none⟩ = some u := by
  obtain ⟨a, c', b', o, h1, h2, h3, h4, h5⟩ := RepS.row (show RepS w ok t xs (κ id) from h)
  have hp : 0 < xs.length := by have := (List.getElem?_eq_some_iff.1 hj).1; omega
  rw [hk] at h1
  injection h1 with e1 e2 e3
  rw [h4 hp] at e1
  injection e1 with e1
  injection e1 with e1 e2
  subst e1
  subst e2
  obtain ⟨_, cs, hc, hcell⟩ := h5 j x hj
  exact ⟨cs, hc, fun i u hu => by have := hcell i u hu; rwa [Nat.zero_add] at this⟩

theorem getD_some {α : Type} {xs : List α} {i : Nat} {d : α} (h : i < xs.length) : xs[i]? = some (xs.getD i d) := by
  simp [List.getD_eq_getElem?_getD, List.getElem?_eq_getElem h]

theorem give_ap {T : TypeId} {ti : TI} (ht : TIok P T ti) {t : TC} {x : Den t} {off b o : Nat} {vc : Prop} [Decidable vc] {r : COut} (h : giveC ti vc (embC t x) off = some r)
    (main : vc → ∃ us, RepC w ok t x us ∧ ∀ (i : Nat) (u : Value), us[i]? = some u → w.cell? ⟨b, o + i, none⟩ = some u) : Pure1 P w ok κ (loadVar T ⟨b, o + off, none⟩) r := by
  classical
  by_cases hv : vc
  · obtain ⟨us, hc, hcell⟩ := main hv
    exact give_pure (P := P) ht h (fun _ => embC_rep hc) (fun _ => hcell)
  · obtain ⟨vc', dst, hr⟩ : ∃ vc' dst, r = ⟨vc', dst, []⟩ ∧ (vc' = true → False) := by
      unfold giveC at h
      split at h
      · split at h
        · cases h; exact ⟨_, _, rfl, fun hd => hv (of_decide_eq_true hd)⟩
        · split at h
          · cases h; exact ⟨_, _, rfl, fun hd => hv (of_decide_eq_true hd)⟩
          · cases h
      · cases h
    exact ⟨vc', dst, hr.1, fun h => (hr.2 h).elim⟩

theorem flatMap_rep {t : TC} : ∀ (xs : List (Den t)) (us : List Value), us.length = xs.length * csize t → (∀ (j : Nat) (x : Den t), xs[j]? = some x → RepC w ok t x ((us.drop (j * csize t)).take (csize t))) → RepL w ok κ (xs.flatMap (embC t)) us
  | [], us, hl, _ => List.eq_nil_of_length_eq_zero (by simpa using hl)
  | x :: xs, us, hl, h => by
    have h0 := h 0 x rfl
    simp only [Nat.zero_mul, List.drop_zero] at h0
    have hr := flatMap_rep xs (us.drop (csize t)) (by simp [hl, Nat.succ_mul]) (fun j y hj => by
      have := h (j + 1) y (by simpa using hj)
      rw [List.drop_drop]
      rwa [Nat.succ_mul, Nat.add_comm] at this)
    have := RepL.append (embC_rep (κ := κ) h0) hr
    rwa [List.take_append_drop] at this

/-- The cells of a row of elements, one behind the other. -/
theorem row_cells {t : TC} : ∀ (xs : List (Den t)) (b o : Nat), RepRow w ok t xs b o → ∃ us : List Value, us.length = xs.length * csize t ∧ (∀ (i : Nat) (v : Value), us[i]? = some v → w.cell? ⟨b, o + i, none⟩ = some v) ∧
      ∀ (j : Nat) (x : Den t), xs[j]? = some x → RepC w ok t x ((us.drop (j * csize t)).take (csize t))
  | [], b, o, _ => ⟨[], by simp, by simp, by simp⟩
  | x :: xs, b, o, h => by
    obtain ⟨hb, cs, hc, hcell⟩ := h 0 x rfl
    have hcl := hc.len
    obtain ⟨us, h1, h2, h3⟩ := row_cells xs b (o + csize t) (fun j y hj => by
      obtain ⟨hb, cs, hc, hcell⟩ := h (j + 1) y (by simpa using hj)
      exact ⟨hb, cs, hc, fun i u hu => by have := hcell i u hu; rw [show o + csize t + (j * csize t + i) = o + ((j + 1) * csize t + i) from by rw [Nat.succ_mul]; omega]; exact this⟩)
    refine ⟨cs ++ us, by simp [h1, hcl, Nat.succ_mul]; omega, fun i v hi => ?_, fun j y hj => ?_⟩
    · rcases Nat.lt_or_ge i cs.length with hlt | hge
      · rw [List.getElem?_append_left hlt] at hi
        have := hcell i v hi
        simpa using this
      · rw [List.getElem?_append_right hge] at hi
        have := h2 _ v hi
        rwa [show o + csize t + (i - cs.length) = o + i from by omega] at this
    · cases j with
      | zero =>
        simp at hj
        subst hj
        simpa [List.take_append, hcl, List.take_of_length_le (Nat.le_of_eq hcl)] using hc
      | succ j =>
        have := h3 j y (by simpa using hj)
        rw [Nat.succ_mul, List.drop_append, List.drop_eq_nil_of_le (by omega), List.nil_append, show j * csize t + csize t - cs.length = j * csize t from by omega]
        exact this

theorem load_pure (hΘ : TabOK P Θ) (hobs : Obs w ok κ obs) {T : TypeId} {a : AV} {u : Value} {r : COut} (h : coreLoad Θ T obs a = some r) (ha : RepV w ok κ a u) : Pure1 P w ok κ (Instr.loadAt T u) r := by
  unfold coreLoad at h
  split at h
  · cases h
  · rename_i ti hti
    have ht := hΘ T ti hti
    split at h
    · split at h
      · rename_i id off t cs ho
        obtain ⟨b, us, h1, h2, h3, h4⟩ := hobs _ _ ho
        obtain ⟨b', h5, rfl⟩ := ha
        rw [h1] at h5
        cases h5
        have := give_pure (P := P) (b := b) (o := 0) ht h (fun _ => h3) (fun _ j v hj => by rw [Nat.zero_add]; exact cells_of_heap h2 j v hj)
        rw [Nat.zero_add] at this
        exact this
      · cases h
    · obtain ⟨b, o, cs, rfl, hb, hc, hcell⟩ := ha
      exact give_pure (P := P) ht h (fun _ => embC_rep hc) (fun _ => hcell)
    · obtain ⟨b, n, c, hk, rfl⟩ := ha
      split at h
      · rename_i ho
        split at h
        · rename_i hsz
          subst hsz
          exact give_ap ht h (fun hv => Obs.of_arr (hobs _ _ ho) _ _ (getD_some (d := dflt _) hv) hk)
        · cases h
      · rename_i ho
        split at h
        · rename_i hsz
          subst hsz
          exact give_ap ht h (fun hv => Obs.of_fz (hobs _ _ ho) _ _ (getD_some (d := dflt _) hv) hk)
        · cases h
      · cases h
    · split at h
      · rename_i t xs hc
        obtain ⟨b, o, rfl, _, hrow⟩ := ha
        obtain ⟨us, h1, h2, h3⟩ := row_cells xs b o hrow
        refine retV_pure h (fun _ => ⟨_, run_loadVar_ti ht (cs := us) (by rw [h1, hc.2]) h2, ?_⟩)
        rw [hc.1]
        exact ⟨us, rfl, flatMap_rep xs us h1 h3⟩
      · cases h
    · cases h
end
end Go.AM
/-
  The abstract machine, part 9: operations that only compute: addresses, indexes, cuts, arithmetic, conversions.
-/
namespace Go.AM
open Go RowKit

theorem has_wrap (k : IntKind) (n : Int) : k.has (k.wrap n) := by
  cases k <;> simp only [IntKind.has, IntKind.wrap, IntKind.min, IntKind.max, IntKind.bits, IntKind.signed] <;> simp <;> (try split) <;> omega
theorem has_between (k : IntKind) {a c : Int} (ha : k.has a) (h0 : 0 ≤ a → 0 ≤ c ∧ c ≤ a) (h1 : a ≤ 0 → a ≤ c ∧ c ≤ 0) : k.has c := by
  have hmin : k.min ≤ 0 := by cases k <;> decide
  have hmax : 0 ≤ k.max := by cases k <;> decide
  rcases Int.le_total 0 a with h | h
  · exact ⟨Int.le_trans hmin (h0 h).1, Int.le_trans (h0 h).2 ha.2⟩
  · exact ⟨Int.le_trans ha.1 (h1 h).1, Int.le_trans (h1 h).2 hmax⟩
theorem has_tmod (k : IntKind) (a b : Int) (ha : k.has a) : k.has (a.tmod b) := by
  have key : ∀ a : Int, 0 ≤ a → 0 ≤ a.tmod b ∧ a.tmod b ≤ a := fun a h => by
    have h1 := Int.tmod_nonneg b h
    have h2 := Int.natAbs_tmod a b
    have h3 := Nat.mod_le a.natAbs b.natAbs
    omega
  refine has_between k ha (key a) (fun h => ?_)
  have := key (-a) (by omega)
  rw [Int.neg_tmod] at this
  omega
theorem has_fdiv (k : IntKind) (a : Int) (n : Nat) (ha : k.has a) : k.has (a.fdiv (2 ^ n)) := by
  have hp : (1 : Int) ≤ 2 ^ n := by exact_mod_cast Nat.one_le_two_pow
  rw [Int.fdiv_eq_ediv_of_nonneg _ (by omega)]
  generalize (2 : Int) ^ n = d at hp
  have h1 := Int.mul_ediv_add_emod a d
  have h2 := Int.emod_nonneg a (show d ≠ 0 by omega)
  have h3 := Int.emod_lt_of_pos a (show 0 < d by omega)
  refine has_between k ha (fun h => ⟨Int.ediv_nonneg h (by omega), Int.ediv_le_self _ h⟩) (fun h => ⟨?_, ?_⟩)
  · rw [Int.le_ediv_iff_mul_le (by omega)]
    have := Int.mul_le_mul_of_nonpos_left (a := a) h hp
    omega
  · refine Int.not_lt.1 (fun hc => ?_)
    have : d * 1 ≤ d * (a / d) := Int.mul_le_mul_of_nonneg_left (by omega) (by omega)
    omega
section
variable {P : Program} {Θ : Tab} {w : World} {ok : Nat → Prop} {κ : Nat → Value} {obs : List (Nat × AObj)}

theorem struct_field {S : TypeId} {fs : List (Nat × TypeId)} (h : TDok P S (.struct fs)) {f : Nat} {off ft : Nat} (hf : fs[f]? = some (off, ft)) :
    ∃ fields fld, P.underlying S = some (.struct fields) ∧ fields[f]? = some fld ∧ fld.offset = off ∧ fld.type = ft := by
  obtain ⟨fields, h1, h2⟩ := h
  rw [← h2, List.getElem?_map] at hf
  cases hx : fields.toList[f]? with
  | none => simp [hx] at hf
  | some fld =>
    rw [hx] at hf
    simp at hf
    exact ⟨fields, fld, h1, by simpa using hx, hf.1, hf.2⟩

theorem fieldAt_run (hΘ : TabOK P Θ) {S : TypeId} {ti tf : TI} {fs : List (Nat × TypeId)} (h1 : assoc Θ S = some ti) (h2 : ti.td = .struct fs) {f off ft : Nat} (h3 : fs[f]? = some (off, ft)) (h4 : assoc Θ ft = some tf) (h5 : 0 < tf.size) (b o : Nat) :
    (Instr.fieldAt S (.pointer (some ⟨b, o, none⟩)) f).run P w = .ok (.pointer (some ⟨b, o + off, none⟩)) w := by
  have ht := (hΘ S ti h1).td
  rw [h2] at ht
  obtain ⟨fields, fld, k1, k2, rfl, rfl⟩ := struct_field ht h3
  unfold Instr.fieldAt
  simp only [Sem.run_bind, run_underlying k1, Result.andThen_ok, k2, Instr.sureAddr, Sem.run_pure, fieldPlace, run_sizeOf_ti (hΘ _ tf h4)]
  rw [if_neg (by omega)]
  simp [addr_add]


theorem bool_and {a b : Bool} (h : (a && b) = true) : a = true ∧ b = true := by simpa using h

theorem fieldAddr_pure (hΘ : TabOK P Θ) {S f : Nat} {ti tf : TI} {fs : List (Nat × TypeId)} (h1 : assoc Θ S = some ti) (h2 : ti.td = .struct fs) {off ft : Nat} (h3 : fs[f]? = some (off, ft)) (h4 : assoc Θ ft = some tf) (h5 : 0 < tf.size)
    {a : AV} {u : Value} {r : COut} (h : (match a with | .ptr id o => ret (.ptr id (o + off)) | .pp t x o => ret (.pp t x (o + off)) | .ap id idx o sz => ret (.ap id idx (o + off) sz) | _ => none) = some r) (ha : RepV w ok κ a u) :
    Pure1 P w ok κ (Instr.fieldAt S u f) r := by
  split at h
  · obtain ⟨b, hk, rfl⟩ := ha
    exact ret_pure h ⟨_, fieldAt_run hΘ h1 h2 h3 h4 h5 _ _, ⟨b, hk, rfl⟩⟩
  · obtain ⟨b, o, cs, rfl, hb, hc, hcell⟩ := ha
    exact ret_pure h ⟨_, fieldAt_run hΘ h1 h2 h3 h4 h5 _ _, ⟨b, o, cs, by rw [Nat.add_assoc], hb, hc, hcell⟩⟩
  · obtain ⟨b, n, c, hk, rfl⟩ := ha
    exact ret_pure h ⟨_, fieldAt_run hΘ h1 h2 h3 h4 h5 _ _, ⟨b, n, c, hk, by rw [Nat.add_assoc]⟩⟩
  · cases h

theorem field_pure (hΘ : TabOK P Θ) {S f : Nat} {ti tf : TI} {fs : List (Nat × TypeId)} (h1 : assoc Θ S = some ti) (h2 : ti.td = .struct fs) {off ft : Nat} (h3 : fs[f]? = some (off, ft)) (h4 : assoc Θ ft = some tf)
    {cs : List AV} {u : Value} {r : COut} (h : (if off + tf.size ≤ cs.length then if isAggT tf.td then ret (.agg ((cs.drop off).take tf.size)) else (cs[off]?).bind ret else none) = some r) (ha : RepV w ok κ (.agg cs) u) :
    Pure1 P w ok κ (Instr.field S u f) r := by
  obtain ⟨us, rfl, hl⟩ := ha
  have ht := (hΘ S ti h1).td
  rw [h2] at ht
  obtain ⟨fields, fld, k1, k2, rfl, rfl⟩ := struct_field ht h3
  have hlen := RepL.length _ _ hl
  split at h
  · rename_i hle
    have hrun : (Instr.field S (.agg us.toArray) f).run P w = (part fld.type us.toArray fld.offset).run P w := by
      unfold Instr.field
      simp [Sem.run_bind, run_underlying k1, k2, asAgg]
    rw [show Pure1 P w ok κ (Instr.field S (.agg us.toArray) f) r ↔ Pure1 P w ok κ (part fld.type us.toArray fld.offset) r from by unfold Pure1; rw [hrun]]
    have htf := hΘ _ tf h4
    split at h
    · rename_i hagg
      refine ret_pure h ⟨.agg (us.toArray.extract fld.offset (fld.offset + tf.size)), ?_, ⟨(us.drop fld.offset).take tf.size, ?_, (hl.drop _).take _⟩⟩
      · unfold part
        simp [Sem.run_bind, run_isAgg_td htf.td, hagg, run_sizeOf_ti htf]
      · congr 1
        apply Array.ext'
        simp [Array.toList_extract]
    · rename_i hagg
      cases hc : cs[fld.offset]? with
      | none => simp [hc] at h
      | some c =>
        rw [hc] at h
        obtain ⟨v, hv, hrv⟩ := RepL.get _ _ hl _ _ hc
        refine ret_pure h ⟨v, ?_, hrv⟩
        unfold part
        have : us.toArray[fld.offset]? = some v := by simpa using hv
        simp [Sem.run_bind, run_isAgg_td htf.td, hagg, this]
  · cases h

/-- An index into a slice in the model. -/
theorem indexAt_slice (hΘ : TabOK P Θ) {T e : TypeId} {ti te : TI} (h1 : assoc Θ T = some ti) (h2 : ti.td = .slice e) (h3 : assoc Θ e = some te) {b o len cap : Nat} {k : IntKind} {n : Int} (hn : 0 ≤ n ∧ n < len) :
    (Instr.indexAt T (.slice (some ⟨b, o, none⟩) len cap) (.int k n)).run P w = .ok (.pointer (some ⟨b, o + n.toNat * te.size, none⟩)) w := by
  have ht := (hΘ T ti h1).td
  rw [h2] at ht
  have hu : P.underlying T = some (.slice e) := ht
  unfold Instr.indexAt
  simp only [Sem.run_bind, asIntOf, Sem.run_pure, Result.andThen_ok, run_underlying hu]
  rw [if_pos hn]
  simp [Sem.run_bind, run_sizeOf_ti (hΘ e te h3), addr_add]

theorem repS_at {t : TC} {xs : List (Den t)} {u : Value} (h : RepS w ok t xs u) (n : Int) (h0 : 0 ≤ n) (h1 : n < xs.length) :
    ∃ b o c cs, u = .slice (some ⟨b, o, none⟩) xs.length c ∧ ok b ∧ RepC w ok t (xs.getD n.toNat (dflt t)) cs ∧ ∀ (i : Nat) (v : Value), cs[i]? = some v → w.cell? ⟨b, o + n.toNat * csize t + i, none⟩ = some v := by
  obtain ⟨a, c, b, o, rfl, _, _, h4, h5⟩ := RepS.row h
  have hp : n.toNat < xs.length := by omega
  obtain ⟨hb, cs, hc, hcell⟩ := h5 _ _ (getD_some (d := dflt t) hp)
  exact ⟨b, o, c, cs, by rw [h4 (by omega)], hb, hc, fun i v hv => by have := hcell i v hv; rwa [← Nat.add_assoc] at this⟩

theorem arr_header {id : Nat} {e : TypeId} {t : TC} {xs : List (Den t)} (h : ObjR w ok κ id (.arr e t xs)) : ∃ a c, κ id = .slice a xs.length c ∧ xs.length ≤ c ∧ xs.length ≤ 140737488355328 ∧ (0 < xs.length → ∃ b, a = some ⟨b, 0, none⟩) := by
  obtain ⟨cells, h1, h2, _⟩ := h
  rcases h1.2 with ⟨hv, hn⟩ | ⟨g, cap, cur, hv, _, _, hc, _⟩
  · exact ⟨none, 0, by rw [hv, hn], by omega, h2, fun hp => by omega⟩
  · exact ⟨_, cap, hv, hc, h2, fun _ => ⟨g, rfl⟩⟩
theorem fz_header {id : Nat} {t : TC} {xs : List (Den t)} (h : ObjR w ok κ id (.fz t xs)) : ∃ a c, κ id = .slice a xs.length c ∧ xs.length ≤ c ∧ xs.length ≤ 140737488355328 := by
  obtain ⟨a, c, b, o, h1, h2, h3, _⟩ := RepS.row (show RepS w ok t xs (κ id) from h)
  exact ⟨a, c, h1, h2, h3⟩


theorem indexAddr_pure (hΘ : TabOK P Θ) (hobs : Obs w ok κ obs) {T : TypeId} {x i : AV} {ux ui : Value} {r : COut} (h : coreIndexAddr Θ T obs x i = some r) (hx : RepV w ok κ x ux) (hi : RepV w ok κ i ui) : Pure1 P w ok κ (Instr.indexAt T ux ui) r := by
  unfold coreIndexAddr at h
  split at h
  · rename_i ti k n hti
    obtain ⟨rfl, _⟩ := hi
    split at h
    · rename_i e htd
      split at h
      · rename_i te hte
        split at h
        · rename_i t xs
          split at h
          · rename_i hsz
            refine retV_pure h (fun hn => ?_)
            obtain ⟨b, o, c, cs, rfl, hb, hc, hcell⟩ := repS_at hx n hn.1 hn.2
            exact ⟨_, indexAt_slice hΘ hti htd hte hn, ⟨b, _, cs, by rw [hsz, Nat.add_zero], hb, hc, hcell⟩⟩
          · cases h
        · rename_i id
          split at h
          · rename_i t xs ho
            split at h
            · rename_i hsz
              refine retV_pure h (fun hn => ?_)
              obtain ⟨a, c, hk, _, _, hb⟩ := arr_header (hobs _ _ ho)
              obtain ⟨b, rfl⟩ := hb (by omega)
              rw [show ux = κ id from hx.1, hk]
              exact ⟨_, indexAt_slice hΘ hti htd hte hn, ⟨b, _, c, hk, by rw [hsz, Nat.zero_add, Nat.add_zero]⟩⟩
            · cases h
          · rename_i t xs ho
            split at h
            · rename_i hsz
              refine retV_pure h (fun hn => ?_)
              have hf : RepS w ok t xs (κ id) := hobs _ _ ho
              rw [show ux = κ id from hx.1]
              obtain ⟨b, o, c, cs, hk, hb, hc, hcell⟩ := repS_at hf n hn.1 hn.2
              rw [hk]
              exact ⟨_, indexAt_slice hΘ hti htd hte hn, ⟨b, _, cs, by rw [hsz, Nat.add_zero], hb, hc, hcell⟩⟩
            · cases h
          · cases h
        · rename_i id lo len sz
          split at h
          · rename_i t xs ho
            split at h
            · rename_i hsz
              refine retV_pure h (fun hn => ?_)
              obtain ⟨a, c, hk, _, _, hb⟩ := arr_header (hobs _ _ ho)
              obtain ⟨b, rfl⟩ := hb (by omega)
              obtain ⟨a2, n2, c2, a', c', hk2, hm2, hle, hc', rfl, _, haddr⟩ := hx
              rw [hk] at hk2
              cases hk2
              rw [haddr (by omega) b rfl]
              refine ⟨_, indexAt_slice hΘ hti htd hte ⟨hn.1, hn.2.1⟩, ⟨b, _, c, hk, ?_⟩⟩
              rw [hsz.1, hsz.2, Nat.add_zero, Nat.add_mul]
            · cases h
          · cases h
        · cases h
      · cases h
    · rename_i m e htd
      split at h
      · rename_i te hte
        have ht := (hΘ T ti hti).td
        rw [htd] at ht
        have hu : P.underlying T = some (.array m e) := ht
        have run : ∀ (b o : Nat) (n : Int), 0 ≤ n ∧ n < m → (Instr.indexAt T (.pointer (some ⟨b, o, none⟩)) (.int k n)).run P w = .ok (.pointer (some ⟨b, o + n.toNat * te.size, none⟩)) w := by
          intro b o n hn
          unfold Instr.indexAt
          simp only [Sem.run_bind, asIntOf, Sem.run_pure, Result.andThen_ok, run_underlying hu, Instr.sureAddr]
          rw [if_pos hn]
          simp [Sem.run_bind, run_sizeOf_ti (hΘ e te hte), addr_add]
        split at h
        · rename_i t xs
          split at h
          · rename_i hsz
            obtain ⟨b, o, rfl, _, hrow⟩ := hx
            refine retV_pure h (fun hn => ?_)
            have hp : n.toNat < xs.length := by omega
            obtain ⟨hb, cs, hc, hcell⟩ := hrow _ _ (getD_some (d := dflt t) hp)
            exact ⟨_, run b o n ⟨hn.1, by rw [hsz.2.1]; exact hn.2⟩, ⟨b, _, cs, by rw [hsz.1, Nat.add_zero], hb, hc, fun i v hv => by have := hcell i v hv; rwa [← Nat.add_assoc] at this⟩⟩
          · cases h
        · rename_i id off
          split at h
          · rename_i j _hs
            split at h
            · rename_i hj
              obtain ⟨b, hk, rfl⟩ := hx
              exact ret_pure h ⟨_, run b off (.ofNat j) ⟨Int.natCast_nonneg j, by show (j : Int) < (m : Int); exact_mod_cast hj.1⟩, ⟨b, hk, rfl⟩⟩
            · cases h
          · cases h
        · cases h
      · cases h
    · cases h
  · cases h

theorem index_pure (hΘ : TabOK P Θ) {T : TypeId} {x i : AV} {ux ui : Value} {r : COut} (h : coreIndex Θ T x i = some r) (hx : RepV w ok κ x ux) (hi : RepV w ok κ i ui) : Pure1 P w ok κ (Instr.index T ux ui) r := by
  unfold coreIndex at h
  split at h
  · rename_i ti k n s hti
    obtain ⟨rfl, _⟩ := hi
    obtain ⟨rfl, _⟩ := hx
    split at h
    · rename_i htd
      have ht := (hΘ T ti hti).td
      rw [htd] at ht
      have hu : P.underlying T = some .string := ht
      refine retV_pure h (fun hn => ?_)
      have hlt : n.toNat < s.size := by omega
      have hb : bt s n = ((s[n.toNat]'hlt).toNat : Int) := by simp [bt, hlt]
      refine ⟨_, ?_, rfl, ?_⟩
      · unfold Instr.index
        simp only [Sem.run_bind, asIntOf, Sem.run_pure, Result.andThen_ok, run_underlying hu]
        rw [if_pos hn.1]
        have : s[n.toNat]? = some s[n.toNat] := by simp [hlt]
        rw [this]
        simp [hb]
      · rw [hb]
        have := (s[n.toNat]'hlt).toNat_lt
        simp only [scOK, IntKind.has, IntKind.min, IntKind.max, IntKind.bits, IntKind.signed]
        simp
        omega
    · cases h
  · cases h

theorem bounds_run {lo hi mx : Option Operand} {bs : List AV} {us : List Value} {n : Nat} {l h : Int} (hb : bounds lo hi mx bs n = some (l, h)) (ρ : Operand → Value) (hu : RepL w ok κ bs us)
    (he : us = (lo.map ρ).toList ++ (hi.map ρ).toList ++ (mx.map ρ).toList) (len cap : Nat) (hl : len = n) (isS : Bool) (h0 : 0 ≤ l) (h1 : l ≤ h) (h2 : h ≤ n) (hc : n ≤ cap) :
    (Instr.sliceBounds isS len cap (lo.map ρ) (hi.map ρ) (mx.map ρ)).run P w = .ok (l.toNat, h.toNat, cap) w := by
  have sb : ∀ (k : IntKind) (i : Int) (y : Nat) (code : BoundsCode), 0 ≤ i → i ≤ y → (Instr.sliceBound (.int k i) y code).run P w = .ok i.toNat w := fun k i y code a b => by
    unfold Instr.sliceBound
    simp [Sem.run_bind, asIntOf, a, b]
  subst hl
  unfold bounds at hb
  split at hb
  · cases hb
    unfold Instr.sliceBounds
    simp [Sem.run_bind]
  · cases hb
    rename_i o k a
    obtain ⟨u, us', rfl, hv, hnil⟩ := hu
    rw [show us' = [] from hnil] at he
    simp at he
    subst he
    obtain ⟨hv, _⟩ := hv
    unfold Instr.sliceBounds
    simp [Sem.run_bind, hv, sb _ _ _ _ h0 (show l ≤ (len : Int) from h1)]
  · cases hb
    rename_i o k a
    obtain ⟨u, us', rfl, hv, hnil⟩ := hu
    rw [show us' = [] from hnil] at he
    simp at he
    subst he
    obtain ⟨hv, _⟩ := hv
    unfold Instr.sliceBounds
    simp [Sem.run_bind, hv, sb _ _ _ _ h1 (show h ≤ (cap : Int) by omega)]
  · cases hb
    rename_i o k a o' k' a'
    obtain ⟨u, us', rfl, hv, u2, us2, rfl, hv2, hnil⟩ := hu
    rw [show us2 = [] from hnil] at he
    simp at he
    obtain ⟨rfl, rfl⟩ := he
    obtain ⟨hv, _⟩ := hv
    obtain ⟨hv2, _⟩ := hv2
    unfold Instr.sliceBounds
    simp [Sem.run_bind, hv, hv2, sb _ _ _ _ (show 0 ≤ h by omega) (show h ≤ (cap : Int) by omega), sb _ _ _ _ h0 (show l ≤ (h.toNat : Int) by omega)]
  · cases hb

theorem drop_take_row {t : TC} {xs : List (Den t)} {b o l k : Nat} (h : RepRow w ok t xs b o) : RepRow w ok t ((xs.drop l).take k) b (o + l * csize t) := by
  intro j x hj
  have hjk : j < k := by
    have := (List.getElem?_eq_some_iff.1 hj).1
    simp at this; omega
  rw [List.getElem?_take, if_pos hjk, List.getElem?_drop] at hj
  obtain ⟨hb, cs, hc, hcell⟩ := h _ _ hj
  exact ⟨hb, cs, hc, fun i u hu => by have := hcell i u hu; rw [show o + l * csize t + (j * csize t + i) = o + ((l + j) * csize t + i) from by rw [Nat.add_mul]; omega]; exact this⟩

theorem lenAV_val (hobs : Obs w ok κ obs) {x : AV} {n : Nat} {u : Value} (h : lenAV obs x = some n) (hx : RepV w ok κ x u) :
    (∃ a c, u = .slice a n c ∧ n ≤ c ∧ n ≤ 140737488355328) ∨ (∃ s, u = .string s ∧ s.size = n ∧ n ≤ 9223372036854775807) ∨ (∃ t xs, x = .pr t xs ∧ n = xs.length) := by
  unfold lenAV at h
  split at h
  · cases h
    obtain ⟨a, c, b, o, rfl, h1, h2, _⟩ := RepS.row hx
    exact .inl ⟨a, c, rfl, h1, h2⟩
  · cases h
    exact .inr (.inr ⟨_, _, rfl, rfl⟩)
  · split at h
    · rename_i ho
      cases h
      obtain ⟨a, c, hk, h1, h2, _⟩ := arr_header (hobs _ _ ho)
      exact .inl ⟨a, c, hx.1.trans hk, h1, h2⟩
    · rename_i ho
      cases h
      obtain ⟨a, c, hk, h1, h2⟩ := fz_header (hobs _ _ ho)
      exact .inl ⟨a, c, hx.1.trans hk, h1, h2⟩
    · cases h
  · cases h
    obtain ⟨a, m, c, a', c', hk, hm, hle, hc, rfl, _⟩ := hx
    exact .inl ⟨a', c', rfl, hc, by omega⟩
  · cases h
    exact .inl ⟨none, 0, hx.1, Nat.le_refl _, Nat.zero_le _⟩
  · cases h
    exact .inr (.inl ⟨_, hx.1, rfl, hx.2⟩)
  · cases h

theorem slice_run (hΘ : TabOK P Θ) {T e : TypeId} {ti te : TI} (h1 : assoc Θ T = some ti) (h2 : ti.td = .slice e) (h3 : assoc Θ e = some te) {lo hi mx : Option Operand} {ρ : Operand → Value} {a : Option Addr} {n c : Nat} {l h m : Nat}
    (hb : (Instr.sliceBounds true n c (lo.map ρ) (hi.map ρ) (mx.map ρ)).run P w = .ok (l, h, m) w) :
    (Instr.sliceAt T (.slice a n c) (lo.map ρ) (hi.map ρ) (mx.map ρ)).run P w = .ok (.slice (if m = l then a else a.map (·.add (l * te.size))) (h - l) (m - l)) w := by
  have ht := (hΘ T ti h1).td
  rw [h2] at ht
  have hu : P.underlying T = some (.slice e) := ht
  unfold Instr.sliceAt Instr.slice
  simp only [Sem.run_bind, run_underlying hu, Result.andThen_ok, hb, run_sizeOf_ti (hΘ e te h3), Sem.run_pure]

theorem slice_pure (hΘ : TabOK P Θ) (hobs : Obs w ok κ obs) {T : TypeId} {lo hi mx : Option Operand} {x : AV} {bs : List AV} {ux : Value} {us : List Value} {r : COut} (h : coreSlice Θ T obs lo hi mx x bs = some r) (ρ : Operand → Value) (hx : RepV w ok κ x ux)
    (hu : RepL w ok κ bs us) (he : us = (lo.map ρ).toList ++ (hi.map ρ).toList ++ (mx.map ρ).toList) : Pure1 P w ok κ (Instr.sliceAt T ux (lo.map ρ) (hi.map ρ) (mx.map ρ)) r := by
  unfold coreSlice at h
  split at h
  · rename_i ti n hti hlen
    split at h
    · rename_i l hh hbd
      have hT := hΘ T ti hti
      split at h
      · rename_i htd
        have ht := hT.td
        rw [htd] at ht
        have hul : P.underlying T = some .string := ht
        split at h
        · rename_i s
          refine retV_pure h (fun hv => ?_)
          obtain ⟨rfl, hs⟩ := hx
          simp only [lenAV, Option.some.injEq] at hlen
          have hb := bounds_run (P := P) hbd ρ hu he s.size s.size hlen false hv.1 hv.2.1 (by rw [← hlen]; exact hv.2.2) (by omega)
          have hmx : mx = none := by unfold bounds at hbd; split at hbd <;> simp_all
          subst hmx
          refine ⟨.string (s.extract l.toNat hh.toNat), ?_, rfl, ?_⟩
          · unfold Instr.sliceAt Instr.slice
            simp only [Option.map_none] at hb
            simp [Sem.run_bind, run_underlying hul, hb]
          · simp only [scOK] at hs ⊢
            rw [ByteArray.size_extract]; omega
        · cases h
      · rename_i e htd
        split at h
        · rename_i te hte
          split at h
          · rename_i t xs
            split at h
            · rename_i hsz
              refine retV_pure h (fun hv => ?_)
              simp only [lenAV, Option.some.injEq] at hlen
              obtain ⟨a, c, b, o, rfl, h1, h2, h3, h4⟩ := RepS.row hx
              have hb := bounds_run (P := P) hbd ρ hu he xs.length c hlen true hv.1 hv.2.1 hv.2.2 (by omega)
              refine ⟨_, slice_run hΘ hti htd hte hb, ?_⟩
              have hl : (List.take (hh - l).toNat (List.drop l.toNat xs)).length = hh.toNat - l.toNat := by simp; omega
              have : RepS w ok t (List.take (hh - l).toNat (List.drop l.toNat xs)) (.slice (if c = l.toNat then a else a.map (·.add (l.toNat * te.size))) (List.take (hh - l).toNat (List.drop l.toNat xs)).length (c - l.toNat)) := by
                refine RepS.of_row (b := b) (o := o + l.toNat * csize t) (by rw [hl]; omega) (by rw [hl]; omega) (fun hp => ?_) (drop_take_row h4)
                rw [if_neg (by omega), h3 (by omega), hsz]
                simp [addr_add]
              rw [hl] at this
              exact this
            · cases h
          · rename_i id
            split at h
            · rename_i t xs ho
              split at h
              · rename_i hsz
                refine retV_pure h (fun hv => ?_)
                obtain ⟨a, c, hk, h1, h2, h3⟩ := arr_header (hobs _ _ ho)
                simp only [lenAV, ho, Option.some.injEq] at hlen
                have hb := bounds_run (P := P) hbd ρ hu he xs.length c hlen true hv.1 hv.2.1 hv.2.2 (by omega)
                rw [show ux = κ id from hx.1, hk]
                refine ⟨_, slice_run hΘ hti htd hte hb, ⟨a, xs.length, c, if c = l.toNat then a else a.map (·.add (l.toNat * te.size)), c - l.toNat, hk, h2, by omega, by omega, ?_, ?_, ?_⟩⟩
                · rw [show (hh - l).toNat = hh.toNat - l.toNat from by omega]
                · intro h0
                  rw [h0]
                  refine ⟨?_, by omega⟩
                  split
                  · rfl
                  · cases a <;> simp [Addr.add]
                · intro hp b hb
                  rw [if_neg (by omega), hb, hsz]
                  simp [addr_add]
              · cases h
            · cases h
          · rename_i id lo' len' sz
            split at h
            · rename_i hsz
              refine retV_pure h (fun hv => ?_)
              simp only [lenAV, Option.some.injEq] at hlen
              obtain ⟨a, m, c, a', c', hk, hm, hle, hc, rfl, hz, haddr⟩ := hx
              have hb := bounds_run (P := P) hbd ρ hu he len' c' hlen true hv.1 hv.2.1 hv.2.2 (by omega)
              refine ⟨_, slice_run hΘ hti htd hte hb, ⟨a, m, c, if c' = l.toNat then a' else a'.map (·.add (l.toNat * te.size)), c' - l.toNat, hk, hm, by omega, by omega, ?_, ?_, ?_⟩⟩
              · rw [show (hh - l).toNat = hh.toNat - l.toNat from by omega]
              · intro h0
                obtain ⟨h01, h02⟩ : lo' = 0 ∧ l.toNat = 0 := by omega
                obtain ⟨rfl, rfl⟩ := hz h01
                rw [h02]
                refine ⟨?_, by omega⟩
                split
                · rfl
                · cases a' <;> simp [Addr.add]
              · intro hp b hb
                rw [if_neg (by omega), haddr (by omega) b hb, hsz]
                simp [addr_add, Nat.add_mul]
            · cases h
          · cases h
        · cases h
      · rename_i m e htd
        have ht := hT.td
        rw [htd] at ht
        have hul : P.underlying T = some (.array m e) := ht
        split at h
        · rename_i te hte
          split at h
          · rename_i t xs
            split at h
            · rename_i hsz
              refine retV_pure h (fun hv => ?_)
              simp only [lenAV, Option.some.injEq] at hlen
              obtain ⟨b, o, rfl, hml, h4⟩ := hx
              have hb := bounds_run (P := P) hbd ρ hu he m m (by omega) false hv.1 hv.2.1 hv.2.2 (by omega)
              have hrun : (Instr.sliceAt T (.pointer (some ⟨b, o, none⟩)) (lo.map ρ) (hi.map ρ) (mx.map ρ)).run P w = .ok (.slice (some (if m = l.toNat then ⟨b, o, none⟩ else (⟨b, o, none⟩ : Addr).add (l.toNat * te.size))) (hh.toNat - l.toNat) (m - l.toNat)) w := by
                unfold Instr.sliceAt
                simp only [Sem.run_bind, run_underlying hul, Result.andThen_ok, Instr.sureAddr, Sem.run_pure, hb, run_sizeOf_ti (hΘ e te hte)]
              refine ⟨_, hrun, ?_⟩
              have hl : (List.take (hh - l).toNat (List.drop l.toNat xs)).length = hh.toNat - l.toNat := by simp; omega
              have : RepS w ok t (List.take (hh - l).toNat (List.drop l.toNat xs)) (.slice (some (if m = l.toNat then ⟨b, o, none⟩ else (⟨b, o, none⟩ : Addr).add (l.toNat * te.size))) (List.take (hh - l).toNat (List.drop l.toNat xs)).length (m - l.toNat)) := by
                refine RepS.of_row (b := b) (o := o + l.toNat * csize t) (by rw [hl]; omega) (by rw [hl]; omega) (fun hp => ?_) (drop_take_row h4)
                rw [if_neg (by omega), hsz.1]
                simp [addr_add]
              rw [hl] at this
              exact this
            · cases h
          · cases h
        · cases h
      · cases h
    · cases h
  · cases h
end
end Go.AM
/-
  The abstract machine, part 10: arithmetic, comparisons, conversions, lengths.
-/
namespace Go.AM
open Go RowKit
section
variable {P : Program} {Θ : Tab} {w : World} {ok : Nat → Prop} {κ : Nat → Value} {obs : List (Nat × AObj)}

/-- 'binOp' as the machine runs it, its guard first. -/
def binSem (op : BinOp) (T : TypeId) (x y : Operand) (a b : Value) : Sem Value := do eqGuard op T x y a b; binOp op T a b

theorem eqGuard_string (op : BinOp) (T : TypeId) (x y : Operand) (a b : ByteArray) : (eqGuard op T x y (.string a) (.string b)).run P w = .ok () w := by cases op <;> rfl
theorem eqGuard_int (op : BinOp) (T : TypeId) (x y : Operand) (k k' : IntKind) (a b : Int) : (eqGuard op T x y (.int k a) (.int k' b)).run P w = .ok () w := by cases op <;> rfl
theorem eqGuard_bool (op : BinOp) (T : TypeId) (x y : Operand) (a b : Bool) : (eqGuard op T x y (.bool a) (.bool b)).run P w = .ok () w := by cases op <;> rfl
theorem binOp_string (op : BinOp) (T : TypeId) (a b : ByteArray) : binOp op T (.string a) (.string b) = Op.stringOp op a b := by cases op <;> rfl

theorem bin_pure (hΘ : TabOK P Θ) {op : BinOp} {T : TypeId} {x y : AV} {a b : Value} {r : COut} (h : coreBin op Θ T x y = some r) (ha : RepV w ok κ x a) (hb : RepV w ok κ y b) (ox oy : Operand) : Pure1 P w ok κ (binSem op T ox oy a b) r := by
  have hbool : ∀ b : Bool, scOK (.bool b) := fun _ => trivial
  unfold coreBin at h
  split at h
  · rename_i a' b'
    obtain ⟨rfl, hsa⟩ := ha
    obtain ⟨rfl, hsb⟩ := hb
    have run : ∀ v, (Op.stringOp op a' b').run P w = .ok v w → (binSem op T ox oy (.string a') (.string b')).run P w = .ok v w := by
      intro v hv
      unfold binSem
      simp only [Sem.run_bind, eqGuard_string, Result.andThen_ok, binOp_string]
      exact hv
    split at h
    · refine retV_pure h (fun hle => ⟨_, run _ ?_, rfl, ?_⟩)
      · unfold Op.stringOp
        have : ¬ (((a'.size + b'.size : Nat) : Int) > IntKind.i64.max) := by
          simp only [IntKind.max, IntKind.signed, IntKind.bits]; simp at hle ⊢; omega
        simp only [this, if_false]
        rfl
      · simp only [scOK, ByteArray.size_append]; omega
    · exact ret_pure h ⟨_, run _ rfl, rfl, hbool _⟩
    · exact ret_pure h ⟨_, run _ rfl, rfl, hbool _⟩
    · exact ret_pure h ⟨_, run _ rfl, rfl, hbool _⟩
    · exact ret_pure h ⟨_, run _ rfl, rfl, hbool _⟩
    · exact ret_pure h ⟨_, run _ rfl, rfl, hbool _⟩
    · exact ret_pure h ⟨_, run _ rfl, rfl, hbool _⟩
    · cases h
  · rename_i k a' k' b'
    obtain ⟨rfl, hsa⟩ := ha
    obtain ⟨rfl, hsb⟩ := hb
    have run : ∀ v, (binOp op T (.int k a') (.int k' b')).run P w = .ok v w → (binSem op T ox oy (.int k a') (.int k' b')).run P w = .ok v w := by
      intro v hv
      unfold binSem
      simp only [Sem.run_bind, eqGuard_int, Result.andThen_ok]
      exact hv
    split at h
    · refine retV_pure h (fun hle => ⟨_, run _ ?_, rfl, has_wrap _ _⟩)
      show (Op.shift .shl k a' k' b').run P w = _
      unfold Op.shift
      rw [if_neg (by omega)]
      rfl
    · refine retV_pure h (fun hle => ⟨_, run _ ?_, rfl, has_fdiv _ _ _ hsa⟩)
      show (Op.shift .shr k a' k' b').run P w = _
      unfold Op.shift
      rw [if_neg (by omega)]
      rfl
    · rename_i h1 h2
      split at h
      · rename_i hk
        subst hk
        have arith : ∀ (s : Sem Value) v, s.run P w = .ok v w → (if k ≠ k then (stuck "BinOp: operands of different kinds" : Sem Value) else s).run P w = .ok v w := by
          intro s v hv
          rw [if_neg (by simp)]; exact hv
        split at h
        · exact ret_pure h ⟨_, run _ (arith (Op.intArith .add k a' b') _ rfl), rfl, has_wrap _ _⟩
        · exact ret_pure h ⟨_, run _ (arith (Op.intArith .sub k a' b') _ rfl), rfl, has_wrap _ _⟩
        · exact ret_pure h ⟨_, run _ (arith (Op.intArith .mul k a' b') _ rfl), rfl, has_wrap _ _⟩
        · refine retV_pure h (fun hne => ⟨_, run _ (arith (Op.intDiv .quo k a' b') _ ?_), rfl, has_wrap _ _⟩)
          unfold Op.intDiv
          rw [if_neg hne]
          rfl
        · refine retV_pure h (fun hne => ⟨_, run _ (arith (Op.intDiv .rem k a' b') _ ?_), rfl, has_tmod _ _ _ hsa⟩)
          unfold Op.intDiv
          rw [if_neg hne]
          rfl
        · exact ret_pure h ⟨_, run _ (arith (Op.intCmp .eql a' b') _ rfl), rfl, hbool _⟩
        · exact ret_pure h ⟨_, run _ (arith (Op.intCmp .neq a' b') _ rfl), rfl, hbool _⟩
        · exact ret_pure h ⟨_, run _ (arith (Op.intCmp .lss a' b') _ rfl), rfl, hbool _⟩
        · exact ret_pure h ⟨_, run _ (arith (Op.intCmp .leq a' b') _ rfl), rfl, hbool _⟩
        · exact ret_pure h ⟨_, run _ (arith (Op.intCmp .gtr a' b') _ rfl), rfl, hbool _⟩
        · exact ret_pure h ⟨_, run _ (arith (Op.intCmp .geq a' b') _ rfl), rfl, hbool _⟩
        · exact ret_pure h ⟨_, run _ (arith (Op.intBits .and k a' b') _ rfl), rfl, has_wrap _ _⟩
        · exact ret_pure h ⟨_, run _ (arith (Op.intBits .or k a' b') _ rfl), rfl, has_wrap _ _⟩
        · exact ret_pure h ⟨_, run _ (arith (Op.intBits .xor k a' b') _ rfl), rfl, has_wrap _ _⟩
        · exact ret_pure h ⟨_, run _ (arith (Op.intBits .andNot k a' b') _ rfl), rfl, has_wrap _ _⟩
        · cases h
      · cases h
  · rename_i a' b'
    obtain ⟨rfl, hsa⟩ := ha
    obtain ⟨rfl, hsb⟩ := hb
    split at h
    · rename_i ti hti
      split at h
      · rename_i htd
        have ht := (hΘ T ti hti).td
        rw [htd] at ht
        have hu : P.underlying T = some .bool := ht
        have heq : (Op.equal T (.bool a') (.bool b')).run P w = .ok (a' == b') w := by
          unfold Op.equal Op.maxDepth Op.equalIn
          simp [Sem.run_bind, run_underlying hu]
        split at h
        · refine ret_pure h ⟨_, ?_, rfl, hbool _⟩
          unfold binSem
          simp only [Sem.run_bind, eqGuard_bool, Result.andThen_ok]
          show (do pure (.bool (← Op.equal T (.bool a') (.bool b'))) : Sem Value).run P w = _
          simp [Sem.run_bind, heq]
        · refine ret_pure h ⟨_, ?_, rfl, hbool _⟩
          unfold binSem
          simp only [Sem.run_bind, eqGuard_bool, Result.andThen_ok]
          show (do pure (.bool (!(← Op.equal T (.bool a') (.bool b')))) : Sem Value).run P w = _
          simp [Sem.run_bind, heq]
        · cases h
      · cases h
    · cases h
  · cases h

/-- Structs of a type compare cell by cell. -/
def EqSem (P : Program) (T : Nat × List Nat) : Prop := ∀ (w : World) (ox oy : Operand) (cs ds : List AV) (l : List Bool) (ok : Nat → Prop) (κ : Nat → Value) (us vs : List Value), eqK cs = T.2 → eqCells cs ds = some l → RepL w ok κ cs us → RepL w ok κ ds vs →
  (binSem .eql T.1 ox oy (.agg us.toArray) (.agg vs.toArray)).run P w = .ok (.bool (allB l)) w ∧ (binSem .neq T.1 ox oy (.agg us.toArray) (.agg vs.toArray)).run P w = .ok (.bool (!allB l)) w

theorem unary_int {k : IntKind} {n : Int} : (Op.unary .neg (.int k n)).run P w = .ok (.int k (k.wrap (0 - n))) w := rfl
theorem unary_not {b : Bool} : (Op.unary .not (.bool b)).run P w = .ok (.bool (!b)) w := rfl

theorem len_pure (hΘ : TabOK P Θ) (hobs : Obs w ok κ obs) {T ty : TypeId} {ti : TI} (h1 : assoc Θ T = some ti) {x : AV} {u : Value} {n : Nat} (hl : lenAV obs x = some n) (htd : ti.td = .str ∨ ∃ e, ti.td = .slice e) (hp : ∀ t xs, x ≠ .pr t xs)
    (hx : RepV w ok κ x u) (hs : ti.td = .str → ∃ s, u = .string s) (hs2 : ∀ e, ti.td = .slice e → ∃ a n c, u = .slice a n c) : (Builtin.len_ #[T] ty #[u]).run P w = .ok (.int .i64 n) w ∧ IntKind.i64.has n := by
  have ht := (hΘ T ti h1).td
  have hr : ∀ m : Nat, m ≤ 9223372036854775807 → IntKind.i64.has (m : Int) := fun m hm => by
    simp only [IntKind.has, IntKind.min, IntKind.max, IntKind.signed, IntKind.bits]; simp; omega
  rcases lenAV_val hobs hl hx with ⟨a, c, rfl, h2, h3⟩ | ⟨s, rfl, h2, h3⟩ | ⟨t, xs, h2, _⟩
  · rcases htd with htd | ⟨e, htd⟩
    · obtain ⟨s, h⟩ := hs htd; cases h
    · rw [htd] at ht
      have hu : P.underlying T = some (.slice e) := ht
      refine ⟨?_, hr n (by omega)⟩
      unfold Builtin.len_
      simp [Sem.run_bind, run_underlying hu, goInt]
  · rcases htd with htd | ⟨e, htd⟩
    · rw [htd] at ht
      have hu : P.underlying T = some .string := ht
      refine ⟨?_, hr n h3⟩
      unfold Builtin.len_
      simp [Sem.run_bind, run_underlying hu, goInt, h2]
    · obtain ⟨a, n, c, h⟩ := hs2 e htd; cases h
  · exact absurd h2 (hp t xs)
end
end Go.AM
/-
  The abstract machine, part 11: a new object; an object written; arrays that are no longer written.
-/
namespace Go.AM
open Go RowKit
section
variable {glob : List (Nat × AV)} {M0 B0 : Nat → Prop} {w0 w w' : World} {κ : Nat → Value} {objs : List (Nat × AObj)}

def upd (κ : Nat → Value) (i : Nat) (v : Value) : Nat → Value := fun j => if j = i then v else κ j
theorem upd_same (κ : Nat → Value) (i : Nat) (v : Value) : upd κ i v i = v := by simp [upd]
theorem upd_other (κ : Nat → Value) {i j : Nat} (v : Value) (h : j ≠ i) : upd κ i v j = κ j := by simp [upd, h]

/-- No number out of N anywhere. -/
structure Lack (N : Nat → Bool) (glob : List (Nat × AV)) (objs : List (Nat × AObj)) : Prop where
  ids : ∀ id o, assoc objs id = some o → N id = false
  objs : ∀ id o, assoc objs id = some o → lacksO N o = true
  glob : ∀ g v, assoc glob g = some v → lacks N v = true

theorem assoc_cons {α : Type} (k i : Nat) (v : α) (l : List (Nat × α)) : assoc ((k, v) :: l) i = if k = i then some v else assoc l i := by
  simp [assoc]

mutual
theorem lacksF : ∀ v, lacks (fun _ => false) v = true
  | .sc _ => rfl
  | .gd _ v => lacksF v
  | .sl _ _ => rfl
  | .agg cs => lacksLF cs
  | .tup cs => lacksLF cs
  | .ptr _ _ => rfl
  | .pp _ _ _ => rfl
  | .pr _ _ => rfl
  | .af _ => rfl
  | .as_ _ _ _ _ => rfl
  | .ap _ _ _ _ => rfl
  | .fn _ cap => lacksLF cap
  | .ifc _ v => lacksF v
  | .junk => rfl
theorem lacksLF : ∀ cs, lacksL (fun _ => false) cs = true
  | [] => rfl
  | c :: cs => by simp [lacksL, lacksF c, lacksLF cs]
end
theorem lacksOF (o : AObj) : lacksO (fun _ => false) o = true := by cases o <;> simp [lacksO, lacksLF]

/-- One object more, in new memory. -/
theorem Mem.add (hm : Mem glob M0 B0 w0 w κ objs) (hM : ∀ b, M0 b → b < w.heap.size) (hb : Below w.heap.size w w') {N : Nat → Bool} {nid : Nat} {v : Value} {o : AObj} (hN : N nid = true) (hl : Lack N glob objs)
    (hblk : ∀ b, mutO o = true → blkOf v = some b → w.heap.size ≤ b) (ho : ∀ ok', (∀ k, okB M0 κ objs k → k < w.heap.size → ok' k) → Ext w w' (okB M0 κ objs) ok' → ObjR w' ok' (upd κ nid v) nid o) :
    Next M0 N κ (upd κ nid v) objs ((nid, o) :: objs) w w' ∧ Mem glob M0 B0 w0 w' (upd κ nid v) ((nid, o) :: objs) := by
  have hne : ∀ id, N id = false → id ≠ nid := fun id h he => by subst he; rw [h] at hN; cases hN
  have hn : Next M0 N κ (upd κ nid v) objs ((nid, o) :: objs) w w' := by
    refine ⟨fun id hid => upd_other κ v (hne id hid), fun b hlt _ => hb.block b hlt, fun b hl' => ?_, hb.os, hb.tape, hb.output, hb.size⟩
    obtain ⟨id, p, h1, h2, h3⟩ := hl'
    rw [assoc_cons] at h1
    split at h1
    · rename_i he
      subst he
      cases h1
      rw [upd_same] at h3
      exact .inr (hblk b h2 h3)
    · rename_i he
      rw [upd_other κ v (fun h => he h.symm)] at h3
      exact .inl ⟨id, p, h1, h2, h3⟩
  refine ⟨hn, hm.next hn hM (fun id p hp => ?_) (fun i j p q b hi hj hpi hpj hbi hbj => ?_) (fun g x hg => hl.glob g x hg)⟩
  · rw [assoc_cons] at hp
    split at hp
    · rename_i he
      subst he
      cases hp
      exact .inr (ho _ (fun k hk hlt => hn.ext.still k hk hlt) hn.ext)
    · exact .inl ⟨hp, hl.ids id p hp, hl.objs id p hp, fun hmu b hbk => hb.block b (hm.live_lt ⟨id, p, hp, hmu, hbk⟩)⟩
  · rw [assoc_cons] at hi hj
    split at hi <;> split at hj
    · rename_i h1 h2; exact h1.symm.trans h2
    · rename_i h1 h2
      subst h1
      cases hi
      rw [upd_same] at hbi
      rw [upd_other κ v (fun h => h2 h.symm)] at hbj
      have := hm.live_lt ⟨j, q, hj, hpj, hbj⟩
      have := hblk b hpi hbi
      omega
    · rename_i h1 h2
      subst h2
      cases hj
      rw [upd_same] at hbj
      rw [upd_other κ v (fun h => h1 h.symm)] at hbi
      have := hm.live_lt ⟨i, p, hi, hpi, hbi⟩
      have := hblk b hpj hbj
      omega
    · rename_i h1 h2
      rw [upd_other κ v (fun h => h1 h.symm)] at hbi
      rw [upd_other κ v (fun h => h2 h.symm)] at hbj
      exact hm.sep i j p q b hi hj hpi hpj hbi hbj

/-- An object written in its own block: the other objects, and their numbers, as they were. -/
theorem Mem.put (hm : Mem glob M0 B0 w0 w κ objs) (hM : ∀ b, M0 b → b < w.heap.size) {id : Nat} {o o' : AObj} {b : Nat} (hid : assoc objs id = some o) (hmu : mutO o = true) (hmu' : mutO o' = true) (hbk : blkOf (κ id) = some b)
    (hs : w'.heap.size = w.heap.size) (hos : w'.os = w.os) (htp : w'.tape = w.tape) (hout : w'.output = w.output) (hblk : ∀ k, k ≠ b → w'.heap[k]? = w.heap[k]?)
    (ho : ∀ ok', (∀ k, okB M0 κ objs k → ok' k) → Ext w w' (okB M0 κ objs) ok' → ObjR w' ok' κ id o') :
    Next M0 (fun _ => false) κ κ objs ((id, o') :: objs) w w' ∧ Mem glob M0 B0 w0 w' κ ((id, o') :: objs) := by
  have hlive : ∀ k, live κ ((id, o') :: objs) k ↔ live κ objs k := by
    intro k
    constructor
    · rintro ⟨i, p, h1, h2, h3⟩
      rw [assoc_cons] at h1
      split at h1
      · rename_i he; subst he; exact ⟨id, o, hid, hmu, h3⟩
      · exact ⟨i, p, h1, h2, h3⟩
    · rintro ⟨i, p, h1, h2, h3⟩
      by_cases he : id = i
      · subst he; exact ⟨id, o', by rw [assoc_cons, if_pos rfl], hmu', h3⟩
      · exact ⟨i, p, by rw [assoc_cons, if_neg he]; exact h1, h2, h3⟩
  have hl : live κ objs b := ⟨id, o, hid, hmu, hbk⟩
  have hn : Next M0 (fun _ => false) κ κ objs ((id, o') :: objs) w w' :=
    ⟨fun _ _ => rfl, fun k _ hk => hblk k (fun h => hk (h ▸ hl)), fun k hk => .inl ((hlive k).1 hk), hos, htp, hout, by omega⟩
  refine ⟨hn, hm.next hn hM (fun i p hp => ?_) (fun i j p q k hi hj hpi hpj hbi hbj => ?_) (fun g x hg => ?_)⟩
  · rw [assoc_cons] at hp
    split at hp
    · rename_i he
      subst he
      cases hp
      exact .inr (ho _ (fun k hk => ⟨hk.1, fun h => hk.2 ((hlive k).1 h)⟩) hn.ext)
    · rename_i he
      refine .inl ⟨hp, rfl, ?_, fun hmp k hk => hblk k (fun h => ?_)⟩
      · exact lacksOF p
      · subst h
        exact he (hm.sep id i o p k hid hp hmu hmp hbk hk)
  · rw [assoc_cons] at hi hj
    split at hi <;> split at hj
    · rename_i h1 h2; exact h1.symm.trans h2
    · rename_i h1 h2; subst h1; exact hm.sep id j o q k hid hj hmu hpj hbi hbj
    · rename_i h1 h2; subst h2; exact hm.sep i id p o k hi hid hpi hmu hbi hbj
    · exact hm.sep i j p q k hi hj hpi hpj hbi hbj
  · exact lacksF x

theorem reps_of_arr {ok : Nat → Prop} {id : Nat} {e : TypeId} {t : TC} {xs : List (Den t)} (h : ObjR w ok κ id (.arr e t xs)) (ok' : Nat → Prop) (hok : ∀ b, ok b → ok' b) (hb : ∀ b, blkOf (κ id) = some b → ok' b) :
    RepS w ok' t xs (κ id) := by
  obtain ⟨cells, h1, h2, h3, h4⟩ := h
  have hx : Ext w w ok ok' := ⟨fun _ _ _ => rfl, fun b hb _ => hok b hb⟩
  rcases h1.2 with ⟨hv, hn⟩ | ⟨g, cap, cur, hv, _, hh, hc, _⟩
  · rw [hv]
    have : xs = [] := List.eq_nil_of_length_eq_zero hn
    subst this
    exact RepS.nil w ok' t none 0
  · rw [hv]
    refine RepS.of_row (b := g) (o := 0) hc h2 (fun _ => rfl) (fun j x hj => ⟨hb g (by rw [hv]; rfl), _, (h4 j x hj).mono hx, fun i u hu => ?_⟩)
    have hlt : i < csize t := by
      have := (List.getElem?_eq_some_iff.1 hu).1
      simp at this; omega
    rw [List.getElem?_take, if_pos hlt, List.getElem?_drop] at hu
    have := h1.cells (g := g) (by rw [hv]; rfl) _ u hu
    rwa [addr_add] at this

/-- An array that is no longer written. -/
theorem Mem.freeze1 (hm : Mem glob M0 B0 w0 w κ objs) (hM : ∀ b, M0 b → b < w.heap.size) {id : Nat} {t : TC} {xs : List (Den t)} (hid : (∃ e, assoc objs id = some (.arr e t xs)) ∨ assoc objs id = some (.fz t xs)) :
    Next M0 (fun _ => false) κ κ objs ((id, .fz t xs) :: objs) w w ∧ Mem glob M0 B0 w0 w κ ((id, .fz t xs) :: objs) := by
  have hlive : ∀ k, live κ ((id, .fz t xs) :: objs) k → live κ objs k := by
    rintro k ⟨i, p, h1, h2, h3⟩
    rw [assoc_cons] at h1
    split at h1
    · cases h1; cases h2
    · exact ⟨i, p, h1, h2, h3⟩
  have hn : Next M0 (fun _ => false) κ κ objs ((id, .fz t xs) :: objs) w w :=
    ⟨fun _ _ => rfl, fun _ _ _ => rfl, fun k hk => .inl (hlive k hk), rfl, rfl, rfl, Nat.le_refl _⟩
  refine ⟨hn, hm.next hn hM (fun i p hp => ?_) (fun i j p q k hi hj hpi hpj hbi hbj => ?_) (fun g x hg => lacksF x)⟩
  · rw [assoc_cons] at hp
    split at hp
    · rename_i he
      subst he
      cases hp
      refine .inr ?_
      rcases hid with ⟨e, hid⟩ | hid
      · refine reps_of_arr (hm.each id _ hid) _ (fun b hb => ⟨hb.1, fun h => hb.2 (hlive b h)⟩) (fun b hb => ⟨(hm.off b ⟨id, _, hid, rfl, hb⟩).1, ?_⟩)
        rintro ⟨i, p, h1, h2, h3⟩
        rw [assoc_cons] at h1
        split at h1
        · cases h1; cases h2
        · rename_i hne
          exact hne (hm.sep id i _ p b hid h1 rfl h2 hb h3)
      · have := hm.each id _ hid
        exact ObjR.mono (N := fun _ => false) hn.ext hn.kap rfl rfl (fun h => by cases h) this
    · exact .inl ⟨hp, rfl, lacksOF p, fun _ _ _ => rfl⟩
  · rw [assoc_cons] at hi hj
    split at hi
    · cases hi; cases hpi
    · split at hj
      · cases hj; cases hpj
      · exact hm.sep i j p q k hi hj hpi hpj hbi hbj

theorem Next.trans0 {N : Nat → Bool} {κ' : Nat → Value} {objs1 objs2 : List (Nat × AObj)} (h : Next M0 (fun _ => false) κ κ objs objs1 w w) (k : Next M0 N κ κ' objs1 objs2 w w') : Next M0 N κ κ' objs objs2 w w' :=
  ⟨k.kap, fun b hb hl => k.same b hb (fun h' => by rcases h.live b h' with h1 | h1; exact hl h1; omega), fun b hb => by
    rcases k.live b hb with h1 | h1
    · rcases h.live b h1 with h2 | h2
      · exact .inl h2
      · exact .inr h2
    · exact .inr h1, k.os, k.tape, k.output, k.size⟩
theorem Next.refl0 : Next M0 (fun _ => false) κ κ objs objs w w := ⟨fun _ _ => rfl, fun _ _ _ => rfl, fun _ h => .inl h, rfl, rfl, rfl, Nat.le_refl _⟩

theorem froze_mem {obs : List (Nat × AObj)} {id : Nat} {o : AObj} (h : (id, o) ∈ froze obs) : ∃ e t xs, o = .fz t xs ∧ (id, AObj.arr e t xs) ∈ obs := by
  unfold froze at h
  rw [List.mem_filterMap] at h
  obtain ⟨⟨i, p⟩, h1, h2⟩ := h
  cases p with
  | arr e t xs => simp at h2; obtain ⟨rfl, rfl⟩ := h2; exact ⟨e, t, xs, rfl, h1⟩
  | _ => simp at h2

/-- Many of them. -/
theorem Mem.freezeL : ∀ (ws : List (Nat × AObj)) (objs : List (Nat × AObj)), Mem glob M0 B0 w0 w κ objs → (∀ b, M0 b → b < w.heap.size) →
    (∀ id o, (id, o) ∈ ws → ∃ t xs, o = .fz t xs ∧ ((∃ e, assoc objs id = some (.arr e t xs)) ∨ assoc objs id = some (.fz t xs))) →
    Next M0 (fun _ => false) κ κ objs (ws.reverse ++ objs) w w ∧ Mem glob M0 B0 w0 w κ (ws.reverse ++ objs)
  | [], objs, hm, _, _ => ⟨Next.refl0, hm⟩
  | (id, o) :: ws, objs, hm, hM, h => by
    obtain ⟨t, xs, rfl, hid⟩ := h id o (by simp)
    obtain ⟨n1, m1⟩ := hm.freeze1 hM hid
    obtain ⟨n2, m2⟩ := Mem.freezeL ws _ m1 hM (fun i p hp => by
      obtain ⟨t', xs', rfl, hi⟩ := h i p (by simp [hp])
      refine ⟨t', xs', rfl, ?_⟩
      rw [assoc_cons]
      split
      · rename_i he
        subst he
        rcases hid with ⟨e, hid⟩ | hid <;> rcases hi with ⟨e', hi⟩ | hi <;> (rw [hid] at hi; cases hi) <;> exact .inr rfl
      · exact hi)
    simp only [List.reverse_cons, List.append_assoc, List.singleton_append]
    exact ⟨n1.trans0 n2, m2⟩

theorem assoc_app {α : Type} (a b : List (Nat × α)) (i : Nat) : assoc (a ++ b) i = match assoc a i with | some v => some v | none => assoc b i := by
  induction a with
  | nil => rfl
  | cons p a ih =>
    obtain ⟨k, v⟩ := p
    simp only [List.cons_append, assoc_cons]
    split
    · rfl
    · exact ih
theorem assoc_none {α : Type} {a : List (Nat × α)} {i : Nat} (h : assoc a i = none) : ∀ v, (i, v) ∉ a := by
  induction a with
  | nil => simp
  | cons p a ih =>
    obtain ⟨k, v⟩ := p
    rw [assoc_cons] at h
    split at h
    · cases h
    · rename_i hne
      intro x hx
      rcases List.mem_cons.1 hx with hx | hx
      · injection hx with h1 _; exact hne h1.symm
      · exact ih h x hx
theorem assoc_mem {α : Type} {a : List (Nat × α)} {i : Nat} {v : α} (h : assoc a i = some v) : (i, v) ∈ a := by
  induction a with
  | nil => cases h
  | cons p a ih =>
    obtain ⟨k, x⟩ := p
    rw [assoc_cons] at h
    split at h
    · rename_i he; subst he; cases h; simp
    · exact List.mem_cons_of_mem _ (ih h)

/-- What an operation looks at is as the state has it. -/
def Sub (obs objs : List (Nat × AObj)) : Prop := ∀ id o, (id, o) ∈ obs → assoc objs id = some o

theorem froze_assoc {obs objs : List (Nat × AObj)} (hs : Sub obs objs) {id : Nat} {e : TypeId} {t : TC} {xs : List (Den t)} (h : assoc obs id = some (.arr e t xs)) : assoc ((froze obs).reverse ++ objs) id = some (.fz t xs) := by
  have key : (id, AObj.fz t xs) ∈ (froze obs).reverse := by
    rw [List.mem_reverse]
    unfold froze
    rw [List.mem_filterMap]
    exact ⟨(id, .arr e t xs), assoc_mem h, rfl⟩
  rw [assoc_app]
  cases hx : assoc (froze obs).reverse id with
  | none => exact absurd key (assoc_none hx _)
  | some o =>
    obtain ⟨e', t', xs', rfl, hm⟩ := froze_mem (List.mem_reverse.1 (assoc_mem hx))
    have h1 := hs _ _ hm
    have h2 := hs _ _ (assoc_mem h)
    rw [h1] at h2
    cases h2
    rfl

theorem Mem.froze {obs : List (Nat × AObj)} (hm : Mem glob M0 B0 w0 w κ objs) (hM : ∀ b, M0 b → b < w.heap.size) (hs : Sub obs objs) :
    Next M0 (fun _ => false) κ κ objs ((froze obs).reverse ++ objs) w w ∧ Mem glob M0 B0 w0 w κ ((froze obs).reverse ++ objs) :=
  hm.freezeL _ _ hM (fun id o ho => by
    obtain ⟨e, t, xs, rfl, h⟩ := froze_mem ho
    exact ⟨t, xs, rfl, .inl ⟨e, hs _ _ h⟩⟩)

/-- A value whose arrays have been frozen, as a list of its own. -/
theorem settle_rep {ok : Nat → Prop} {obs objs1 : List (Nat × AObj)} (hobs : Obs w ok κ objs1) (hf : ∀ (id : Nat) (e : TypeId) (t : TC) (xs : List (Den t)), assoc obs id = some (.arr e t xs) → assoc objs1 id = some (.fz t xs))
    (hz : ∀ (id : Nat) (t : TC) (xs : List (Den t)), assoc obs id = some (.fz t xs) → assoc objs1 id = some (.fz t xs)) (harr : ∀ (id : Nat) (e : TypeId) (t : TC) (xs : List (Den t)), assoc obs id = some (.arr e t xs) → ∀ a n c, κ id = .slice a n c → 0 < n → ∃ b, a = some ⟨b, 0, none⟩)
    {v : AV} {u : Value} (h : RepV w ok κ v u) : RepV w ok κ (settle obs v) u := by
  unfold settle
  split
  · exact h
  · rename_i id
    split
    · rename_i ho
      have h1 : RepS w ok _ _ (κ id) := hobs _ _ (hf _ _ _ _ ho)
      exact (show RepS w ok _ _ u from by rw [show u = κ id from h.1]; exact h1)
    · rename_i ho
      have h1 : RepS w ok _ _ (κ id) := hobs _ _ (hz _ _ _ ho)
      exact (show RepS w ok _ _ u from by rw [show u = κ id from h.1]; exact h1)
    · exact h
  · rename_i id lo len sz
    split
    · rename_i e t xs ho
      split
      · rename_i hsz
        obtain ⟨a, n, c, a', c', hk, hn, hle, hc, rfl, hz0, haddr⟩ := h
        have h1 : RepS w ok t xs (κ id) := hobs _ _ (hf _ _ _ _ ho)
        obtain ⟨a2, c2, b, o, hk2, h2, h3, h4, h5⟩ := RepS.row h1
        rw [hk] at hk2
        cases hk2
        have hl : (List.take len (List.drop lo xs)).length = len := by simp; omega
        have : RepS w ok t (List.take len (List.drop lo xs)) (.slice a' (List.take len (List.drop lo xs)).length c') := by
          refine RepS.of_row (b := b) (o := o + lo * csize t) (by rw [hl]; exact hc) (by rw [hl]; omega) (fun hp => ?_) (drop_take_row h5)
          rw [hl] at hp
          obtain ⟨b', hb'⟩ := harr id e t xs ho a xs.length c hk (by omega)
          have := h4 (by omega)
          rw [hb'] at this
          injection this with this
          injection this with e1 e2
          subst e1
          subst e2
          rw [haddr hp b' hb', hsz, Nat.zero_add]
        rw [hl] at this
        exact this
      · exact h
    · exact h
  · exact h
end
end Go.AM
/-
  The abstract machine, part 12: operations that make memory or write it.
-/
namespace Go.AM
open Go RowKit
section
variable {P : Program} {Θ : Tab} {glob : List (Nat × AV)} {M0 B0 : Nat → Prop} {w0 w : World} {κ : Nat → Value} {objs : List (Nat × AObj)} {ok : Nat → Prop}

theorem fold_set (off : Nat) : ∀ (vs : List Value) (k : Nat) (cells : Array Value), off + k + vs.length ≤ cells.size →
    (vs.zipIdx k).foldl (fun (cs : Array Value) (p : Value × Nat) => cs.setIfInBounds (off + p.2) p.1) cells = (cells.toList.take (off + k) ++ (vs ++ cells.toList.drop (off + k + vs.length))).toArray
  | [], k, cells, h => by simp
  | v :: vs, k, cells, h => by
    simp only [List.zipIdx_cons, List.foldl_cons]
    simp only [List.length_cons] at h
    rw [fold_set off vs (k + 1) _ (by simp; omega)]
    congr 1
    have hlt : off + k < cells.toList.length := by simp; omega
    rw [Array.toList_setIfInBounds, ← Nat.add_assoc, List.take_add_one]
    simp only [List.getElem?_set_self hlt, Option.toList_some, List.take_set]
    rw [List.drop_set_of_lt (by omega)]
    have : (cells.toList.take (off + k)).set (off + k) v = cells.toList.take (off + k) := List.set_eq_of_length_le (by simp; omega)
    rw [this]
    simp [Nat.add_assoc, Nat.add_comm 1]

theorem fill_step (place : Nat → Option (Nat × Nat)) (cells : List Value) (i off size : Nat) (v : Value) (rest : List (Nat × Value)) (hp : place i = some (off, size)) (hs : v.cells.size = size) (hf : off + size ≤ cells.length) :
    Instr.fill place cells.toArray ((i, v) :: rest) = Instr.fill place (cells.take off ++ (v.cells.toList ++ cells.drop (off + size))).toArray rest := by
  subst hs
  rw [Instr.fill]
  simp only [hp]
  rw [if_neg (by simp; omega)]
  congr 1
  have h := fold_set off v.cells.toList 0 cells.toArray (by simpa using hf)
  simp only [Nat.add_zero] at h
  rw [← Array.foldl_toList, Array.toList_zipIdx]
  simpa using h

theorem splice_rep {cs ds : List AV} {us vs : List Value} (h : RepL w ok κ cs us) (k : RepL w ok κ ds vs) (off : Nat) : RepL w ok κ (splice cs off ds) (us.take off ++ (vs ++ us.drop (off + vs.length))) := by
  unfold splice
  rw [← RepL.length _ _ k]
  exact (h.take off).append (k.append (h.drop _))

/-- Parts in the model and in the machine. -/
theorem fill_rep (place : Nat → Option (Nat × Nat)) : ∀ (ps : List (Nat × Nat × AV)) (qs : List (Nat × Value)) (cs : List AV) (us : List Value) (out : List AV), RepL w ok κ cs us → (∀ u ∈ us, u.oneCell' = true) → fillA cs ps = some out →
    ps.length = qs.length → (∀ (j : Nat) (p : Nat × Nat × AV) (q : Nat × Value), ps[j]? = some p → qs[j]? = some q → place q.1 = some (p.1, p.2.1) ∧ RepV w ok κ p.2.2 q.2) →
    ∃ vs, Instr.fill place us.toArray qs = some (List.toArray vs) ∧ RepL w ok κ out vs ∧ (∀ u ∈ vs, u.oneCell' = true) ∧ vs.length = us.length
  | [], [], cs, us, out, h, h1, hf, _, _ => by
    simp only [fillA, Option.some.injEq] at hf
    subst hf
    exact ⟨us, rfl, h, h1, rfl⟩
  | [], _ :: _, _, _, _, _, _, _, hl, _ => by simp at hl
  | _ :: _, [], _, _, _, _, _, _, hl, _ => by simp at hl
  | (off, size, v) :: ps, (i, u) :: qs, cs, us, out, h, h1, hf, hl, hp => by
    obtain ⟨hpl, hv⟩ := hp 0 _ _ rfl rfl
    simp only [fillA] at hf
    split at hf
    · rename_i hc
      simp only [Bool.and_eq_true, beq_iff_eq, decide_eq_true_eq] at hc
      obtain ⟨hcells, hone⟩ := cellsAV_rep hv hc.2
      have hlen := RepL.length _ _ hcells
      have hul := RepL.length _ _ h
      have hsz : u.cells.size = size := by rw [← hc.1.1, ← hlen]; simp
      rw [fill_step place us i off size u qs hpl hsz (by omega)]
      have hsp := splice_rep h hcells off
      have hlen2 : u.cells.toList.length = size := by simpa using hsz
      rw [hlen2] at hsp
      obtain ⟨vs, k1, k2, k3, k4⟩ := fill_rep place ps qs _ _ out hsp (fun x hx => by
        simp only [List.mem_append] at hx
        rcases hx with hx | hx | hx
        · exact h1 x (List.mem_of_mem_take hx)
        · exact hone x hx
        · exact h1 x (List.mem_of_mem_drop hx)) hf (by simpa using hl) (fun j p q hj hq => hp (j + 1) p q (by simpa using hj) (by simpa using hq))
      refine ⟨vs, k1, k2, k3, ?_⟩
      rw [k4]
      simp only [List.length_append, List.length_take, List.length_drop, hlen2]
      omega
    · cases hf

/-- What an operation leaves. -/
structure Done (glob : List (Nat × AV)) (M0 B0 : Nat → Prop) (w0 : World) (N : Nat → Bool) (κ : Nat → Value) (objs : List (Nat × AObj)) (w : World) (c : COut) (κ' : Nat → Value) (u : Value) (w' : World) : Prop where
  next : Next M0 N κ κ' objs (putObjs objs c.objs) w w'
  mem : Mem glob M0 B0 w0 w' κ' (putObjs objs c.objs)
  val : RepV w' (okB M0 κ' (putObjs objs c.objs)) κ' c.dst u

theorem below_alloc1 (w : World) (o : Obj) : Below w.heap.size w (w.alloc o) := (Below.refl _ _).alloc (Nat.le_refl _) o

theorem zero_one {l : List Value} (h : l.all scOKb = true) : ∀ u ∈ l, u.oneCell' = true := by
  intro u hu
  have := List.all_eq_true.1 h u hu
  cases u <;> simp_all [scOKb, Value.oneCell']

/-- A new variable. -/
theorem done_var (hm : Mem glob M0 B0 w0 w κ objs) (hM : ∀ b, M0 b → b < w.heap.size) {N : Nat → Bool} {nid : Nat} (hN : N nid = true) (hl : Lack N glob objs) {T : TypeId} {cs : List AV} {us : List Value} {vc : Bool} (hr : RepL w (okB M0 κ objs) κ cs us) (h1 : ∀ u ∈ us, u.oneCell' = true)
    (hlc : lacksL N cs = true) :
    Done glob M0 B0 w0 N κ objs w ⟨vc, .ptr nid 0, [(nid, .var T cs)]⟩ (upd κ nid (.pointer (some ⟨w.heap.size, 0, none⟩))) (.pointer (some ⟨w.heap.size, 0, none⟩)) (w.alloc (.cells us.toArray T)) := by
  have h := hm.add hM (below_alloc1 w (.cells us.toArray T)) (v := .pointer (some ⟨w.heap.size, 0, none⟩)) (o := .var T cs) hN hl (fun b _ hb => by simp [blkOf] at hb; omega)
    (fun ok' _ hx => ⟨w.heap.size, us, upd_same _ _ _, heap_alloc_new w _, RepL.kap (N := N) (fun id hid => upd_other κ _ (fun h => by subst h; rw [hid] at hN; cases hN)) cs us hlc (RepL.mono hx cs us hr), h1⟩)
  exact ⟨h.1, h.2, ⟨w.heap.size, upd_same _ _ _, rfl⟩⟩

theorem done_pure (hm : Mem glob M0 B0 w0 w κ objs) {N : Nat → Bool} {vc : Bool} {dst : AV} {u : Value} (h : RepV w (okB M0 κ objs) κ dst u) : Done glob M0 B0 w0 N κ objs w ⟨vc, dst, []⟩ κ u w :=
  ⟨⟨fun _ _ => rfl, fun _ _ _ => rfl, fun _ h => .inl h, rfl, rfl, rfl, Nat.le_refl _⟩, hm, h⟩

theorem box_run (T : TypeId) (v : Value) : (Instr.box T v).run P w = .ok (.pointer (some ⟨w.heap.size, 0, none⟩)) (w.alloc (.cells v.cells T)) := rfl

theorem alloc_run (hΘ : TabOK P Θ) {T : TypeId} {ti : TI} (h : assoc Θ T = some ti) : (Instr.alloc T true (.tuple #[])).run P w = .ok (.pointer (some ⟨w.heap.size, 0, none⟩)) (w.alloc (.cells ti.zero.toArray T)) := by
  obtain ⟨i, z, h1, _, _, h4, h5, _⟩ := (hΘ T ti h).info
  have hz : (zeroValue T).run P w = .ok z w := by simp [zeroValue, typeInfo, h1, h4, Sem.run_bind]
  unfold Instr.alloc
  simp only [Sem.run_bind, hz, Result.andThen_ok]
  have : z.cells = ti.zero.toArray := by rw [← h5]
  simp [newVar, newRow, Sem.run_bind, this]
end
end Go.AM
/-
  The abstract machine, part 13: stores.
-/
namespace Go.AM
open Go RowKit
section
variable {P : Program} {Θ : Tab} {glob : List (Nat × AV)} {M0 B0 : Nat → Prop} {w0 w : World} {κ : Nat → Value} {objs : List (Nat × AObj)} {ok : Nat → Prop}

theorem Next.more {N : Nat → Bool} {κ' : Nat → Value} {objs' : List (Nat × AObj)} {w' : World} (h : Next M0 (fun _ => false) κ κ' objs objs' w w') : Next M0 N κ κ' objs objs' w w' :=
  ⟨fun id _ => h.kap id rfl, h.same, h.live, h.os, h.tape, h.output, h.size⟩
theorem Next.trans1 {N : Nat → Bool} {κ' : Nat → Value} {objs1 objs2 : List (Nat × AObj)} {w' : World} (h : Next M0 (fun _ => false) κ κ objs objs1 w w) (k : Next M0 N κ κ' objs1 objs2 w w') : Next M0 N κ κ' objs objs2 w w' := h.trans0 k

theorem storeVar_done (hm : Mem glob M0 B0 w0 w κ objs) (hM : ∀ b, M0 b → b < w.heap.size) (hΘ : TabOK P Θ) {T : TypeId} {ti : TI} (hti : assoc Θ T = some ti) {N : Nat → Bool} {id off : Nat} {t : TypeId} {cs ds : List AV} (hid : assoc objs id = some (.var t cs))
    {a v : AV} {ua u : Value} (ha : RepV w (okB M0 κ objs) κ (.ptr id off) ua) (hv : RepV w (okB M0 κ objs) κ v u) (hds : ds = cellsAV v) (hl : ds.length = ti.size) (hc : ds.all cellAV = true) (hf : off + ds.length ≤ cs.length) {vc : Bool} :
    ∃ w', (Instr.storeAt T ua u).run P w = .ok () w' ∧ Done glob M0 B0 w0 N κ objs w ⟨vc, .junk, [(id, .var t (splice cs off ds))]⟩ κ undef w' := by
  subst hds
  obtain ⟨b, us, h1, h2, h3, h4⟩ := hm.each id _ hid
  obtain ⟨b', h5, rfl⟩ := ha
  rw [h1] at h5
  cases h5
  obtain ⟨hcells, hone⟩ := cellsAV_rep hv hc
  have hlen := RepL.length _ _ hcells
  have hul := RepL.length _ _ h3
  have hrun := run_storeVar_ti (P := P) (hΘ T ti hti) (b := b) (o := off) (v := u) (by rw [← hl, ← hlen]; simp) hone h2 (by simp at hlen ⊢; omega)
  refine ⟨_, hrun, ?_⟩
  have hp := hm.put (w' := w.setRow b ((us.toArray).toList.take off ++ u.cells.toList ++ (us.toArray).toList.drop (off + u.cells.size)).toArray) hM (id := id) (o := .var t cs) (o' := .var t (splice cs off (cellsAV v))) (b := b) hid rfl rfl (by rw [h1]; rfl) (by simp) rfl rfl rfl (fun k hk => setRow_other w b k _ hk)
    (fun ok' hok hx => ⟨b, us.take off ++ (u.cells.toList ++ us.drop (off + u.cells.toList.length)), h1, by
      rw [setRow_heap w b _ _ t (0, 0) h2]; simp, splice_rep (RepL.mono hx cs us h3) (RepL.mono hx _ _ hcells) off, fun x hx' => by
      simp only [List.mem_append] at hx'
      rcases hx' with h | h | h
      · exact h4 x (List.mem_of_mem_take h)
      · exact hone x h
      · exact h4 x (List.mem_of_mem_drop h)⟩)
  exact ⟨hp.1.more, hp.2, trivial⟩

theorem chunk_set {sz idx off j : Nat} {cells ds : List Value} {n : Nat} (hl : cells.length = n * sz) (hi : idx < n) (hj : j < n) (hf : off + ds.length ≤ sz) :
    ((cells.take (idx * sz + off) ++ (ds ++ cells.drop (idx * sz + off + ds.length))).drop (j * sz)).take sz =
      if j = idx then (((cells.drop (idx * sz)).take sz).take off ++ (ds ++ ((cells.drop (idx * sz)).take sz).drop (off + ds.length))) else (cells.drop (j * sz)).take sz := by
  have hin : idx * sz + sz ≤ cells.length := by rw [hl, ← Nat.succ_mul]; exact Nat.mul_le_mul_right _ hi
  have hjn : j * sz + sz ≤ cells.length := by rw [hl, ← Nat.succ_mul]; exact Nat.mul_le_mul_right _ hj
  have hsplit : ∀ i : Nat, (cells.take (idx * sz + off) ++ (ds ++ cells.drop (idx * sz + off + ds.length)))[i]? = if i < idx * sz + off then cells[i]? else if i < idx * sz + off + ds.length then ds[i - (idx * sz + off)]? else cells[i]? := by
    intro i
    have h1 : (cells.take (idx * sz + off)).length = idx * sz + off := by simp; omega
    by_cases hi1 : i < idx * sz + off
    · rw [List.getElem?_append_left (by omega), List.getElem?_take, if_pos hi1, if_pos hi1]
    · rw [List.getElem?_append_right (by omega), h1, if_neg hi1]
      by_cases hi2 : i < idx * sz + off + ds.length
      · rw [List.getElem?_append_left (by omega), if_pos hi2]
      · rw [List.getElem?_append_right (by omega), if_neg hi2, List.getElem?_drop]
        congr 1; omega
  apply List.ext_getElem?
  intro i
  rw [List.getElem?_take, List.getElem?_drop, hsplit]
  by_cases he : j = idx
  · subst he
    rw [if_pos rfl]
    have h1 : (((cells.drop (j * sz)).take sz).take off).length = off := by simp; omega
    by_cases hi0 : i < sz
    · rw [if_pos hi0]
      by_cases hi1 : i < off
      · rw [if_pos (by omega), List.getElem?_append_left (by omega), List.getElem?_take, if_pos hi1, List.getElem?_take, if_pos hi0, List.getElem?_drop]
      · rw [if_neg (by omega), List.getElem?_append_right (by omega), h1]
        by_cases hi2 : i < off + ds.length
        · rw [if_pos (by omega), List.getElem?_append_left (by omega)]
          congr 1; omega
        · rw [if_neg (by omega), List.getElem?_append_right (by omega), List.getElem?_drop, List.getElem?_take, if_pos (by omega), List.getElem?_drop]
          congr 1; omega
    · rw [if_neg hi0]
      symm
      apply List.getElem?_eq_none
      simp
      omega
  · rw [if_neg he, List.getElem?_take, List.getElem?_drop]
    split
    · rename_i hi0
      rcases Nat.lt_or_gt_of_ne he with h | h
      · have : j * sz + sz ≤ idx * sz := by rw [← Nat.succ_mul]; exact Nat.mul_le_mul_right _ h
        rw [if_pos (by omega)]
      · have : idx * sz + sz ≤ j * sz := by rw [← Nat.succ_mul]; exact Nat.mul_le_mul_right _ h
        rw [if_neg (by omega), if_neg (by omega)]
    · rfl

theorem but_mem {id i : Nat} {o : AObj} {obs : List (Nat × AObj)} (h : (i, o) ∈ but id obs) : i ≠ id ∧ (i, o) ∈ obs := by
  unfold but at h
  rw [List.mem_filter] at h
  exact ⟨by simpa using h.2, h.1⟩
theorem Sub.but {obs : List (Nat × AObj)} (h : Sub obs objs) (id : Nat) : Sub (but id obs) objs := fun i o ho => h i o (but_mem ho).2
theorem froze_but (id : Nat) (obs : List (Nat × AObj)) : assoc (froze (but id obs)).reverse id = none := by
  cases h : assoc (froze (but id obs)).reverse id with
  | none => rfl
  | some o =>
    obtain ⟨e, t, xs, _, hm⟩ := froze_mem (List.mem_reverse.1 (assoc_mem h))
    exact absurd rfl (but_mem hm).1

theorem RepL.map {κ : Nat → Value} {f : AV → AV} (hf : ∀ v u, RepV w ok κ v u → RepV w ok κ (f v) u) : ∀ (cs : List AV) (us : List Value), RepL w ok κ cs us → RepL w ok κ (cs.map f) us
  | [], us, h => h
  | c :: cs, us, h => by obtain ⟨u, us', rfl, h1, h2⟩ := h; exact ⟨u, us', rfl, hf c u h1, RepL.map hf cs us' h2⟩

/-- The settled values behind a freezing. -/
theorem settle_of (hm : Mem glob M0 B0 w0 w κ objs) (hM : ∀ b, M0 b → b < w.heap.size) {obs : List (Nat × AObj)} (hs : Sub obs objs) {v : AV} {u : Value} (h : RepV w (okB M0 κ objs) κ v u) :
    RepV w (okB M0 κ ((froze obs).reverse ++ objs)) κ (settle obs v) u := by
  obtain ⟨n1, m1⟩ := hm.froze hM hs
  refine settle_rep (objs1 := (froze obs).reverse ++ objs) (fun id o ho => m1.each id o ho) (fun id e t xs ho => froze_assoc hs ho) (fun id t xs ho => ?_) (fun id e t xs ho a n c hk hn => ?_) (RepV.mono n1.ext v u h)
  · rw [assoc_app]
    cases hx : assoc (froze obs).reverse id with
    | none => exact hs _ _ (assoc_mem ho)
    | some o =>
      obtain ⟨e', t', xs', _, hmem⟩ := froze_mem (List.mem_reverse.1 (assoc_mem hx))
      have h1 := hs _ _ hmem
      have h2 := hs _ _ (assoc_mem ho)
      rw [h1] at h2
      cases h2
  · obtain ⟨a', c', hk', _, _, hb⟩ := arr_header (hm.each id _ (hs _ _ (assoc_mem ho)))
    rw [hk] at hk'
    cases hk'
    exact hb hn

theorem take_splice {A B ds : List Value} {o n : Nat} (hn : A.length = n) (h : o + ds.length ≤ n) : (((A ++ B).take o ++ ds) ++ (A ++ B).drop (o + ds.length)).take n = A.take o ++ (ds ++ A.drop (o + ds.length)) := by
  have e1 : (A ++ B).take o = A.take o := List.take_append_of_le_length (by omega)
  have e2 : (A ++ B).drop (o + ds.length) = A.drop (o + ds.length) ++ B := List.drop_append_of_le_length (by omega)
  rw [e1, e2, ← List.append_assoc, List.take_left' (by simp; omega), List.append_assoc]

theorem storeAp_done (hm : Mem glob M0 B0 w0 w κ objs) (hM : ∀ b, M0 b → b < w.heap.size) (hΘ : TabOK P Θ) {T : TypeId} {ti : TI} (hti : assoc Θ T = some ti) {N : Nat → Bool} {obs : List (Nat × AObj)} (hs : Sub obs objs) {id idx off : Nat} {e : TypeId} {t : TC} {xs : List (Den t)}
    (hid : assoc obs id = some (.arr e t xs)) {v : AV} {ua u : Value} (ha : RepV w (okB M0 κ objs) κ (.ap id idx off (csize t)) ua) (hv : RepV w (okB M0 κ objs) κ v u) (hl : (cellsAV v).length = ti.size) (hc : (cellsAV v).all cellAV = true)
    (hf : off + (cellsAV v).length ≤ csize t) {y : Den t} (hy : unembC t (splice (embC t (xs.getD idx (dflt t))) off ((cellsAV v).map (settle (but id obs)))) = some y) {vc : Bool} (hlt : idx < xs.length) :
    ∃ w', (Instr.storeAt T ua u).run P w = .ok () w' ∧ Done glob M0 B0 w0 N κ objs w ⟨vc, .junk, froze (but id obs) ++ [(id, .arr e t (xs.set idx y))]⟩ κ undef w' := by
  obtain ⟨n1, m1⟩ := hm.froze hM (hs.but id)
  have hid1 : assoc ((froze (but id obs)).reverse ++ objs) id = some (.arr e t xs) := by
    rw [assoc_app, froze_but]; exact hs _ _ (assoc_mem hid)
  obtain ⟨cells, hown, hle, h1, helt⟩ := m1.each id _ hid1
  obtain ⟨b, n, c, hk, rfl⟩ := ha
  obtain ⟨hcells, hone⟩ := cellsAV_rep hv hc
  have hset : RepL w (okB M0 κ ((froze (but id obs)).reverse ++ objs)) κ ((cellsAV v).map (settle (but id obs))) u.cells.toList := by
    have : ∀ (cs : List AV) (us : List Value), RepL w (okB M0 κ objs) κ cs us → RepL w (okB M0 κ ((froze (but id obs)).reverse ++ objs)) κ (cs.map (settle (but id obs))) us := by
      intro cs
      induction cs with
      | nil => intro us h; exact h
      | cons x cs ih => intro us h; obtain ⟨u', us', rfl, h2, h3⟩ := h; exact ⟨u', us', rfl, settle_of hm hM (hs.but id) h2, ih us' h3⟩
    exact this _ _ hcells
  have hlen := RepL.length _ _ hcells
  rcases hown.2 with ⟨hv', _⟩ | ⟨g, cap, cur, hv', _, hg, hnc, hcm, hcs, htake⟩
  · rw [hk] at hv'; cases hv'
  · rw [hk] at hv'
    injection hv' with e1 e2 e3
    injection e1 with e1
    injection e1 with e1 _ _
    subst e1 e2 e3
    have hcl : cells.length = xs.length * csize t := hown.1
    have hin : idx * csize t + csize t ≤ xs.length * csize t := by rw [← Nat.succ_mul]; exact Nat.mul_le_mul_right _ hlt
    have hcapn : xs.length * csize t ≤ c * csize t := Nat.mul_le_mul_right _ hnc
    have hul : u.cells.size = ti.size := by rw [← hl, ← hlen]; simp
    have hrun := run_storeVar_ti (P := P) (hΘ T ti hti) (b := b) (o := idx * csize t + off) (v := u) hul hone hg (by rw [hcs]; simp at hlen ⊢; omega)
    refine ⟨_, hrun, ?_⟩
    have hus : u.cells.toList.length = u.cells.size := by simp
    have hcut : cur.toList = cells ++ cur.toList.drop (xs.length * csize t) := by rw [← htake, List.take_append_drop]
    have hp := m1.put (w' := w.setRow b (cur.toList.take (idx * csize t + off) ++ u.cells.toList ++ cur.toList.drop (idx * csize t + off + u.cells.size)).toArray) hM (id := id) (o := .arr e t xs) (o' := .arr e t (xs.set idx y)) (b := b) hid1 rfl rfl (by rw [hk]; rfl) (by simp) rfl rfl rfl
      (fun k hk => setRow_other w b k _ hk)
      (fun ok' hok hx => by
        refine ⟨cells.take (idx * csize t + off) ++ (u.cells.toList ++ cells.drop (idx * csize t + off + u.cells.toList.length)), ⟨?_, .inr ⟨b, c, _, by rw [hk, List.length_set], Nat.zero_le _, setRow_heap w b _ _ e (0, 0) hg, by rw [List.length_set]; exact hnc, hcm, ?_, ?_⟩⟩, by rw [List.length_set]; exact hle, fun x hx' => ?_, fun j x hj => ?_⟩
        · simp only [List.length_append, List.length_take, List.length_drop, List.length_set, hcl]; omega
        · have := hcut
          simp only [List.size_toArray, List.length_append, List.length_take, List.length_drop, Array.length_toList, hcs, hus]; omega
        · rw [List.length_set, ← hus]
          have hd : idx * csize t + off + u.cells.toList.length ≤ xs.length * csize t := by rw [hlen]; omega
          have := take_splice (A := cells) (B := cur.toList.drop (xs.length * csize t)) (ds := u.cells.toList) hcl hd
          rw [← hcut] at this
          exact this
        · simp only [List.mem_append] at hx'
          rcases hx' with h | h | h
          · exact h1 x (List.mem_of_mem_take h)
          · exact hone x h
          · exact h1 x (List.mem_of_mem_drop h)
        · have hjl : j < xs.length := by
            have := (List.getElem?_eq_some_iff.1 hj).1
            simpa using this
          rw [chunk_set hcl hlt hjl (by simp at hlen ⊢; omega)]
          rw [List.getElem?_set] at hj
          by_cases he : idx = j
          · subst he
            rw [if_pos rfl, if_pos hlt] at hj
            cases hj
            rw [if_pos rfl]
            have h0 := (helt idx _ (getD_some (d := dflt t) hlt)).mono hx
            exact unembC_rep hy (splice_rep (embC_rep (κ := κ) h0) (RepL.mono hx _ _ hset) off)
          · rw [if_neg he] at hj
            rw [if_neg (fun h => he h.symm)]
            exact (helt j x hj).mono hx)
    have e0 : putObjs objs (froze (but id obs) ++ [(id, .arr e t (xs.set idx y))]) = (id, .arr e t (xs.set idx y)) :: ((froze (but id obs)).reverse ++ objs) := by simp [putObjs]
    refine ⟨?_, ?_, trivial⟩
    · rw [e0]; exact n1.trans1 hp.1.more
    · rw [e0]; exact hp.2
end
end Go.AM
/-
  The abstract machine, part 14: append, and slices that are made.
-/
namespace Go.AM
open Go RowKit
section
variable {P : Program} {Θ : Tab} {glob : List (Nat × AV)} {M0 B0 : Nat → Prop} {w0 w w' : World} {κ : Nat → Value} {objs : List (Nat × AObj)} {ok : Nat → Prop}

/-- An array that has grown: under a new number; the elder one is gone. -/
theorem Mem.regrow (hm : Mem glob M0 B0 w0 w κ objs) (hM : ∀ b, M0 b → b < w.heap.size) {N : Nat → Bool} {nid id : Nat} (hN : N nid = true) (hl : Lack N glob objs) {e : TypeId} {t : TC} {xs ys : List (Den t)} (hid : assoc objs id = some (.arr e t xs)) {v' : Value}
    (hg : w.grownBy w' (blkOf (κ id))) (hb : blkOf v' = blkOf (κ id) ∨ blkOf v' = some w.heap.size)
    (ho : ∀ ok', (∀ k, okB M0 κ objs k → k < w.heap.size → ok' k) → Ext w w' (okB M0 κ objs) ok' → ObjR w' ok' (upd κ nid v') nid (.arr e t ys)) :
    Next M0 N κ (upd κ nid v') objs ((nid, .arr e t ys) :: (id, .gone) :: objs) w w' ∧ Mem glob M0 B0 w0 w' (upd κ nid v') ((nid, .arr e t ys) :: (id, .gone) :: objs) := by
  have hne : ∀ i, N i = false → i ≠ nid := fun i h he => by subst he; rw [h] at hN; cases hN
  have hidn : id ≠ nid := hne id (hl.ids id _ hid)
  have hlv : ∀ b, blkOf (κ id) = some b → live κ objs b := fun b hb => ⟨id, _, hid, rfl, hb⟩
  have old : ∀ i p, assoc ((nid, AObj.arr e t ys) :: (id, .gone) :: objs) i = some p → mutO p = true → (i = nid) ∨ (i ≠ nid ∧ i ≠ id ∧ assoc objs i = some p) := by
    intro i p hp hmu
    rw [assoc_cons] at hp
    split at hp
    · rename_i h; exact .inl h.symm
    · rename_i h
      rw [assoc_cons] at hp
      split at hp
      · cases hp; cases hmu
      · rename_i h2; exact .inr ⟨fun h' => h h'.symm, fun h' => h2 h'.symm, hp⟩
  have hn : Next M0 N κ (upd κ nid v') objs ((nid, .arr e t ys) :: (id, .gone) :: objs) w w' := by
    refine ⟨fun i hi => upd_other κ v' (hne i hi), fun b hlt hnl => hg.block b hlt (fun h => hnl (hlv b h.symm)), fun b hl' => ?_, hg.os, hg.tape, hg.output, hg.size⟩
    obtain ⟨i, p, h1, h2, h3⟩ := hl'
    rcases old i p h1 h2 with h | ⟨h, h', h''⟩
    · subst h
      rw [upd_same] at h3
      rcases hb with hb | hb
      · rw [hb] at h3; exact .inl (hlv b h3)
      · rw [hb] at h3; injection h3 with h3; exact .inr (by omega)
    · rw [upd_other κ v' h] at h3
      exact .inl ⟨i, p, h'', h2, h3⟩
  refine ⟨hn, hm.next hn hM (fun i p hp => ?_) (fun i j p q b hi hj hpi hpj hbi hbj => ?_) (fun g x hg => hl.glob g x hg)⟩
  · by_cases hmu : mutO p = true
    · rcases old i p hp hmu with h | ⟨h, h', h''⟩
      · subst h
        rw [assoc_cons, if_pos rfl] at hp
        cases hp
        exact .inr (ho _ (fun k hk hlt => hn.ext.still k hk hlt) hn.ext)
      · refine .inl ⟨h'', hl.ids i p h'', hl.objs i p h'', fun _ b hbk => hg.block b (hm.live_lt ⟨i, p, h'', hmu, hbk⟩) (fun hk => ?_)⟩
        exact h' (hm.sep i id p _ b h'' hid hmu rfl hbk hk.symm)
    · rw [assoc_cons] at hp
      split at hp
      · cases hp; exact absurd rfl hmu
      · rw [assoc_cons] at hp
        split at hp
        · cases hp; exact .inr trivial
        · exact .inl ⟨hp, hl.ids i p hp, hl.objs i p hp, fun h => absurd h hmu⟩
  · rcases old i p hi hpi with h | ⟨h, h', h''⟩ <;> rcases old j q hj hpj with k | ⟨k, k', k''⟩
    · rw [h, k]
    · subst h
      rw [upd_same] at hbi
      rw [upd_other κ v' k] at hbj
      rcases hb with hb | hb
      · rw [hb] at hbi; exact absurd (hm.sep j id q _ b k'' hid hpj rfl hbj hbi) k'
      · rw [hb] at hbi
        injection hbi with hbi
        have := hm.live_lt ⟨j, q, k'', hpj, hbj⟩
        omega
    · subst k
      rw [upd_same] at hbj
      rw [upd_other κ v' h] at hbi
      rcases hb with hb | hb
      · rw [hb] at hbj; exact absurd (hm.sep i id p _ b h'' hid hpi rfl hbi hbj) h'
      · rw [hb] at hbj
        injection hbj with hbj
        have := hm.live_lt ⟨i, p, h'', hpi, hbi⟩
        omega
    · rw [upd_other κ v' h] at hbi
      rw [upd_other κ v' k] at hbj
      exact hm.sep i j p q b h'' k'' hpi hpj hbi hbj

/-- The value u is a slice over cells that are ys. -/
def CellsOf (w : World) (ok : Nat → Prop) (t : TC) (ys : List (Den t)) (u : Value) : Prop :=
  ∃ (a : Option Addr) (c : Nat) (us : List Value), u = .slice a ys.length c ∧ us.length = ys.length * csize t ∧ ys.length ≤ 140737488355328 ∧ (∀ u ∈ us, u.oneCell' = true) ∧
    (∀ (j : Nat) (x : Den t), ys[j]? = some x → RepC w ok t x ((us.drop (j * csize t)).take (csize t))) ∧
    (0 < ys.length → ∃ b o, a = some ⟨b, o, none⟩ ∧ ∀ (i : Nat) (v : Value), us[i]? = some v → w.cell? ⟨b, o + i, none⟩ = some v)

theorem cells_one {t : TC} (ys : List (Den t)) (us : List Value) (h1 : us.length = ys.length * csize t) (h3 : ∀ (j : Nat) (x : Den t), ys[j]? = some x → RepC w ok t x ((us.drop (j * csize t)).take (csize t))) : ∀ u ∈ us, u.oneCell' = true := by
  have hr := flatMap_rep (κ := fun _ => undef) ys us h1 h3
  have hc : (cellsAV (.agg (ys.flatMap (embC t)))).all cellAV = true := by
    simp only [cellsAV, List.all_flatMap, List.all_eq_true]
    intro y _ z hz
    have : (embC t y).all cellAV = true := by cases t <;> rfl
    exact List.all_eq_true.1 this z hz
  have := (cellsAV_rep (v := .agg (ys.flatMap (embC t))) (u := .agg us.toArray) ⟨us, rfl, hr⟩ hc).2
  simpa [Value.cells] using this

theorem cells_of_S {t : TC} {ys : List (Den t)} {u : Value} (hs : RepS w ok t ys u) : CellsOf w ok t ys u := by
  obtain ⟨a, c, b, o, rfl, h1, h2, h3, h4⟩ := RepS.row hs
  obtain ⟨us, k1, k2, k3⟩ := row_cells ys b o h4
  exact ⟨a, c, us, rfl, k1, h2, cells_one ys us k1 k3, k3, fun hp => ⟨b, o, h3 hp, k2⟩⟩

/-- What is read behind an append: the cells, and what they are. -/
theorem read_cells {obs : List (Nat × AObj)} (hobs : Obs w ok κ obs) {t : TC} {x : AV} {u : Value} {ys : List (Den t)} (h : unS t (settle obs x) = some ys) (hx : RepV w ok κ x u) : CellsOf w ok t ys u := by
  have unsl : ∀ (t' : TC) (xs : List (Den t')), unS t (.sl t' xs) = some ys → ∃ h : t' = t, (h ▸ xs : List (Den t)) = ys := by
    intro t' xs h
    simp only [unS] at h
    split at h
    · rename_i he; exact ⟨he, by injection h⟩
    · cases h
  unfold settle at h
  split at h
  · exact cells_of_S (unS_rep h hx)
  · rename_i id
    split at h
    · rename_i e t' xs ho
      obtain ⟨he, hy⟩ := unsl _ _ h
      subst he
      subst hy
      obtain ⟨cells, h1, h2, h3, h4⟩ := hobs _ _ ho
      obtain ⟨a, c, hk, _, _, hb⟩ := arr_header (hobs _ _ ho)
      refine ⟨a, c, cells, hx.1.trans hk, h1.1, h2, h3, h4, fun hp => ?_⟩
      obtain ⟨b, rfl⟩ := hb hp
      exact ⟨b, 0, rfl, fun i v hv => by have := h1.cells (g := b) (by rw [hk]; rfl) i v hv; rwa [addr_add] at this⟩
    · rename_i t' xs ho
      obtain ⟨he, hy⟩ := unsl _ _ h
      subst he
      subst hy
      have : RepS w ok t' xs (κ id) := hobs _ _ ho
      rw [hx.1]
      exact cells_of_S this
    · simp [unS] at h
  · rename_i id lo len sz
    split at h
    · rename_i e t' xs ho
      split at h
      · rename_i hsz
        obtain ⟨he, hy⟩ := unsl _ _ h
        subst he
        subst hy
        obtain ⟨cells, h1, h2, h3, h4⟩ := hobs _ _ ho
        obtain ⟨a, c, hk, _, _, hb⟩ := arr_header (hobs _ _ ho)
        obtain ⟨a2, n, c2, a', c', hk2, hm, hle, hc, rfl, _, haddr⟩ := hx
        rw [hk] at hk2
        cases hk2
        have hll : (List.take len (List.drop lo xs)).length = len := by simp; omega
        have hcl : cells.length = xs.length * csize t' := h1.1
        have hmul : lo * csize t' + len * csize t' ≤ xs.length * csize t' := by rw [← Nat.add_mul]; exact Nat.mul_le_mul_right _ hle
        have hk1 : ((cells.drop (lo * csize t')).take (len * csize t')).length = (List.take len (List.drop lo xs)).length * csize t' := by rw [hll]; simp; omega
        have hk3 : ∀ (j : Nat) (x : Den t'), (List.take len (List.drop lo xs))[j]? = some x → RepC w ok t' x ((((cells.drop (lo * csize t')).take (len * csize t')).drop (j * csize t')).take (csize t')) := by
          intro j x hj
          have hjl : j < len := by
            have := (List.getElem?_eq_some_iff.1 hj).1
            rw [hll] at this; exact this
          rw [List.getElem?_take, if_pos hjl, List.getElem?_drop] at hj
          have := h4 _ x hj
          have hj2 : j * csize t' + csize t' ≤ len * csize t' := by rw [← Nat.succ_mul]; exact Nat.mul_le_mul_right _ hjl
          rw [List.drop_take, List.take_take, Nat.min_eq_left (by omega), List.drop_drop, ← Nat.add_mul]
          exact this
        refine ⟨a', c', (cells.drop (lo * csize t')).take (len * csize t'), by rw [hll], hk1, by rw [hll]; omega, cells_one _ _ hk1 hk3, hk3, fun hp => ?_⟩
        rw [hll] at hp
        obtain ⟨b, rfl⟩ := hb (by omega)
        refine ⟨b, lo * sz, haddr hp b rfl, fun i v hv => ?_⟩
        have hil : i < len * csize t' := by
          have := (List.getElem?_eq_some_iff.1 hv).1
          simp at this; omega
        rw [List.getElem?_take, if_pos hil, List.getElem?_drop] at hv
        have := h1.cells (g := b) (by rw [hk]; rfl) _ v hv
        rw [addr_add, Nat.zero_add] at this
        rw [hsz]; exact this
      · simp [unS] at h
    · simp [unS] at h
  · exact cells_of_S (unS_rep h hx)

theorem append_call {T T2 ty : TypeId} {u v : Value} {r : Value} (h : (Builtin.append_ #[T, T2] ty #[u, v]).run P w = .ok r w') : (Builtin.append_ #[T, T2] ty #[u, v]).run P w = .ok r w' := h

theorem arr_cells_of {e : TypeId} {t : TC} {xs ys : List (Den t)} {nid : Nat} {v' : Value} {ok ok' : Nat → Prop} {cells us : List Value} (hx : Ext w w' ok ok') (hown : w'.ownsRow 0 e (csize t) v' (xs.length + ys.length) (cells ++ us))
    (hcl : cells.length = xs.length * csize t) (hle : xs.length + ys.length ≤ 140737488355328) (h1 : ∀ u ∈ cells, u.oneCell' = true) (h2 : ∀ u ∈ us, u.oneCell' = true)
    (hc : ∀ (j : Nat) (x : Den t), xs[j]? = some x → RepC w ok t x ((cells.drop (j * csize t)).take (csize t))) (hd : ∀ (j : Nat) (x : Den t), ys[j]? = some x → RepC w ok t x ((us.drop (j * csize t)).take (csize t))) :
    ObjR w' ok' (upd κ nid v') nid (.arr e t (xs ++ ys)) := by
  refine ⟨cells ++ us, by rw [upd_same, List.length_append]; exact hown, by rw [List.length_append]; exact hle, fun u hu => ?_, fun j x hj => ?_⟩
  · rcases List.mem_append.1 hu with h | h
    · exact h1 u h
    · exact h2 u h
  · by_cases hjl : j < xs.length
    · rw [List.getElem?_append_left hjl] at hj
      have := (hc j x hj).mono hx
      have hin : j * csize t + csize t ≤ xs.length * csize t := by rw [← Nat.succ_mul]; exact Nat.mul_le_mul_right _ hjl
      rw [List.drop_append_of_le_length (by omega), List.take_append_of_le_length (by simp; omega)]
      exact this
    · rw [List.getElem?_append_right (by omega)] at hj
      have := (hd _ x hj).mono hx
      have hge : xs.length * csize t ≤ j * csize t := Nat.mul_le_mul_right _ (by omega)
      rw [List.drop_append, List.drop_eq_nil_of_le (by omega), List.nil_append, hcl, ← Nat.sub_mul]
      exact this

theorem ownsRow_take {base : Nat} {e : TypeId} {size n c : Nat} {a : Option Addr} {xs : List Value} (h : w.ownsRow base e size (.slice a n c) n xs) {k : Nat} (hk : k ≤ n) (hs : 0 < size) : w.ownsRow base e size (.slice a k c) k (xs.take (k * size)) := by
  have hmul : k * size ≤ n * size := Nat.mul_le_mul_right _ hk
  refine ⟨by rw [List.length_take, h.1, Nat.min_eq_left hmul], ?_⟩
  rcases h.2 with ⟨hv, hn⟩ | ⟨g, cap, cur, hv, hb, hg, hc, hm, hcs, ht⟩
  · injection hv with e1 e2 e3
    subst e1 e3
    have : k = 0 := by omega
    subst this
    exact .inl ⟨rfl, rfl⟩
  · injection hv with e1 e2 e3
    subst e1 e3
    exact .inr ⟨g, c, cur, rfl, hb, hg, by omega, hm, hcs, by rw [← ht, List.take_take, Nat.min_eq_left hmul]⟩

/-- Where a string's bytes are put behind an array, it lies where it lay, or in the newest block. -/
theorem append_str_at (t u ty e : TypeId) (i : TypeInfo) (ht : P.underlying t = some (.slice e)) (hu : P.underlying u = some .string) (hi : P.info? e = some i) (hz : i.zero = some (.int .u8 0)) (hsize : i.size = 1) (hby : i.bytes = 1)
    (v : Value) (n : Nat) (xs : List Value) (hown : w.ownsRow 0 e 1 v n xs) (s : ByteArray) (hb : n + s.size ≤ 140737488355328) :
    ∃ v' w', (Builtin.append_ #[t, u] ty #[v, .string s]).run P w = .ok v' w' ∧ w'.ownsRow 0 e 1 v' (n + s.size) (xs ++ Lib.strCells s) ∧ w.grownBy w' v.ownBlock ∧ (v'.ownBlock = v.ownBlock ∨ v'.ownBlock = some w.heap.size) := by
  obtain ⟨v', w', k1, k2, k3, k4⟩ := Lib.run_append_own_string (P := P) w 0 t u ty e i ht hu hi hz hsize hby v n xs hown s (by simp only [maxLen]; omega) hb (Nat.zero_le _)
  refine ⟨v', w', k1, k2, k3, ?_⟩
  have hxl : xs.length = n := by simpa using hown.1
  rcases hown.2 with ⟨rfl, rfl⟩ | ⟨g, cap, cur, rfl, _, hg, hnc, _, hcs, _⟩
  · by_cases hm : s.size = 0
    · exact .inl (by rw [k4.2 ⟨rfl, hm⟩])
    · have hr := run_append_nil_string (P := P) w t u ty e i (.int .u8 0) ht hu hi hz s (by omega) (by omega) (by rw [hby]; omega)
      rw [k1] at hr
      injection hr with hr _
      exact .inr (by rw [hr]; rfl)
  · by_cases hroom : n + s.size ≤ cap
    · have hr := Lib.run_append_room_string (P := P) w t u ty e i ht hu hi hsize g n cap cur hg s hroom (by rw [hcs]; omega)
      rw [k1] at hr
      injection hr with hr _
      exact .inl (by rw [hr]; rfl)
    · have hr := Lib.run_append_grow_string (P := P) w t u ty e i (.int .u8 0) ht hu hi hz ⟨g, 0, none⟩ n cap xs (by rw [hsize]; simpa using hxl) (hown.cells (g := g) rfl) s (by omega) (by omega) (by rw [hby]; exact growslice_fits (by omega) (by omega))
      rw [k1] at hr
      injection hr with hr _
      exact .inr (by rw [hr]; rfl)

/-- append in the model, whatever is behind it: a slice of cells or a string's bytes. -/
theorem append_run (hΘ : TabOK P Θ) {T T2 e : TypeId} {ti te : TI} (hti : assoc Θ T = some ti) (htd : ti.td = .slice e) (hte : assoc Θ e = some te) {t : TC} (hsz : te.size = csize t) (hby : 0 < te.bytes) {ty : TypeId} {v u : Value} {n : Nat} {cells us : List Value} {m : Nat}
    (hown : w.ownsRow 0 e (csize t) v n cells) (hus : us.length = m * csize t) (h1 : ∀ x ∈ us, x.oneCell' = true)
    (hsrc : (∃ a c, u = .slice a m c ∧ (0 < m → ∃ b o, a = some ⟨b, o, none⟩ ∧ ∀ (i : Nat) (v : Value), us[i]? = some v → w.cell? ⟨b, o + i, none⟩ = some v) ∧ T = T2) ∨ (∃ s : ByteArray, u = .string s ∧ t = .i .u8 ∧ us = Lib.strCells s ∧ m = s.size ∧ te.bytes = 1 ∧ te.zero = [.int .u8 0] ∧ isAggT te.td = false ∧ ∃ ti2, assoc Θ T2 = some ti2 ∧ ti2.td = .str))
    (hb : (n + m) * te.bytes ≤ 140737488355328) :
    ∃ v' w', (Builtin.append_ #[T, T2] ty #[v, u]).run P w = .ok v' w' ∧ w'.ownsRow 0 e (csize t) v' (n + m) (cells ++ us) ∧ w.grownBy w' v.ownBlock ∧ (v'.ownBlock = v.ownBlock ∨ v'.ownBlock = some w.heap.size) := by
  have ht := (hΘ T ti hti).td
  rw [htd] at ht
  have hu : P.underlying T = some (.slice e) := ht
  obtain ⟨i, z, h2, h3, h4, h5, h6, h7⟩ := (hΘ e te hte).info
  have hzl : z.cells.size = te.size := by
    have := (hΘ e te hte).len
    rw [← h6] at this
    simpa using this
  have hnm : n + m ≤ 140737488355328 := Nat.le_trans (Nat.le_mul_of_pos_right _ hby) hb
  rcases hsrc with ⟨a, c, rfl, hcell, rfl⟩ | ⟨s, rfl, rfl, rfl, rfl, hb1, hz1, hna, ti2, hti2, htd2⟩
  · cases a with
    | some ad =>
      have hnews : ∀ j x, us[j]? = some x → w.cell? (ad.add j) = some x := by
        intro j x hj
        have hm : 0 < m := by
          rcases Nat.eq_zero_or_pos m with h | h
          · subst h
            have : us = [] := List.eq_nil_of_length_eq_zero (by simpa using hus)
            subst this
            simp at hj
          · exact h
        obtain ⟨b, o, e1, h⟩ := hcell hm
        cases e1
        rw [addr_add]
        exact h j x hj
      obtain ⟨v', w', k1, k2, k3, _, k5⟩ := run_append_own_at (P := P) w 0 T ty e i z (csize t) te.bytes hu h2 h5 (by rw [h3, hsz]) h4 (by rw [hzl, hsz]) (csize_pos t) v n cells hown ad m c us hus hnews h1 (by simp only [maxLen]; omega) hb (Nat.zero_le _)
      exact ⟨v', w', k1, k2, k3, k5⟩
    | none =>
      have hm : m = 0 := by
        rcases Nat.eq_zero_or_pos m with h | h
        · exact h
        · obtain ⟨b, o, e1, _⟩ := hcell h; cases e1
      subst hm
      have : us = [] := List.eq_nil_of_length_eq_zero (by simpa using hus)
      subst this
      refine ⟨v, w, ?_, by simpa using hown, ⟨rfl, rfl, rfl, Nat.le_refl _, fun _ _ _ => rfl⟩, .inl rfl⟩
      rcases hown.2 with ⟨rfl, rfl⟩ | ⟨g, cap, cur, rfl, _, _, hnc, _⟩
      · simp [Builtin.append_, run_underlying hu, sizeOf, typeInfo, h2, Builtin.lenOf, Builtin.firstCells]
      · simp [Builtin.append_, run_underlying hu, sizeOf, typeInfo, h2, Builtin.lenOf, Builtin.firstCells, hnc, storeCells]
  · have ht2 := (hΘ T2 ti2 hti2).td
    rw [htd2] at ht2
    have hu2 : P.underlying T2 = some .string := ht2
    have hz : i.zero = some (.int .u8 0) := by
      rw [h5, h7, hz1, hna]
      rfl
    have hcs : csize (.i .u8) = 1 := rfl
    rw [hcs] at hown ⊢
    exact append_str_at T T2 ty e i hu hu2 h2 hz (by rw [h3, hsz]; rfl) (by rw [h4, hb1]) v n cells hown s (by rw [hb1] at hb; omega)
end
end Go.AM
/-
  The abstract machine, part 14b: append in a state; new arrays.
-/
namespace Go.AM
open Go RowKit
section
variable {P : Program} {Θ : Tab} {glob : List (Nat × AV)} {M0 B0 : Nat → Prop} {w0 w w' : World} {κ : Nat → Value} {objs : List (Nat × AObj)} {ok : Nat → Prop}

theorem own_blk (v : Value) (h : (∃ a n c, v = .slice a n c)) : v.ownBlock = blkOf v := by
  obtain ⟨a, n, c, rfl⟩ := h
  cases a <;> rfl

theorem own_slice {base : Nat} {e : TypeId} {size n : Nat} {v : Value} {xs : List Value} (h : w.ownsRow base e size v n xs) : ∃ a c, v = .slice a n c := by
  rcases h.2 with ⟨rfl, rfl⟩ | ⟨g, cap, cur, rfl, _⟩
  · exact ⟨_, _, rfl⟩
  · exact ⟨_, _, rfl⟩

theorem Below.of_grown (h : w.grownBy w' none) : Below w.heap.size w w' := ⟨h.os, h.tape, h.output, h.size, fun k hk => h.block k hk (by simp)⟩

/-- What an append does when the head is known by its cells. -/
theorem append_go (hΘ : TabOK P Θ) (hm : Mem glob M0 B0 w0 w κ objs) {T T2 e : TypeId} {ti te : TI} (hti : assoc Θ T = some ti) (htd : ti.td = .slice e) (hte : assoc Θ e = some te) {t : TC} (hsz : te.size = csize t) (hby : 0 < te.bytes) {ty : TypeId}
    {obs : List (Nat × AObj)} (hs : Sub obs objs) {v u2 : Value} {n : Nat} {cells : List Value} (hown : w.ownsRow 0 e (csize t) v n cells) {x : AV} {ys : List (Den t)} (htl : tailOf obs t x = some ys) (hx : RepV w (okB M0 κ objs) κ x u2)
    (hstr : (if isStr x then byteTI te && strTI Θ T2 && decide (t = .i .u8) else decide (T = T2)) = true) (hb : (n + ys.length) * te.bytes ≤ 140737488355328) :
    ∃ v' w' us, (Builtin.append_ #[T, T2] ty #[v, u2]).run P w = .ok v' w' ∧ w'.ownsRow 0 e (csize t) v' (n + ys.length) (cells ++ us) ∧ w.grownBy w' v.ownBlock ∧ (v'.ownBlock = v.ownBlock ∨ v'.ownBlock = some w.heap.size) ∧
      (∀ y ∈ us, y.oneCell' = true) ∧ ∀ (j : Nat) (y : Den t), ys[j]? = some y → RepC w (okB M0 κ objs) t y ((us.drop (j * csize t)).take (csize t)) := by
  by_cases hst : isStr x = true
  · rw [if_pos hst] at hstr
    simp only [Bool.and_eq_true, decide_eq_true_eq] at hstr
    obtain ⟨⟨hb1, hs2⟩, rfl⟩ := hstr
    cases x with
    | sc vv =>
      cases vv with
      | string s =>
        obtain ⟨rfl, _⟩ := hx
        simp only [tailOf, Option.some.injEq] at htl
        subst htl
        have hl : (bytesOf s).length = s.size := by simp [bytesOf]
        have hbt : te.bytes = 1 ∧ te.zero = [.int .u8 0] ∧ isAggT te.td = false := by
          unfold byteTI at hb1
          split at hb1
          · rename_i h1 h2
            simp only [Bool.and_eq_true, decide_eq_true_eq, beq_iff_eq] at hb1
            rw [h1, h2, hb1.1]
            exact ⟨hb1.2, rfl, rfl⟩
          · cases hb1
        have hst2 : ∃ ti2, assoc Θ T2 = some ti2 ∧ ti2.td = .str := by
          unfold strTI at hs2
          split at hs2
          · rename_i ti2 h
            split at hs2
            · rename_i h'; exact ⟨ti2, h, h'⟩
            · cases hs2
          · cases hs2
        obtain ⟨ti2, h2a, h2b⟩ := hst2
        have hcl : (Lib.strCells s).length = s.size * csize (.i .u8) := by simp [Lib.strCells, csize]
        have hone : ∀ y ∈ Lib.strCells s, y.oneCell' = true := by
          intro y hy
          simp only [Lib.strCells, List.mem_map] at hy
          obtain ⟨b, _, rfl⟩ := hy
          rfl
        obtain ⟨v', w', k1, k2, k3, k4⟩ := append_run hΘ hti htd hte hsz hby (T2 := T2) (ty := ty) (u := .string s) (us := Lib.strCells s) (m := s.size) hown hcl hone
          (.inr ⟨s, rfl, rfl, rfl, rfl, hbt.1, hbt.2.1, hbt.2.2, ti2, h2a, h2b⟩) (by rw [← hl]; exact hb)
        refine ⟨v', w', Lib.strCells s, k1, by rw [hl]; exact k2, k3, k4, hone, fun j y hj => ?_⟩
        have hj' : j < s.size := by
          have := (List.getElem?_eq_some_iff.1 hj).1
          rw [hl] at this; exact this
        have : ((Lib.strCells s).drop (j * csize (.i .u8))).take (csize (.i .u8)) = [.int .u8 y] := by
          simp only [csize, Nat.mul_one]
          have hg : (Lib.strCells s)[j]? = some (.int .u8 y) := by
            simp only [bytesOf, List.getElem?_map, Option.map_eq_some_iff] at hj
            obtain ⟨b, hb, rfl⟩ := hj
            simp [Lib.strCells, hb]
          rw [List.take_one, List.head?_drop, hg]
          rfl
        rw [this]
        refine RepC.i _ _ ?_
        simp only [bytesOf, List.getElem?_map, Option.map_eq_some_iff] at hj
        obtain ⟨b, hb, rfl⟩ := hj
        have := b.toNat_lt
        simp only [IntKind.has, IntKind.min, IntKind.max, IntKind.signed, IntKind.bits]
        simp; omega
      | _ => simp [isStr] at hst
    | _ => simp [isStr] at hst
  · rw [if_neg hst] at hstr
    simp only [decide_eq_true_eq] at hstr
    subst hstr
    have htl' : unS t (settle obs x) = some ys := by
      unfold tailOf at htl
      split at htl
      · exact absurd rfl hst
      · exact htl
    obtain ⟨a, c, us, rfl, h2, h3, h4, h5, h6⟩ := read_cells (obs := obs) (fun id o ho => hm.each id o (hs _ _ (assoc_mem ho))) htl' hx
    obtain ⟨v', w', k1, k2, k3, k4⟩ := append_run hΘ hti htd hte hsz hby (T2 := T) (ty := ty) (u := .slice a ys.length c) (us := us) (m := ys.length) hown h2 h4
      (.inl ⟨a, c, rfl, h6, rfl⟩) hb
    exact ⟨v', w', us, k1, k2, k3, k4, h4, h5⟩

theorem append_done (hm : Mem glob M0 B0 w0 w κ objs) (hM : ∀ b, M0 b → b < w.heap.size) (hΘ : TabOK P Θ) {N : Nat → Bool} {nid : Nat} (hN : N nid = true) (hl : Lack N glob objs) {obs : List (Nat × AObj)} (hs : Sub obs objs) {T T2 ty : TypeId} {v x : AV} {u u2 : Value} {c : COut}
    (h : coreAppend Θ T T2 nid obs v x = some c) (hv : RepV w (okB M0 κ objs) κ v u) (hx : RepV w (okB M0 κ objs) κ x u2) (hvc : c.vc = true) :
    ∃ r w' κ', (Builtin.append_ #[T, T2] ty #[u, u2]).run P w = .ok r w' ∧ Done glob M0 B0 w0 N κ objs w c κ' r w' := by
  unfold coreAppend at h
  split at h
  · rename_i ti hti
    split at h
    · rename_i e htd
      split at h
      · rename_i te hte
        split at h
        · rename_i t htc
          split at h
          · rename_i xs id vc ys hhd htl
            rw [Option.ite_none_right_eq_some] at h
            obtain ⟨⟨hsz, hby, hstr, hid⟩, h⟩ := h
            · cases h
              simp only [Bool.and_eq_true, decide_eq_true_eq] at hvc
              obtain ⟨hvc1, hb⟩ := hvc
              have hle : xs.length + ys.length ≤ 140737488355328 := Nat.le_trans (Nat.le_mul_of_pos_right _ hby) hb
              have arr : ∀ (i : Nat) (xs0 : List (Den t)) (cells : List Value) (a : Option Addr) (n c : Nat), assoc objs i = some (.arr e t xs0) → κ i = .slice a n c → u = .slice a xs.length c →
                  w.ownsRow 0 e (csize t) u xs.length cells → (∀ y ∈ cells, y.oneCell' = true) → (∀ (j : Nat) (y : Den t), xs[j]? = some y → RepC w (okB M0 κ objs) t y ((cells.drop (j * csize t)).take (csize t))) →
                  ∃ r w' κ', (Builtin.append_ #[T, T2] ty #[u, u2]).run P w = .ok r w' ∧ Done glob M0 B0 w0 N κ objs w ⟨vc && decide ((xs.length + ys.length) * te.bytes ≤ 140737488355328), .af nid, [(i, .gone), (nid, .arr e t (xs ++ ys))]⟩ κ' r w' := by
                intro i xs0 cells a n c hi hk hu hown h1 helt
                obtain ⟨v', w', us, k1, k2, k3, k4, k5, k6⟩ := append_go hΘ hm hti htd hte hsz hby (ty := ty) hs hown htl hx hstr hb
                have hblk : u.ownBlock = blkOf (κ i) := by rw [hu, hk]; cases a <;> rfl
                have hsl := own_slice k2
                have hv'b : v'.ownBlock = blkOf v' := own_blk v' (by obtain ⟨a, c, h⟩ := hsl; exact ⟨a, _, c, h⟩)
                rw [hblk] at k3 k4
                rw [hv'b] at k4
                have hr := hm.regrow (w' := w') hM hN hl hi (ys := xs ++ ys) k3 k4 (fun ok' _ hxx => arr_cells_of hxx k2 hown.1 hle h1 k5 helt k6)
                refine ⟨v', w', upd κ nid v', k1, ⟨?_, ?_, ?_⟩⟩
                · exact hr.1
                · exact hr.2
                · obtain ⟨a, c, h⟩ := hsl
                  exact ⟨(upd_same _ _ _).symm, a, _, c, h⟩
              unfold headOf at hhd
              split at hhd
              · cases hhd
                obtain ⟨rfl, _⟩ := hv
                have hown : w.ownsRow 0 e (csize t) (.slice none 0 0) 0 [] := ⟨by simp, .inl ⟨rfl, rfl⟩⟩
                obtain ⟨v', w', us, k1, k2, k3, k4, k5, k6⟩ := append_go hΘ hm hti htd hte hsz hby (ty := ty) hs hown htl hx hstr (by simpa using hb)
                have hsl := own_slice k2
                have hv'b : v'.ownBlock = blkOf v' := own_blk v' (by obtain ⟨a, c, h⟩ := hsl; exact ⟨a, _, c, h⟩)
                have hr := hm.add hM (Below.of_grown k3) (v := v') (o := .arr e t ([] ++ ys)) hN hl (fun b _ hbk => by
                    rcases k4 with k4 | k4
                    · rw [hv'b, hbk] at k4; cases k4
                    · rw [hv'b, hbk] at k4; injection k4 with k4; omega)
                  (fun ok' _ hxx => arr_cells_of (xs := []) (cells := []) hxx (by simpa using k2) (by simp) (by simpa using hle) (by simp) k5 (by simp) k6)
                refine ⟨v', w', upd κ nid v', k1, ⟨hr.1, hr.2, ?_⟩⟩
                obtain ⟨a, c, h⟩ := hsl
                exact ⟨(upd_same _ _ _).symm, a, _, c, h⟩
              · rename_i i
                split at hhd
                · rename_i e' t' xs0 ho
                  split at hhd
                  · rename_i ht
                    subst ht
                    split at hhd
                    · rename_i he
                      subst he
                      cases hhd
                      have hoo := hm.each i _ (hs _ _ (assoc_mem ho))
                      obtain ⟨cells, h1, h2, h3, h4⟩ := hoo
                      obtain ⟨a, cc, hk, _⟩ := arr_header (hm.each i _ (hs _ _ (assoc_mem ho)))
                      exact arr i _ cells a _ cc (hs _ _ (assoc_mem ho)) hk (hv.1.trans hk) (by rw [hv.1]; exact h1) h3 h4
                    · cases hhd
                  · cases hhd
                · cases hhd
              · rename_i i len sz
                split at hhd
                · rename_i e' t' xs0 ho
                  split at hhd
                  · rename_i ht
                    subst ht
                    split at hhd
                    · rename_i he
                      subst he
                      cases hhd
                      simp only [decide_eq_true_eq] at hvc1
                      have hoo := hm.each i _ (hs _ _ (assoc_mem ho))
                      obtain ⟨cells, h1, h2, h3, h4⟩ := hoo
                      obtain ⟨a, cc, hk, _⟩ := arr_header (hm.each i _ (hs _ _ (assoc_mem ho)))
                      obtain ⟨a2, n2, c2, a', c', hk2, _, _, _, hu, hz, _⟩ := hv
                      rw [hk] at hk2
                      cases hk2
                      obtain ⟨rfl, rfl⟩ := hz rfl
                      have hlen : (List.take len xs0).length = len := by simp; omega
                      have ht := ownsRow_take (k := len) (by rw [← hk]; exact h1) hvc1 (csize_pos t')
                      refine arr i _ (cells.take (len * csize t')) a' _ c' (hs _ _ (assoc_mem ho)) hk (by rw [hlen]; exact hu) (by rw [hlen, hu]; exact ht) (fun y hy => h3 y (List.mem_of_mem_take hy)) (fun j y hj => ?_)
                      have hjl : j < len := by
                        have := (List.getElem?_eq_some_iff.1 hj).1
                        rw [hlen] at this; exact this
                      rw [List.getElem?_take, if_pos hjl] at hj
                      have := h4 j y hj
                      have hj2 : j * csize t' + csize t' ≤ len * csize t' := by rw [← Nat.succ_mul]; exact Nat.mul_le_mul_right _ hjl
                      rw [List.drop_take, List.take_take, Nat.min_eq_left (by omega)]
                      exact this
                    · cases hhd
                  · cases hhd
                · cases hhd
              · cases hhd
          · cases h
        · cases h
      · cases h
    · cases h
  · cases h
end
end Go.AM
/-
  The abstract machine, part 14c: slices and structs that are built.
-/
namespace Go.AM
open Go RowKit
section
variable {P : Program} {Θ : Tab} {glob : List (Nat × AV)} {M0 B0 : Nat → Prop} {w0 w w' : World} {κ : Nat → Value} {objs : List (Nat × AObj)} {ok : Nat → Prop}

theorem made_flat (z : Array Value) (n : Nat) : (madeCells z (n * z.size)).toList = (List.range n).flatMap fun _ => z.toList := by
  induction n with
  | zero => simp [madeCells]
  | succ n ih =>
    rw [List.range_succ, List.flatMap_append, ← ih]
    simp only [madeCells, Array.toList_map, Array.toList_range]
    rw [Nat.succ_mul, List.range_add, List.map_append, List.flatMap_singleton]
    congr 1
    rw [List.map_map]
    apply List.ext_getElem
    · simp
    · intro i h1 h2
      have hi : i < z.size := by simpa using h2
      simp [Nat.mod_eq_of_lt hi, hi]

theorem repL_flat {cs : List AV} {us : List Value} (h : RepL w ok κ cs us) (n : Nat) : RepL w ok κ ((List.range n).flatMap fun _ => cs) ((List.range n).flatMap fun _ => us) := by
  induction n with
  | zero => simp [RepL]
  | succ n ih =>
    rw [List.range_succ, List.flatMap_append, List.flatMap_append, List.flatMap_singleton, List.flatMap_singleton]
    exact ih.append h

theorem unAll_rep {t : TC} : ∀ (n : Nat) (cs : List AV) (xs : List (Den t)) (vs : List Value), unAll t (chunk (csize t) n cs) = some xs → RepL w ok κ cs vs → vs.length = n * csize t →
    xs.length = n ∧ ∀ (j : Nat) (x : Den t), xs[j]? = some x → RepC w ok t x ((vs.drop (j * csize t)).take (csize t))
  | 0, cs, xs, vs, h, hr, hl => by
    simp only [chunk, unAll, Option.some.injEq] at h
    subst h
    exact ⟨rfl, fun j x hj => by simp at hj⟩
  | n + 1, cs, xs, vs, h, hr, hl => by
    simp only [chunk, unAll] at h
    obtain ⟨x0, h0, h⟩ := bind_some h
    obtain ⟨xs', h1, h⟩ := bind_some h
    cases h
    have hl' : (vs.drop (csize t)).length = n * csize t := by simp [hl, Nat.succ_mul]
    obtain ⟨e1, e2⟩ := unAll_rep n _ xs' _ h1 (hr.drop _) hl'
    refine ⟨by simp [e1], fun j x hj => ?_⟩
    cases j with
    | zero =>
      simp at hj
      subst hj
      have := unembC_rep h0 (hr.take (csize t))
      simpa using this
    | succ j =>
      have := e2 j x (by simpa using hj)
      rw [List.drop_drop] at this
      rwa [Nat.succ_mul, Nat.add_comm]

theorem Lack.froze {N : Nat → Bool} (hl : Lack N glob objs) {obs : List (Nat × AObj)} (hs : Sub obs objs) : Lack N glob ((froze obs).reverse ++ objs) := by
  have key : ∀ id o, assoc ((AM.froze obs).reverse ++ objs) id = some o → (∃ p, assoc objs id = some p) ∧ (lacksO N o = true ∨ assoc objs id = some o) := by
    intro id o h
    rw [assoc_app] at h
    split at h
    · rename_i v hv
      cases h
      obtain ⟨e, t, xs, rfl, hm⟩ := froze_mem (List.mem_reverse.1 (assoc_mem hv))
      exact ⟨⟨_, hs _ _ hm⟩, .inl rfl⟩
    · exact ⟨⟨_, h⟩, .inr h⟩
  refine ⟨fun id o h => ?_, fun id o h => ?_, hl.glob⟩
  · obtain ⟨⟨p, hp⟩, _⟩ := key id o h
    exact hl.ids id p hp
  · rcases (key id o h).2 with h1 | h1
    · exact h1
    · exact hl.objs id o h1

/-- A new array over cells that are known. -/
theorem made_done (hm : Mem glob M0 B0 w0 w κ objs) (hM : ∀ b, M0 b → b < w.heap.size) {N : Nat → Bool} {nid : Nat} (hN : N nid = true) (hl : Lack N glob objs) {e : TypeId} {t : TC} {xs : List (Den t)} {us : List Value} (hus : us.length = xs.length * csize t)
    (hlen : xs.length ≤ 140737488355328) (h1 : ∀ u ∈ us, u.oneCell' = true) (hr : ∀ (j : Nat) (x : Den t), xs[j]? = some x → RepC w (okB M0 κ objs) t x ((us.drop (j * csize t)).take (csize t))) :
    Next M0 N κ (upd κ nid (.slice (some ⟨w.heap.size, 0, none⟩) xs.length xs.length)) objs ((nid, .arr e t xs) :: objs) w (w.alloc (.cells us.toArray e)) ∧
      Mem glob M0 B0 w0 (w.alloc (.cells us.toArray e)) (upd κ nid (.slice (some ⟨w.heap.size, 0, none⟩) xs.length xs.length)) ((nid, .arr e t xs) :: objs) := by
  refine hm.add hM (below_alloc1 w _) hN hl (fun b _ hb => by simp [blkOf] at hb; omega) (fun ok' _ hx => ?_)
  refine ⟨us, ?_, hlen, h1, fun j x hj => (hr j x hj).mono hx⟩
  rw [upd_same]
  refine ⟨hus, .inr ⟨w.heap.size, xs.length, us.toArray, rfl, Nat.zero_le _, heap_alloc_new w _, Nat.le_refl _, by simp only [maxLen]; omega, by simpa using hus, ?_⟩⟩
  rw [← hus]
  simp

theorem partsAt_place (size : Nat) : ∀ (ps : List (Nat × Operand)) (vs : List AV) (ρ : Operand → Value) (us : List Value), RepL w ok κ vs us → us = ps.map (fun p => ρ p.2) →
    (partsAt size ps vs).length = (ps.map fun p => (p.1, ρ p.2)).length ∧ ∀ (j : Nat) (p : Nat × Nat × AV) (q : Nat × Value), (partsAt size ps vs)[j]? = some p → (ps.map fun p => (p.1, ρ p.2))[j]? = some q →
      (fun i => some (i * size, size)) q.1 = some (p.1, p.2.1) ∧ RepV w ok κ p.2.2 q.2
  | [], vs, ρ, us, h, he => by
    subst he
    have := RepL.length _ _ h
    have : vs = [] := List.eq_nil_of_length_eq_zero (by simpa using this.symm)
    subst this
    simp [partsAt]
  | p :: ps, [], ρ, us, h, he => by
    subst he
    have := RepL.length _ _ h
    simp at this
  | (i, x) :: ps, v :: vs, ρ, us, h, he => by
    subst he
    obtain ⟨u, us', h1, h2, h3⟩ := h
    simp only [List.map_cons, List.cons.injEq] at h1
    obtain ⟨rfl, rfl⟩ := h1
    obtain ⟨e1, e2⟩ := partsAt_place size ps vs ρ _ h3 rfl
    refine ⟨by simpa [partsAt] using e1, fun j p q hp hq => ?_⟩
    cases j with
    | zero =>
      simp [partsAt] at hp hq
      subst hp hq
      exact ⟨rfl, h2⟩
    | succ j => exact e2 j p q (by simpa [partsAt] using hp) (by simpa using hq)

theorem buildSlice_done (hm : Mem glob M0 B0 w0 w κ objs) (hM : ∀ b, M0 b → b < w.heap.size) (hΘ : TabOK P Θ) {N : Nat → Bool} {nid : Nat} (hN : N nid = true) (hl : Lack N glob objs) {obs : List (Nat × AObj)} (hs : Sub obs objs) {T len : Nat} {ps : Array (Nat × Operand)} {vals : List AV} {c : COut}
    (h : coreBuildSlice Θ T len ps.toList nid obs vals = some c) (ρ : Operand → Value) (hv : RepL w (okB M0 κ objs) κ vals (ps.toList.map fun p => ρ p.2)) :
    ∃ r w' κ', (Instr.buildSlice T len (ps.map fun (i, x) => (i, ρ x))).run P w = .ok r w' ∧ Done glob M0 B0 w0 N κ objs w c κ' r w' := by
  unfold coreBuildSlice at h
  split at h
  · rename_i ti hti
    split at h
    · rename_i e htd
      split at h
      · rename_i te hte
        split at h
        · rename_i t htc
          rw [Option.ite_none_right_eq_some] at h
          obtain ⟨⟨hsz, hzl, hcells, hbytes, hlen⟩, h⟩ := h
          split at h
          · rename_i cs hcs
            split at h
            · rename_i xs hxs
              cases h
              have ht := (hΘ T ti hti).td
              rw [htd] at ht
              have hu : P.underlying T = some (.slice e) := ht
              obtain ⟨i, z, i1, i2, i3, i4, i5, i6⟩ := (hΘ e te hte).info
              have hzs : z.cells.size = te.size := by rw [← hzl, ← i5]; simp
              have hzero := scs_rep (w := w) (ok := okB M0 κ objs) (κ := κ) (hΘ e te hte).zero
              have hflat := repL_flat hzero len
              have hone0 : ∀ u ∈ (List.range len).flatMap (fun _ => te.zero), u.oneCell' = true := by
                intro u hu
                obtain ⟨_, _, h⟩ := List.mem_flatMap.1 hu
                exact zero_one (hΘ e te hte).zero u h
              obtain ⟨p1, p2⟩ := partsAt_place te.size ps.toList vals ρ _ hv rfl
              obtain ⟨vs, f1, f2, f3, f4⟩ := fill_rep (fun i => some (i * te.size, te.size)) _ _ _ _ cs hflat hone0 hcs p1 p2
              have hvl : vs.length = len * csize t := by
                rw [f4, ← hsz, ← hzl]
                simp [List.length_flatMap, List.map_const', List.sum_replicate_nat]
              obtain ⟨n1, m1⟩ := hm.froze hM hs
              have hset : RepL w (okB M0 κ ((froze obs).reverse ++ objs)) κ (cs.map (settle obs)) vs := by
                have : ∀ (cs : List AV) (us : List Value), RepL w (okB M0 κ objs) κ cs us → RepL w (okB M0 κ ((froze obs).reverse ++ objs)) κ (cs.map (settle obs)) us := by
                  intro cs
                  induction cs with
                  | nil => intro us h; exact h
                  | cons x cs ih => intro us h; obtain ⟨u', us', rfl, h2, h3⟩ := h; exact ⟨u', us', rfl, settle_of hm hM hs h2, ih us' h3⟩
                exact this _ _ f2
              rw [hsz] at hxs
              obtain ⟨x1, x2⟩ := unAll_rep len _ xs vs hxs hset hvl
              have hmade := made_done (e := e) m1 hM hN (hl.froze hs) (us := vs) (xs := xs) (by rw [x1]; exact hvl) (by rw [x1]; exact hlen) f3 x2
              refine ⟨.slice (some ⟨w.heap.size, 0, none⟩) len len, w.alloc (.cells vs.toArray e), upd κ nid (.slice (some ⟨w.heap.size, 0, none⟩) xs.length xs.length), ?_, ?_⟩
              · have hfill : Instr.fill (fun i => some (i * te.size, te.size)) (madeCells (if len * te.size = 0 then #[] else z.cells) (len * te.size)) (ps.toList.map fun p => (p.1, ρ p.2)) = some vs.toArray := by
                  rw [← f1]
                  congr 1
                  apply Array.toList_inj.1
                  split
                  · rename_i h0
                    have hl0 : len = 0 := by
                      have := csize_pos t
                      rcases Nat.mul_eq_zero.1 h0 with h | h
                      · exact h
                      · omega
                    subst hl0
                    simp [madeCells]
                  · rw [← hzs, made_flat, i5]
                unfold Instr.buildSlice
                have hn : ¬ (len * te.size > 2 ^ 24) := by
                  have : (2:Nat) ^ 24 = 16777216 := by decide
                  omega
                have hparts : (ps.map fun (i, x) => (i, ρ x)).toList = ps.toList.map fun p => (p.1, ρ p.2) := by simp
                by_cases h0 : len * te.size = 0
                · rw [if_pos h0] at hfill
                  simp only [madeCells] at hfill
                  simp [Sem.run_bind, run_underlying hu, sizeOf, typeInfo, i1, i2, hn, h0, newRow] at hfill ⊢
                  simp [hfill]
                · rw [if_neg h0] at hfill
                  simp only [madeCells] at hfill
                  simp [Sem.run_bind, run_underlying hu, sizeOf, typeInfo, zeroValue, i1, i2, i4, hn, h0, newRow] at hfill ⊢
                  simp [hfill]
              · have e0 : putObjs objs (froze obs ++ [(nid, AObj.arr e t xs)]) = (nid, .arr e t xs) :: ((froze obs).reverse ++ objs) := by simp [putObjs]
                refine ⟨?_, ?_, ?_⟩
                · rw [e0]; exact n1.trans0 hmade.1
                · rw [e0]; exact hmade.2
                · rw [e0]
                  refine ⟨?_, _, _, _, rfl⟩
                  rw [upd_same, x1]
            · cases h
          · cases h
        · cases h
      · cases h
    · cases h
  · cases h
end
end Go.AM
/-
  The abstract machine, part 14d: structs that are built; conversions; the rest.
-/
namespace Go.AM
open Go RowKit
section
variable {P : Program} {Θ : Tab} {glob : List (Nat × AV)} {M0 B0 : Nat → Prop} {w0 w w' : World} {κ : Nat → Value} {objs : List (Nat × AObj)} {ok : Nat → Prop}

theorem places_of (hΘ : TabOK P Θ) : ∀ (fields : List Field), (∀ f ∈ fields, (assoc Θ f.type).isSome = true) →
    ∃ places, fields.mapM (fun f => (P.info? f.type).map fun i => (f.offset, i.size)) = some places ∧ ∀ (j : Nat) (f : Field) (tf : TI), fields[j]? = some f → assoc Θ f.type = some tf → places[j]? = some (f.offset, tf.size)
  | [], _ => ⟨[], rfl, fun j f tf h => by simp at h⟩
  | f :: fields, h => by
    obtain ⟨tf, htf⟩ := Option.isSome_iff_exists.1 (h f (by simp))
    obtain ⟨i, z, h1, h2, _⟩ := (hΘ f.type tf htf).info
    obtain ⟨places, p1, p2⟩ := places_of hΘ fields (fun g hg => h g (by simp [hg]))
    refine ⟨(f.offset, i.size) :: places, by simp [List.mapM_cons, h1, p1], fun j g tg hj hg => ?_⟩
    cases j with
    | zero =>
      simp at hj
      subst hj
      rw [htf] at hg
      cases hg
      simp [h2]
    | succ j => simpa using p2 j g tg (by simpa using hj) hg

theorem partsOf_place {fs : List (Nat × TypeId)} {places : List (Nat × Nat)} (hp : ∀ (i off ft : Nat) (tf : TI), fs[i]? = some (off, ft) → assoc Θ ft = some tf → places[i]? = some (off, tf.size)) :
    ∀ (ps : List (Nat × Operand)) (vs : List AV) (qs : List (Nat × Nat × AV)) (ρ : Operand → Value), partsOf Θ fs ps vs = some qs → RepL w ok κ vs (ps.map fun p => ρ p.2) →
    qs.length = (ps.map fun p => (p.1, ρ p.2)).length ∧ ∀ (j : Nat) (p : Nat × Nat × AV) (q : Nat × Value), qs[j]? = some p → (ps.map fun p => (p.1, ρ p.2))[j]? = some q →
      (places.toArray[·]?) q.1 = some (p.1, p.2.1) ∧ RepV w ok κ p.2.2 q.2
  | [], vs, qs, ρ, h, hr => by
    cases vs with
    | nil => simp only [partsOf, Option.some.injEq] at h; subst h; simp
    | cons v vs => simp [partsOf] at h
  | (i, x) :: ps, [], qs, ρ, h, hr => by simp [partsOf] at h
  | (i, x) :: ps, v :: vs, qs, ρ, h, hr => by
    simp only [partsOf] at h
    split at h
    · rename_i off ft hf
      split at h
      · rename_i tf r ht hr'
        cases h
        obtain ⟨u, us', h1, h2, h3⟩ := hr
        simp only [List.map_cons, List.cons.injEq] at h1
        obtain ⟨rfl, rfl⟩ := h1
        obtain ⟨e1, e2⟩ := partsOf_place hp ps vs r ρ hr' h3
        refine ⟨by simpa using e1, fun j p q hp' hq => ?_⟩
        cases j with
        | zero =>
          simp at hp' hq
          subst hp' hq
          refine ⟨?_, h2⟩
          have := hp i off ft tf hf ht
          simpa using this
        | succ j => exact e2 j p q (by simpa using hp') (by simpa using hq)
      · cases h
    · cases h

theorem build_pure (hΘ : TabOK P Θ) {T : Nat} {ps : Array (Nat × Operand)} {vals : List AV} {c : COut} (h : coreBuild Θ T ps.toList vals = some c) (ρ : Operand → Value) (hv : RepL w ok κ vals (ps.toList.map fun p => ρ p.2)) :
    Pure1 P w ok κ (Instr.build T (ps.map fun (i, x) => (i, ρ x))) c := by
  unfold coreBuild at h
  split at h
  · rename_i ti hti
    have hti' := hΘ T ti hti
    obtain ⟨i, z, i1, i2, i3, i4, i5, i6⟩ := hti'.info
    have hzero := scs_rep (w := w) (ok := ok) (κ := κ) hti'.zero
    have hz2 : z.cells = ti.zero.toArray := by rw [← i5]
    have hparts : (ps.map fun (i, x) => (i, ρ x)).toList = ps.toList.map fun p => (p.1, ρ p.2) := by simp
    split at h
    · rename_i fs htd
      rw [Option.ite_none_right_eq_some] at h
      obtain ⟨hall, h⟩ := h
      split at h
      · rename_i qs hqs
        split at h
        · rename_i cs hcs
          have ht := hti'.td
          rw [htd] at ht
          obtain ⟨fields, hu, hfs⟩ := ht
          obtain ⟨places, p1, p2⟩ := places_of hΘ fields.toList (fun f hf => by
            have := List.all_eq_true.1 hall (f.offset, f.type) (by rw [← hfs]; exact List.mem_map.2 ⟨f, hf, rfl⟩)
            exact this)
          obtain ⟨q1, q2⟩ := partsOf_place (w := w) (ok := ok) (κ := κ) (places := places) (fun i off ft tf hi htf => by
            rw [← hfs, List.getElem?_map] at hi
            cases hx : fields.toList[i]? with
            | none => simp [hx] at hi
            | some fld =>
              rw [hx] at hi
              simp only [Option.map_some, Option.some.injEq, Prod.mk.injEq] at hi
              obtain ⟨rfl, rfl⟩ := hi
              exact p2 i fld tf hx htf) ps.toList vals qs ρ hqs hv
          obtain ⟨vs, f1, f2, f3, f4⟩ := fill_rep _ _ _ _ _ cs hzero (zero_one hti'.zero) hcs q1 q2
          refine ret_pure h ⟨.agg vs.toArray, run_build w T _ _ ?_, vs, rfl, f2⟩
          unfold Program.built
          simp only [i1, hu, i4, p1, hparts, hz2]
          exact f1
        · cases h
      · cases h
    · rename_i n e htd
      split at h
      · rename_i te hte
        split at h
        · rename_i cs hcs
          have ht := hti'.td
          rw [htd] at ht
          have hu : P.underlying T = some (.array n e) := ht
          obtain ⟨ie, ze, e1, e2, _⟩ := (hΘ e te hte).info
          obtain ⟨q1, q2⟩ := partsAt_place te.size ps.toList vals ρ _ hv rfl
          obtain ⟨vs, f1, f2, f3, f4⟩ := fill_rep (fun i => some (i * te.size, te.size)) _ _ _ _ cs hzero (zero_one hti'.zero) hcs q1 q2
          refine ret_pure h ⟨.agg vs.toArray, run_build w T _ _ ?_, vs, rfl, f2⟩
          unfold Program.built
          simp only [i1, hu, i4, e1, e2, hparts, hz2]
          exact f1
        · cases h
      · cases h
    · cases h
  · cases h

theorem convert_pure (hΘ : TabOK P Θ) (hm : Mem glob M0 B0 w0 w κ objs) {src dst : TypeId} {obs : List (Nat × AObj)} (hobs : Obs w ok κ obs) {x : AV} {u : Value} {c : COut} (h : coreConvert Θ src dst obs x = some c) (hx : RepV w ok κ x u)
    (hno : ∀ s e te, x = .sc (.string s) → (assoc Θ dst).map (·.td) = some (.slice e) → assoc Θ e = some te → False) : Pure1 P w ok κ (convert src dst u) c := by
  unfold coreConvert at h
  split at h
  · rename_i ts td hts htd
    have hs := (hΘ src ts hts).td
    have hd := (hΘ dst td htd).td
    split at h
    · rename_i k0 k k1 n h1 h2
      obtain ⟨rfl, hn⟩ := hx
      rw [h1] at hs
      rw [h2] at hd
      have hs' : P.underlying src = some (.int k0) := hs
      have hd' : P.underlying dst = some (.int k) := hd
      refine ret_pure h ⟨_, ?_, rfl, has_wrap k n⟩
      unfold convert
      simp [Sem.run_bind, run_underlying hs', run_underlying hd', Conv.intToInt]
    · rename_i s h1 h2
      obtain ⟨rfl, hn⟩ := hx
      rw [h1] at hs
      rw [h2] at hd
      have hs' : P.underlying src = some .string := hs
      have hd' : P.underlying dst = some .string := hd
      refine ret_pure h ⟨_, ?_, rfl, hn⟩
      unfold convert
      simp [Sem.run_bind, run_underlying hs', run_underlying hd']
    · rename_i e s h1 h2
      split at h
      · rename_i te hte
        exact (hno s e te rfl (by rw [htd]; simp [h2]) hte).elim
      · cases h
    · rename_i e h1 h2
      split at h
      · rename_i te hte
        split at h
        · rename_i xs h3 h4
          rw [h1] at hs
          rw [h2] at hd
          have hs' : P.underlying src = some (.slice e) := hs
          have hd' : P.underlying dst = some .string := hd
          have he := (hΘ e te hte).td
          rw [h3] at he
          have he' : P.underlying e = some (.int .u8) := he
          obtain ⟨a, n, us, rfl, k2, k3, k4, k5, k6⟩ := read_cells (ok := ok) hobs h4 hx
          simp only [csize, Nat.mul_one] at k2 k5
          have hcell : us = xs.map (Value.int .u8) := by
            apply List.ext_getElem?
            intro j
            rw [List.getElem?_map]
            cases hj : xs[j]? with
            | none =>
              simp only [Option.map_none]
              rw [List.getElem?_eq_none_iff] at hj ⊢
              omega
            | some y =>
              have := k5 j y hj
              generalize he : List.take 1 (List.drop j us) = q at this
              cases this with
              | i k n hk =>
                have : us[j]? = (us.drop j).head? := by simp
                rw [this]
                have h1 : ((us.drop j).take 1) = [Value.int .u8 y] := he
                cases hd : us.drop j with
                | nil => rw [hd] at h1; simp at h1
                | cons q r => rw [hd] at h1; simp at h1; simp [h1]
          have hb : ∀ y ∈ xs, 0 ≤ y ∧ y ≤ 255 := by
            intro y hy
            obtain ⟨j, hj⟩ := List.mem_iff_getElem?.1 hy
            have := k5 j y hj
            generalize List.take 1 (List.drop j us) = q at this
            cases this with
            | i k n hk =>
              simp only [IntKind.has, IntKind.min, IntKind.max, IntKind.signed, IntKind.bits] at hk
              simp at hk; omega
          have hsize : (ofBytes xs).size ≤ 9223372036854775807 := by
            simp only [ofBytes, ByteArray.size, List.size_toArray, List.length_map]; omega
          refine ret_pure h ⟨.string (ofBytes xs), ?_, rfl, hsize⟩
          rw [run_convert_bytes_string w src dst e a _ n hs' he' hd']
          cases a with
          | none =>
            have : xs.length = 0 := by
              rcases Nat.eq_zero_or_pos xs.length with h | h
              · exact h
              · obtain ⟨b, o, h, _⟩ := k6 h; cases h
            have : xs = [] := List.eq_nil_of_length_eq_zero this
            subst this
            rfl
          | some ad =>
            have hload : (loadCells ad xs.length).run P w = .ok (xs.map (Value.int .u8)).toArray w := by
              rcases Nat.eq_zero_or_pos xs.length with h0 | h0
              · have : xs = [] := List.eq_nil_of_length_eq_zero h0
                subst this
                rfl
              · obtain ⟨b, o, he, hc⟩ := k6 h0
                cases he
                have := run_load_cells (P := P) (cs := us) hc
                rw [hcell] at this
                simpa using this
            rw [run_bytesToString w ad xs.length n xs hload]
            congr 2
            have key : ∀ (ns : List Int) (r : ByteArray), ns.foldl (fun r n => r.push (UInt8.ofNat n.toNat)) r = ⟨r.data ++ (ns.map fun n => UInt8.ofNat n.toNat).toArray⟩ := by
              intro ns
              induction ns with
              | nil => intro r; simp
              | cons n ns ih => intro r; rw [List.foldl_cons, ih]; simp [ByteArray.push]
            rw [key]
            simp [ofBytes]
        · cases h
      · cases h
    · cases h
  · cases h
end
end Go.AM
/-
  The abstract machine, part 14e: slices that are made; the bytes of a string.
-/
namespace Go.AM
open Go RowKit
section
variable {P : Program} {Θ : Tab} {glob : List (Nat × AV)} {M0 B0 : Nat → Prop} {w0 w w' : World} {κ : Nat → Value} {objs : List (Nat × AObj)} {ok : Nat → Prop}

/-- The world grows; nothing of the state turns. -/
theorem Mem.grow (hm : Mem glob M0 B0 w0 w κ objs) (hM : ∀ b, M0 b → b < w.heap.size) (hb : Below w.heap.size w w') {N : Nat → Bool} :
    Next M0 N κ κ objs objs w w' ∧ Mem glob M0 B0 w0 w' κ objs := by
  have hn : Next M0 (fun _ => false) κ κ objs objs w w' := ⟨fun _ _ => rfl, fun b hlt _ => hb.block b hlt, fun b h => .inl h, hb.os, hb.tape, hb.output, hb.size⟩
  exact ⟨⟨fun _ _ => rfl, hn.same, hn.live, hn.os, hn.tape, hn.output, hn.size⟩, hm.next hn hM (fun id o ho => .inl ⟨ho, rfl, lacksOF o, fun hmu b hbk => hb.block b (hm.live_lt ⟨id, o, ho, hmu, hbk⟩)⟩) hm.sep (fun g v _ => lacksF v)⟩

theorem bytes_done (hm : Mem glob M0 B0 w0 w κ objs) (hM : ∀ b, M0 b → b < w.heap.size) {N : Nat → Bool} {src dst e : TypeId} {s : ByteArray} (hs : P.underlying src = some .string) (hd : P.underlying dst = some (.slice e)) (he : P.underlying e = some (.int .u8)) (hl : s.size ≤ 140737488355328) {vc : Bool} :
    ∃ r w', (convert src dst (.string s)).run P w = .ok r w' ∧ Done glob M0 B0 w0 N κ objs w ⟨vc, .sl (.i .u8) (bytesOf s), []⟩ κ r w' := by
  refine ⟨_, _, run_bytes_of_string w src dst e s hs hd he, ?_⟩
  have hb : Below w.heap.size w (w.drew.alloc (.cells (bytesRow s (grownCap w s.size 0 e)) e ((bytesRow s (grownCap w s.size 0 e)).size, (bytesRow s (grownCap w s.size 0 e)).size + 1))) :=
    ((Below.refl _ _).drew).alloc (Nat.le_refl _) _
  obtain ⟨n1, m1⟩ := hm.grow hM hb (N := N)
  refine ⟨n1, m1, ?_⟩
  have hlen : (bytesOf s).length = s.size := by simp [bytesOf]
  have : RepS (w.drew.alloc (.cells (bytesRow s (grownCap w s.size 0 e)) e ((bytesRow s (grownCap w s.size 0 e)).size, (bytesRow s (grownCap w s.size 0 e)).size + 1))) (okB M0 κ objs) (.i .u8) (bytesOf s) (.slice (some ⟨w.heap.size, 0, none⟩) (bytesOf s).length (grownCap w s.size 0 e)) := by
    refine RepS.of_row (b := w.heap.size) (o := 0) (by rw [hlen]; exact grownCap_ge w s.size 0 e) (by rw [hlen]; exact hl) (fun _ => rfl) (fun j x hj => ?_)
    have hjl : j < s.size := by
      have := (List.getElem?_eq_some_iff.1 hj).1
      rw [hlen] at this; exact this
    have hbv : (bytesRow s (grownCap w s.size 0 e))[j]? = some (.int .u8 x) := by
      have h1 := bytesRow_at s (grownCap w s.size 0 e) j hjl
      rw [h1]
      simp only [bytesOf, List.getElem?_map, Option.map_eq_some_iff] at hj
      obtain ⟨b, hb, rfl⟩ := hj
      have : s.data[j]'hjl = b := by
        have h2 : s.data.toList[j]? = some (s.data[j]'hjl) := by simp
        rw [hb] at h2
        injection h2 with h2
        exact h2.symm
      rw [this]
    refine ⟨⟨fun h => ?_, fun h => ?_⟩, [.int .u8 x], RepC.i _ _ ?_, fun i u hu => ?_⟩
    · exact Nat.lt_irrefl _ (hM _ h)
    · exact Nat.lt_irrefl _ (hm.live_lt h)
    · simp only [bytesOf, List.getElem?_map, Option.map_eq_some_iff] at hj
      obtain ⟨b, hb, rfl⟩ := hj
      have := b.toNat_lt
      simp only [IntKind.has, IntKind.min, IntKind.max, IntKind.signed, IntKind.bits]
      simp; omega
    · cases i with
      | zero =>
        simp at hu
        subst hu
        have := World.cell?_alloc_mark w.drew (bytesRow s (grownCap w s.size 0 e)) e ((bytesRow s (grownCap w s.size 0 e)).size, (bytesRow s (grownCap w s.size 0 e)).size + 1) j
        simp only [csize, Nat.mul_one, Nat.zero_add, Nat.add_zero]
        exact this.trans hbv
      | succ i => simp at hu
  rw [hlen] at this
  exact this

theorem makeSlice_done (hm : Mem glob M0 B0 w0 w κ objs) (hM : ∀ b, M0 b → b < w.heap.size) (hΘ : TabOK P Θ) {N : Nat → Bool} {nid : Nat} (hN : N nid = true) (hl : Lack N glob objs) {T e : TypeId} {ti te : TI} (hti : assoc Θ T = some ti) (htd : ti.td = .slice e) (hte : assoc Θ e = some te)
    {t : TC} {z : Den t} (hz : unembC t (scs te.zero) = some z) (hsz : te.size = csize t) (hby : 0 < te.bytes) (hzl : te.zero.length = te.size) {k k' : IntKind} {l : Int} (h0 : 0 ≤ l) (hb : l * te.bytes ≤ 140737488355328) {vc : Bool} :
    ∃ r w' κ', (Instr.makeSlice T (.int k l) (.int k' l)).run P w = .ok r w' ∧ Done glob M0 B0 w0 N κ objs w ⟨vc, .af nid, [(nid, .arr e t (List.replicate l.toNat z))]⟩ κ' r w' := by
  have ht := (hΘ T ti hti).td
  rw [htd] at ht
  have hu : P.underlying T = some (.slice e) := ht
  obtain ⟨i, zz, i1, i2, i3, i4, i5, i6⟩ := (hΘ e te hte).info
  have hzs : zz.cells.size = te.size := by rw [← hzl, ← i5]; simp
  obtain ⟨n, rfl⟩ := Int.eq_ofNat_of_zero_le h0
  have hnb : n * te.bytes ≤ 140737488355328 := by
    have : ((n * te.bytes : Nat) : Int) ≤ 140737488355328 := by push_cast; exact hb
    omega
  have hn : n ≤ 140737488355328 := Nat.le_trans (Nat.le_mul_of_pos_right _ hby) hnb
  have hi3 : (i.bytes : Int) * (n : Int) ≤ 281474976710656 := by
    rw [i3]
    have h1 : ((te.bytes * n : Nat) : Int) ≤ 281474976710656 := by rw [Nat.mul_comm]; omega
    push_cast at h1
    exact h1
  have hrun := run_make (P := P) w T e i zz hu i1 i4 k k' n n (by omega) (by omega) hi3 (by omega)
  simp only [Int.toNat_natCast] at hrun ⊢
  have hrep : RepC w (okB M0 κ objs) t z te.zero := unembC_rep (κ := κ) hz (scs_rep (hΘ e te hte).zero)
  have hmc : (madeCells zz.cells (n * i.size)) = ((List.range n).flatMap fun _ => te.zero).toArray := by
    apply Array.toList_inj.1
    rw [i2, ← hzs, made_flat, i5]
  have hfl : ((List.range n).flatMap fun _ => te.zero).length = n * csize t := by
    rw [← hsz, ← hzl]
    simp [List.length_flatMap, List.map_const', List.sum_replicate_nat]
  have hdrop : ∀ (m j : Nat), j < m → ((((List.range m).flatMap fun _ => te.zero).drop (j * csize t)).take (csize t)) = te.zero := by
    intro m
    induction m with
    | zero => intro j hj; omega
    | succ m ih =>
      intro j hj
      have hlm : ((List.range m).flatMap fun _ => te.zero).length = m * csize t := by
        rw [← hsz, ← hzl]
        simp [List.length_flatMap, List.map_const', List.sum_replicate_nat]
      rw [List.range_succ, List.flatMap_append, List.flatMap_singleton]
      by_cases hjm : j < m
      · have h1 : j * csize t + csize t ≤ m * csize t := by rw [← Nat.succ_mul]; exact Nat.mul_le_mul_right _ hjm
        rw [List.drop_append_of_le_length (by omega), List.take_append_of_le_length (by simp only [List.length_drop, hlm]; omega)]
        exact ih j hjm
      · have : j = m := by omega
        subst this
        rw [← hlm, List.drop_left]
        exact List.take_of_length_le (by omega)
  have hmade := made_done (e := e) (t := t) hm hM hN hl (us := (List.range n).flatMap fun _ => te.zero) (xs := List.replicate n z) (by simpa using hfl) (by simpa using hn)
    (fun u hu => by obtain ⟨_, _, h⟩ := List.mem_flatMap.1 hu; exact zero_one (hΘ e te hte).zero u h)
    (fun j x hj => by
      have hjn : j < n := by
        have := (List.getElem?_eq_some_iff.1 hj).1
        simpa using this
      rw [hdrop n j hjn]
      rw [List.getElem?_replicate, if_pos hjn] at hj
      cases hj
      exact hrep)
  refine ⟨_, _, upd κ nid (.slice (some ⟨w.heap.size, 0, none⟩) n n), hrun, ?_⟩
  rw [hmc]
  simp only [List.length_replicate] at hmade
  exact ⟨hmade.1, hmade.2, (upd_same _ _ _).symm, _, _, _, rfl⟩
end
end Go.AM
