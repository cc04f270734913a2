/-
  The abstract machine, a part.
-/
import Derived.Test.YtcihhhkmekdbnaaGreatDoorMCoreOK
import Derived.Orders
/-
  The abstract machine, part 15: shapes: abstract values and states as families over plain data; trees; a function's walk as a tree.
-/
namespace Go.AM
open Go RowKit

/-- The shape of an abstract value. -/
inductive Sh where
  | int (k : IntKind) | bool | str | list (t : TC) | agg (t : TC)
  | pp (t : TC) (off : Nat) | pr (t : TC)
  | ptr (id off : Nat) | af (id : Nat) | fn (f : FuncId) (ids : List Nat) | nilI | aggI (k : IntKind) (n : Nat) | aggN (t : TC) | ifc (T : TypeId) (s : Sh)
/-- The shape of an abstract object. -/
inductive OSh where
  | var (T : TypeId) (cs : List Sh) | vagg (T : TypeId) (t : TC) | arr (e : TypeId) (t : TC) | fz (t : TC) | iter | lp (key : Nat) (cs : List Sh) | gone

@[reducible] def cns : Option Type → Option Type → Option Type
  | none, b => b
  | some A, none => some A
  | some A, some B => some (A × B)
@[reducible] def El : Option Type → Type
  | none => Unit
  | some A => A
def mkP : {a b : Option Type} → El a → El b → El (cns a b)
  | none, _, _, y => y
  | some _, none, x, _ => x
  | some _, some _, x, y => (x, y)
def fst' : {a b : Option Type} → El (cns a b) → El a
  | none, _, _ => ()
  | some _, none, x => x
  | some _, some _, x => x.1
def snd' : {a b : Option Type} → El (cns a b) → El b
  | none, _, x => x
  | some _, none, _ => ()
  | some _, some _, x => x.2
theorem fst_mk {a b : Option Type} (x : El a) (y : El b) : fst' (mkP x y) = x := by cases a <;> cases b <;> rfl
theorem snd_mk {a b : Option Type} (x : El a) (y : El b) : snd' (mkP x y) = y := by cases a <;> cases b <;> rfl

@[reducible] def Sh.ty : Sh → Option Type
  | .int _ => some Int
  | .bool => some Bool
  | .str => some ByteArray
  | .list t => some (List (Den t))
  | .agg t => some (Den t)
  | .pp t _ => some (Den t)
  | .pr t => some (List (Den t))
  | .aggI _ _ => some (List Int)
  | .aggN t => some (Den t)
  | .ifc _ s => s.ty
  | _ => none
@[reducible] def tyL : List Sh → Option Type
  | [] => none
  | s :: r => cns s.ty (tyL r)
@[reducible] def OSh.ty : OSh → Option Type
  | .var _ cs => tyL cs
  | .vagg _ t => some (Den t)
  | .arr _ t => some (List (Den t))
  | .fz t => some (List (Den t))
  | .iter => some (ByteArray × Nat)
  | .lp _ cs => tyL cs
  | .gone => none
@[reducible] def tyO : List (Nat × OSh) → Option Type
  | [] => none
  | s :: r => cns s.2.ty (tyO r)

def Sh.mk : (s : Sh) → El s.ty → AV
  | .int k, n => .sc (.int k n)
  | .bool, b => .sc (.bool b)
  | .str, s => .sc (.string s)
  | .list t, xs => .sl t xs
  | .agg t, x => .agg (embC t x)
  | .pp t off, x => .pp t x off
  | .pr t, xs => .pr t xs
  | .ptr id off, _ => .ptr id off
  | .af id, _ => .af id
  | .fn f ids, _ => .fn f (ids.map (.ptr · 0))
  | .nilI, _ => .sc .nilIface
  | .aggI k _, xs => .agg (xs.map fun n => .sc (.int k n))
  | .aggN t, x => .agg (embC t x ++ [nilS])
  | .ifc T s, x => .ifc T (s.mk x)
def mkL : (l : List Sh) → El (tyL l) → List AV
  | [], _ => []
  | s :: r, x => s.mk (fst' x) :: mkL r (snd' x)
def OSh.mk : (s : OSh) → El s.ty → AObj
  | .var T cs, x => .var T (mkL cs x)
  | .vagg T t, x => .var T (embC t x)
  | .arr e t, xs => .arr e t xs
  | .fz t, xs => .fz t xs
  | .iter, x => .iter x.1 x.2
  | .lp key cs, x => .lp key false (mkL cs x)
  | .gone, _ => .gone
def mkO : (l : List (Nat × OSh)) → El (tyO l) → List (Nat × AObj)
  | [], _ => []
  | (i, s) :: r, x => (i, s.mk (fst' x)) :: mkO r (snd' x)

/-- What a fit binds: numbers of the shape to numbers of the state; arrays that are read as lists; numbers of the shape that stand for nil arrays. -/
structure Bnd where
  m : List (Nat × Nat)
  fz : List Nat
  nils : List Nat
def Bnd.nil0 : Bnd := ⟨[], [], []⟩
def Bnd.app (a b : Bnd) : Bnd := ⟨a.m ++ b.m, a.fz ++ b.fz, a.nils ++ b.nils⟩

def ptrIds : List Nat → List AV → Option (List (Nat × Nat))
  | [], [] => some []
  | i :: is, .ptr j 0 :: vs => (ptrIds is vs).map ((i, j) :: ·)
  | _, _ => none

def intsOf (k : IntKind) : List AV → Option (List Int)
  | [] => some []
  | .sc (.int k' n) :: r => if k' = k then (intsOf k r).map (n :: ·) else none
  | _ => none
theorem intsOf_map {k : IntKind} : ∀ {cs : List AV} {xs : List Int}, intsOf k cs = some xs → cs = xs.map fun n => .sc (.int k n)
  | [], xs, h => by simp only [intsOf, Option.some.injEq] at h; subst h; rfl
  | c :: r, xs, h => by
    unfold intsOf at h
    split at h
    · rename_i heq; cases heq
    · rename_i k' n r' heq
      cases heq
      split at h
      · rename_i hk
        subst hk
        simp only [Option.map_eq_some_iff] at h
        obtain ⟨ys, h1, rfl⟩ := h
        rw [intsOf_map h1]
        rfl
      · cases h
    · cases h

def fit (ob : List (Nat × AObj)) : (s : Sh) → AV → Option (El s.ty × Bnd)
  | .int k, v => match v with
    | .sc (.int k' n) => if k' = k then some (n, .nil0) else none
    | _ => none
  | .bool, v => match v with
    | .sc (.bool b) => some (b, .nil0)
    | _ => none
  | .str, v => match v with
    | .sc (.string s) => some (s, .nil0)
    | _ => none
  | .list t, v => match unS t (settle ob v) with
    | some xs => some (xs, ⟨[], leanOn v, []⟩)
    | none => none
  | .agg t, v => match v with
    | .agg cs => match unembC t (cs.map (settle ob)) with
      | some x => some (x, ⟨[], cs.flatMap leanOn, []⟩)
      | none => none
    | _ => none
  | .pp t off, v => match v with
    | .pp t' x off' => if h : t' = t then if off' = off then some (h ▸ x, .nil0) else none else none
    | _ => none
  | .pr t, v => match v with
    | .pr t' xs => if h : t' = t then some (h ▸ xs, .nil0) else none
    | _ => none
  | .ptr id off, v => match v with
    | .ptr id' off' => if off' = off then some ((), ⟨[(id, id')], [], []⟩) else none
    | _ => none
  | .af id, v => match v with
    | .af id' => some ((), ⟨[(id, id')], [], []⟩)
    | .sc (.slice none 0 0) => some ((), ⟨[], [], [id]⟩)
    | _ => none
  | .fn f ids, v => match v with
    | .fn f' cap => if f' = f then match ptrIds ids cap with
        | some m => some ((), ⟨m, [], []⟩)
        | none => none
      else none
    | _ => none
  | .nilI, v => match v with
    | .sc .nilIface => some ((), .nil0)
    | _ => none
  | .aggN t, v => match v with
    | .agg cs => match cs[csize t]?, unembC t ((cs.take (csize t)).map (settle ob)) with
      | some (.sc (.slice none 0 0)), some x => if cs.length = csize t + 1 then some (x, ⟨[], (cs.take (csize t)).flatMap leanOn, []⟩) else none
      | _, _ => none
    | _ => none
  | .aggI k n, v => match v with
    | .agg cs => match intsOf k cs with
      | some xs => if xs.length = n then some (xs, .nil0) else none
      | none => none
    | _ => none
  | .ifc T s, v => match v with
    | .ifc T' v => if T' = T then fit ob s v else none
    | _ => none
def fitL (ob : List (Nat × AObj)) : (l : List Sh) → List AV → Option (El (tyL l) × Bnd)
  | [], [] => some ((), .nil0)
  | s :: r, v :: vs => match fit ob s v, fitL ob r vs with
    | some (x, a), some (y, b) => some (mkP x y, a.app b)
    | _, _ => none
  | _, _ => none
def fitO1 (ob : List (Nat × AObj)) : (s : OSh) → AObj → Option (El s.ty × Bnd)
  | .var T cs, o => match o with
    | .var T' vs => if T' = T then fitL ob cs vs else none
    | _ => none
  | .vagg T t, o => match o with
    | .var T' vs => if T' = T then match unembC t (vs.map (settle ob)) with
        | some x => some (x, ⟨[], vs.flatMap leanOn, []⟩)
        | none => none
      else none
    | _ => none
  | .arr e t, o => match o with
    | .arr e' t' xs => if h : t' = t then if e' = e then some (h ▸ xs, .nil0) else none else none
    | _ => none
  | .fz t, o => match o with
    | .fz t' xs => if h : t' = t then some (h ▸ xs, .nil0) else none
    | _ => none
  | .iter, o => match o with
    | .iter s pos => some ((s, pos), .nil0)
    | _ => none
  | .lp key cs, o => match o with
    | .lp key' false vs => if key' = key then fitL ob cs vs else none
    | _ => none
  | .gone, _ => some ((), .nil0)
/-- An object that is not there: a nil array; what is let go. -/
def noneO (n : Bool) : (s : OSh) → Option (El s.ty)
  | .arr _ _ => if n then some [] else none
  | .gone => some ()
  | _ => none
def fitO (ob : List (Nat × AObj)) : (l : List (Nat × OSh)) → Bnd → Option (El (tyO l) × Bnd)
  | [], b => some ((), b)
  | (i, s) :: r, b => match assoc b.m i with
    | some j => match assoc ob j with
      | some o => match fitO1 ob s o with
        | some (x, a) => match fitO ob r (b.app a) with
          | some (y, c) => some (mkP x y, c)
          | none => none
        | none => none
      | none => none
    | none => match noneO (b.nils.contains i) s with
        | some x => match fitO ob r b with
          | some (y, c) => some (mkP x y, c)
          | none => none
        | none => none

structure Pat where
  slots : List (Nat × Sh)
  objs : List (Nat × OSh)
@[reducible] def Pat.X (p : Pat) : Type := El (cns (tyL (p.slots.map (·.2))) (tyO p.objs))
def Pat.mk' (p : Pat) (x : p.X) (nxt : Nat) : ASt := ⟨(p.slots.map (·.1)).zip (mkL (p.slots.map (·.2)) (fst' x)), mkO p.objs (snd' x), nxt, []⟩

def getAll (slots : List (Nat × AV)) : List Nat → Option (List AV)
  | [] => some []
  | i :: r => match assoc slots i, getAll slots r with
    | some v, some vs => some (v :: vs)
    | _, _ => none
/-- What is bound is bound once, and to different things; no list leans on what is kept. -/
def Bnd.good (b : Bnd) : Bool :=
  b.m.all (fun p => assoc b.m p.1 == some p.2 && b.m.all (fun q => p.2 != q.2 || p.1 == q.1) && !b.fz.contains p.2 && !b.nils.contains p.1) && decide b.nils.Nodup
def fitAll (b0 : Bnd) (shs : List Sh) (os : List (Nat × OSh)) (vs : List AV) (ob : List (Nat × AObj)) : Option (El (cns (tyL shs) (tyO os)) × Bnd) :=
  match fitL ob shs vs with
  | some (x, a) => match fitO ob os (b0.app a) with
    | some (y, b) => if b.good = true then some (mkP x y, b) else none
    | none => none
  | none => none
/-- What was handed keeps its number, but what is let go. -/
def goneIn (os : List (Nat × OSh)) (i : Nat) : Bool := match assoc os i with
  | some .gone => true
  | _ => false
def idB (np : Nat) (os : List (Nat × OSh)) : Bnd := ⟨((List.range np).filter fun i => !goneIn os i).map fun i => (i, i), [], []⟩
/-- No number of what is let go. -/
def noGone (np : Nat) (os : List (Nat × OSh)) (vs : List AV) (objs : List (Nat × AObj)) : Bool :=
  lacksL (fun i => decide (i < np) && goneIn os i) vs && objs.all fun p => lacksO (fun i => decide (i < np) && goneIn os i) p.2

/-- Walks as trees. -/
inductive Tr (Z : Type) : Type 1 where
  | done (z : Z)
  | fail
  | vc (b : Bool) (t : Tr Z)
  | br (b : Bool) (t f : Tr Z)
  | bind (X : Type) (m : Option X) (k : X → Tr Z)
  | bindE (E X : Type) (m : Option (Except E X)) (h : E → Tr Z) (k : X → Tr Z)
  | jump (m : Option Z)

def exc {E X Z : Type} (m : Option (Except E X)) (h : E → Option Z) (k : X → Option Z) : Option Z :=
  m.bind fun r => match r with
    | .error e => h e
    | .ok x => k x
def Tr.eval {Z : Type} : Tr Z → Option Z
  | .done z => some z
  | .fail => none
  | .vc b t => if b then t.eval else none
  | .br b t f => if b then t.eval else f.eval
  | .bind _ m k => m.bind fun x => (k x).eval
  | .bindE _ _ m h k => exc m (fun e => (h e).eval) (fun x => (k x).eval)
  | .jump m => m

/-- What a function computes: it never panics, or it may. -/
inductive FT (X Y : Type) : Type 1 where
  | plain (F : X → Option Y)
  | exc (s : Sh) (F : X → Option (Except (El s.ty) Y))
/-- A function's contract: what it is handed, what it gives, what of the objects that it was handed and of new ones. -/
structure CSpec where
  inp : Pat
  res : List Sh
  robj : List (Nat × OSh)
  F : FT inp.X (El (cns (tyL res) (tyO robj)))

/-- A contract's numbers: arguments and objects are counted from 0; every object that is handed in comes back; few are new. -/
def CSpec.ok (s : CSpec) : Bool :=
  decide (s.inp.slots.map (·.1) = List.range s.inp.slots.length) && decide (s.inp.objs.map (·.1) = List.range s.inp.objs.length) && decide ((s.robj.map (·.1)).Nodup) &&
  s.robj.all (fun p => decide (p.1 < s.inp.objs.length + 16)) && (List.range s.inp.objs.length).all (fun i => (s.robj.map (·.1)).contains i)

/-- Results as one value. -/
def resV : List AV → AV
  | [v] => v
  | l => .tup l

structure Pt (Z : Type) where
  pat : Pat
  F : pat.X → Option Z

structure DEnv (Z : Type) where
  Θ : Tab
  eqs : List (Nat × List Nat)
  glob : List (Nat × AV)
  calls : List (FuncId × CSpec)
  nt : Nat
  body : Code
  results : List ResultVar
  np : Nat
  retK : List AV → ASt → Tr Z
  panK : AV → Tr Z
  pts : List (List Nat × Pt Z)
  orders : List (Nat × List Nat) := []
  fid : FuncId := 0
  fname : String := ""
  bodied : List Nat := []
  dcalls : List (FuncId × CSpec) := []
  rnd : Bool := false
  clones : List (Nat × (TypeId × TC)) := []

section
variable {Z : Type} (D : DEnv Z)

def outMap (m : List (Nat × Nat)) (np nid j : Nat) : Option Nat := if j < np then assoc m j else if j < np + 16 then some (nid + (j - np)) else none
def boundAll (objs : List (Nat × AObj)) (m : List (Nat × Nat)) (np : Nat) : Bool := (List.range np).all fun i => match assoc m i with
  | some j => (assoc objs j).isSome
  | none => true
def freezeIds (objs : List (Nat × AObj)) (ids : List Nat) : List (Nat × AObj) := ids.filterMap fun i => match assoc objs i with
  | some (.arr _ t xs) => some (i, .fz t xs)
  | _ => none
def outObjs (m : List (Nat × Nat)) (np nid : Nat) (os : List (Nat × AObj)) : List (Nat × AObj) :=
  os.filterMap fun (j, o) => (outMap m np nid j).map fun i => (i, renO (outMap m np nid) o)

/-- A value that needs no world. -/
def closedV : AV → Bool
  | .sc _ => true
  | .agg cs => cs.all fun | .sc _ => true | _ => false
  | _ => false
/-- Whose contract a function's value calls, with what. -/
def calleeN (g : Nat) : Nat := if g < 1000000 then g else if g < 2000000 then g - 1000000 else g
def calleeV (g : Nat) (ags cap : List AV) : List AV := if g < 1000000 then ags ++ cap else if g < 2000000 then cap ++ ags else ags ++ cap
def shMay : List Sh → List AV → Bool
  | .fn f _ :: r, .fn f' _ :: vs => f' == f && shMay r vs
  | .fn _ _ :: _, _ => false
  | _ :: r, _ :: vs => shMay r vs
  | _, _ => true
def findCall : List (FuncId × CSpec) → FuncId → List AV → Option CSpec
  | [], _, _ => none
  | (g, s) :: r, f, vs => if g == f && shMay (s.inp.slots.map (·.2)) vs then some s else findCall r f vs

/-- One operation that is carried out. -/
def carry (o : Oper) (nid : Nat) (st : ASt) (K : ASt → Tr Z) : Tr Z :=
  match (o.op.operands.toList).mapM (opIn st.slots D.glob) with
  | none => .fail
  | some vals =>
    if freshOK (newIds nid) D.glob st && o.dst.all (· < D.nt) then
      match o.op with
      | .panic _ => match vals with
        | [.ifc T v] => if closedV v && st.dfs.isEmpty then D.panK (.ifc T v) else .fail
        | _ => .fail
      | .next _ true => match vals with
        | [.ptr id 0] => match assoc st.objs id with
          | some (.iter s pos) => .br (decide (pos < s.size)) (K (st.upd o.dst (.tup [bool true, int pos, .sc (.int .i32 (Utf8.decode s pos).1)]) [(id, .iter s (pos + (Utf8.decode s pos).2))])) (K (st.upd o.dst (.tup [bool false]) []))
          | _ => .fail
        | _ => .fail
      | .call ⟨.value _, _, _⟩ => match vals with
        | .fn g cap :: ags => match assoc D.clones g with
          | some (e, t) => match cap, ags with
            | [], [x] => match unS t (settle st.objs x), assoc D.Θ e with
              | some xs, some te => if g < 1000000 then .vc (decide (xs.length * te.bytes ≤ 140737488355328)) (K (st.upd o.dst (.af nid) [(nid, .arr e t xs)])) else .fail
              | _, _ => .fail
            | _, _ => .fail
          | none => match findCall D.calls (calleeN g) (calleeV g ags cap) with
          | some s => match fitAll .nil0 (s.inp.slots.map (·.2)) s.inp.objs (calleeV g ags cap) st.objs with
            | some (x, b) =>
              if s.ok = true ∧ boundAll st.objs b.m s.inp.objs.length = true then
                let np := s.inp.objs.length
                let K' := fun (y : El (cns (tyL s.res) (tyO s.robj))) =>
                  K (st.upd o.dst (ren (outMap b.m np nid) (resV (mkL s.res (fst' y)))) (freezeIds st.objs b.fz ++ outObjs b.m np nid (mkO s.robj (snd' y))))
                match s.F with
                | .plain F => .bind _ (F x) K'
                | .exc sh F => .bindE _ _ (F x) (fun e => if st.dfs.isEmpty then D.panK (sh.mk e) else .fail) K'
              else .fail
            | none => .fail
          | none => .fail
        | _ => .fail
      | op => match core D.Θ D.eqs op nid (gather st.objs (touch op vals)) vals with
        | some c => .vc c.vc (K (st.upd o.dst c.dst c.objs))
        | none => .fail
    else .fail

/-- One operation, under its guard. -/
def stepT (ops : Array Oper) (o : Oper) (nid : Nat) (st : ASt) (K : ASt → Tr Z) : Tr Z :=
  match o.guard with
  | none => carry D o nid st K
  | some (j, want) => match (ops[j]?).bind (·.dst) with
    | some d => match assoc st.slots d with
      | some (.sc (.bool b)) =>
        let run := fun v => carry D o nid { st with slots := (d, .sc (.bool v)) :: st.slots } K
        let skip := fun v => if o.dst.all (· < D.nt) then K ({ st with slots := (d, .sc (.bool v)) :: st.slots }.upd o.dst (.tup []) []) else .fail
        .br b (cond want (run true) (skip true)) (cond want (skip false) (run false))
      | some (.tup []) => if o.dst.all (· < D.nt) then K (st.upd o.dst (.tup []) []) else .fail
      | _ => .fail
    | none => .fail

/-- A call is deferred. -/
def deferT (o : Oper) (st : ASt) (K : ASt → Tr Z) : Tr Z := match o.op with
  | .defer ⟨.value fo, ags, _⟩ => match opIn st.slots D.glob fo with
    | some (.fn g cap) => if ags.size = 0 ∧ g < 1000000 ∧ o.dst = none ∧ o.guard = none ∧ D.rnd = false then K { st with dfs := .fn g cap :: st.dfs } else .fail
    | _ => .fail
  | _ => .fail
def isDefer : Op → Bool
  | .defer _ => true
  | _ => false

def runT (ops : Array Oper) : List Nat → ASt → (ASt → Tr Z) → Tr Z
  | [], st, K => K { st with nxt := st.nxt + 16 * ops.size }
  | i :: r, st, K => match ops[i]? with
    | some o => if isDefer o.op then deferT D o st (fun st' => runT ops r st' K) else stepT D ops o (st.nxt + 16 * i) st (fun st' => runT ops r st' K)
    | none => runT ops r st K

/-- The objects that an operation leans on or turns. -/
def tchOf (o : Oper) (st : ASt) : List Nat :=
  match (o.op.operands.toList).mapM (opIn st.slots D.glob) with
  | none => []
  | some vals => match o.op with
    | .call ⟨.value _, _, _⟩ => match vals with
      | .fn g cap :: ags => match assoc D.clones g with
        | some _ => ags.flatMap leanOn
        | none => match findCall D.calls (calleeN g) (calleeV g ags cap) with
        | some s => match fitAll .nil0 (s.inp.slots.map (·.2)) s.inp.objs (calleeV g ags cap) st.objs with
          | some (_, b) => b.m.map (·.2) ++ b.fz
          | none => []
        | none => []
      | _ => []
    | op => touch op vals

/-- Cells that a load looks at: whose, where, how many, what is found. -/
structure Look where
  id : Nat
  off : Nat
  sz : Nat
  cs : List AV
/-- An operation that was carried out: what it gave, what it put, what it leant on, what was there before; the cells of a load. -/
structure Ent where
  i : Nat
  o : Oper
  val : AV
  ws : List (Nat × AObj)
  tch : List Nat
  old : List (Nat × AObj) := []
  look : Option Look := none
def rng (off sz : Nat) (cs : List AV) : List AV := (cs.drop off).take sz
def lookOf (o : Oper) (st : ASt) : Option Look :=
  match (o.op.operands.toList).mapM (opIn st.slots D.glob) with
  | some [.ptr id off] => match o.op with
    | .load T _ => match assoc D.Θ T, assoc st.objs id with
      | some ti, some (.var _ cs) => if 0 < ti.size then some ⟨id, off, ti.size, rng off ti.size cs⟩ else none
      | _, _ => none
    | _ => none
  | _ => none
open Classical in
noncomputable def holdsP (p : Prop) : Bool := decide p
theorem holdsP_iff {p : Prop} : holdsP p = true ↔ p := by simp [holdsP]
/-- Two values are the same, said plainly. -/
def eqAV : AV → AV → Prop
  | .sl t xs, .sl t' ys => if h : t' = t then (h ▸ ys) = xs else False
  | .sc (.int k n), .sc (.int k' m) => k' = k ∧ m = n
  | .sc (.string a), .sc (.string b) => b = a
  | .sc (.bool a), .sc (.bool b) => b = a
  | x, y => y = x
theorem eqAV_eq {x y : AV} (h : eqAV x y) : y = x := by
  unfold eqAV at h
  split at h
  · split at h
    · rename_i he; subst he; simp at h; rw [h]
    · exact h.elim
  · rw [h.1, h.2]
  · rw [h]
  · rw [h]
  · exact h
def eqAVs : List AV → List AV → Prop
  | [], [] => True
  | a :: l, b :: r => eqAV a b ∧ eqAVs l r
  | _, _ => False
theorem eqAVs_eq : ∀ {l r : List AV}, eqAVs l r → r = l
  | [], [], _ => rfl
  | a :: l, b :: r, h => by rw [eqAV_eq h.1, eqAVs_eq h.2]
  | [], _ :: _, h => h.elim
  | _ :: _, [], h => h.elim
theorem eqAV_refl : ∀ x : AV, eqAV x x
  | .sl t xs => by
    show if h : t = t then _ else False
    rw [dif_pos rfl]
  | .sc v => by cases v <;> first | rfl | exact ⟨rfl, rfl⟩
  | .gd _ _ | .agg _ | .tup _ | .ptr _ _ | .pp _ _ _ | .pr _ _ | .af _ | .as_ _ _ _ _ | .ap _ _ _ _ | .fn _ _ | .ifc _ _ | .junk => rfl
theorem eqAVs_refl : ∀ l : List AV, eqAVs l l
  | [] => trivial
  | a :: l => ⟨eqAV_refl a, eqAVs_refl l⟩
def keepO (l : Look) : AObj → Prop
  | .var _ cs => eqAVs l.cs (rng l.off l.sz cs)
  | _ => False
/-- What is written leaves the cells as they were seen. -/
def keepW (l : Look) : List (Nat × AObj) → Prop
  | [] => True
  | (i, o) :: r => match i == l.id with
    | true => keepO l o ∧ keepW l r
    | false => keepW l r
theorem keepW_mem {l : Look} : ∀ {ws : List (Nat × AObj)}, keepW l ws → ∀ o, (l.id, o) ∈ ws → keepO l o
  | [], _, o, h => by cases h
  | (i, p) :: r, hk, o, h => by
    unfold keepW at hk
    rcases List.mem_cons.1 h with h | h
    · cases h
      simp only [beq_self_eq_true] at hk
      exact hk.1
    · split at hk
      · exact keepW_mem hk.2 o h
      · exact keepW_mem hk o h

def predsOf (o : Oper) : List Nat := (o.after.toList.filter (Region.binds .any)).map (·.on)
def ancStep (t : List Nat) : List Nat → Nat
  | [] => 0
  | p :: ps => ancStep t ps ||| (2 ^ p ||| t.getD p 0)
/-- For each operation the set of those that come before it in every order. -/
def ancTab (ops : Array Oper) : Nat → List Nat
  | 0 => []
  | n + 1 => ancTab ops n ++ [ancStep (ancTab ops n) ((ops[n]?).elim [] predsOf)]
def isAnc (A : List Nat) (i j : Nat) : Bool := (A.getD j 0).testBit i
def lacksE (N : Nat → Bool) (e : Ent) : Bool := lacks N e.val && e.ws.all (fun p => !N p.1 && lacksO N p.2)
def apartIds (l r : List Nat) : Bool := l.all fun i => !r.contains i
/-- The first of two operations may stand ahead of the other one; if nothing binds them, the other way round too. -/
def pairOK (ops : Array Oper) (A : List Nat) (n0 : Nat) (a b : Ent) : Bool :=
  lacksE (newIds (n0 + 16 * b.i)) a && (isAnc A a.i b.i || (lacksE (newIds (n0 + 16 * a.i)) b && a.o.apart ops b.o &&
    apartIds (a.ws.map (·.1)) (b.ws.map (·.1)) && apartIds (a.ws.map (·.1)) b.tch && apartIds (b.ws.map (·.1)) a.tch))
/-- As pairOK, but for what a load looks at. -/
def pairO (ops : Array Oper) (A : List Nat) (n0 : Nat) (a b : Ent) : Bool :=
  lacksE (newIds (n0 + 16 * b.i)) a && (isAnc A a.i b.i || (lacksE (newIds (n0 + 16 * a.i)) b && a.o.apart ops b.o && apartIds (a.ws.map (·.1)) (b.ws.map (·.1))))
/-- What l looks at is not written by w, or it is left as it was. -/
noncomputable def guardL (ap : Bool) (l : Option Look) (w : Ent) (t : Tr Z) : Tr Z :=
  match ap with
  | true => t
  | false => match l with
    | some l => if w.old.any fun p => p.1 == l.id then .vc (holdsP (keepW l (w.ws ++ w.old))) t else .fail
    | none => .fail
noncomputable def guardP (A : List Nat) (a b : Ent) (t : Tr Z) : Tr Z :=
  match isAnc A a.i b.i with
  | true => t
  | false => guardL (apartIds (b.ws.map (·.1)) a.tch) a.look b (guardL (apartIds (a.ws.map (·.1)) b.tch) b.look a t)
noncomputable def guards (A : List Nat) : List Ent → Ent → Tr Z → Tr Z
  | [], _, t => t
  | a :: l, e, t => guardP A a e (guards A l e t)
def oldOf (objs ws : List (Nat × AObj)) : List (Nat × AObj) := ws.filterMap fun p => (assoc objs p.1).map (p.1, ·)
def entOf (i : Nat) (o : Oper) (tch : List Nat) (lk : Option Look) (st st' : ASt) : Ent :=
  ⟨i, o, match o.dst with
    | some d => (assoc st'.slots d).getD .junk
    | none => .junk, (st'.objs.take (st'.objs.length - st.objs.length)).reverse, tch, oldOf st.objs (st'.objs.take (st'.objs.length - st.objs.length)).reverse, lk⟩

/-- Operations of a region that draws, in one order; the log shows that every order comes to the same. -/
noncomputable def runD (ops : Array Oper) (A : List Nat) (n0 : Nat) : List Nat → ASt → List Ent → (ASt → Tr Z) → Tr Z
  | [], st, _, K => K { st with nxt := st.nxt + 16 * ops.size }
  | i :: r, st, log, K => match ops[i]? with
    | some o =>
      let tch := tchOf D o st
      stepT { D with panK := fun v => if (log.all fun a => pairOK ops A n0 a ⟨i, o, .junk, [], tch, [], none⟩) && (r.all fun j => isAnc A i j) then D.panK v else .fail } ops o (n0 + 16 * i) st fun st' =>
        if log.all fun a => pairO ops A n0 a (entOf i o tch (lookOf D o st) st st') then guards A log (entOf i o tch (lookOf D o st) st st') (runD ops A n0 r st' (entOf i o tch (lookOf D o st) st st' :: log) K) else .fail
    | none => .fail
/-- Every operation once, behind what binds it. -/
def ordOK (ops : Array Oper) : List Nat → Nat → Bool
  | [], m => m == 2 ^ ops.size - 1
  | i :: r, m => !m.testBit i && decide (i < ops.size) && ((ops[i]?).elim [] predsOf).all (fun p => m.testBit p) && ordOK ops r (m ||| 2 ^ i)
def orderOf (id : Nat) (ops : Array Oper) : List Nat := (assoc D.orders id).getD (List.range ops.size)
noncomputable def drawT (id : Nat) (ops : Array Oper) (st : ASt) (K : ASt → Tr Z) : Tr Z :=
  if ordOK ops (orderOf D id ops) 0 && freshOK (fun j => decide (st.nxt ≤ j) && decide (j < st.nxt + 16 * ops.size)) D.glob st then
    runD D ops (ancTab ops ops.size) st.nxt (orderOf D id ops) st [] K
  else .fail

/-- Where a walk goes on behind a place: some none at the function's end. -/
def climb (body : Code) : List Nat → Option (Option (List Nat))
  | [] => some none
  | d :: q => match at_ body q with
    | some (.code (.seq _ _) :: _) => if d == 0 then some (some (1 :: q)) else climb body q
    | some (.code (.cond ..) :: _) => climb body q
    | some (.code (.block ..) :: _) => climb body q
    | some (.code (.loop _) :: _) => some (some (0 :: q))
    | _ => none
def exitPos (body : Code) (id : Nat) : List Nat → Option (List Nat)
  | [] => none
  | _ :: q => match at_ body q with
    | some (.code (.block id' _) :: _) => if id' == id then some q else exitPos body id q
    | _ => exitPos body id q

def findPt (l : List (List Nat × Pt Z)) (p : List Nat) : Option (Pt Z) :=
  match l with
  | [] => none
  | (q, t) :: r => if q == p then some t else findPt r p

def resVals (Θ : Tab) (st : ASt) : List ResultVar → Option (List AV)
  | [] => some []
  | .tmp t :: r => match assoc st.slots t, resVals Θ st r with
    | some v, some vs => some (v :: vs)
    | _, _ => none
  | .cell a T :: r => match assoc st.slots a with
    | some (.ptr id off) => match coreLoad Θ T (gather st.objs [id]) (.ptr id off), resVals Θ st r with
      | some c, some vs => if c.vc = true then some (c.dst :: vs) else none
      | _, _ => none
    | _ => none

def leave0 (st : ASt) : Tr Z := match resVals D.Θ st D.results with
  | some vs => D.retK vs st
  | none => .fail
/-- A function's end: what was deferred is done. -/
def leave (st : ASt) : Tr Z := match st.dfs with
  | [] => leave0 D st
  | [.mark id] => match assoc st.objs id with
    | some .dfr => leave0 D { st with objs := (id, .blk) :: st.objs, dfs := [] }
    | _ => .fail
  | [.fn f cap] => match findCall D.dcalls f cap with
    | some s => match fitAll .nil0 (s.inp.slots.map (·.2)) s.inp.objs cap st.objs with
      | some (x, b) =>
        if s.ok = true ∧ boundAll st.objs b.m s.inp.objs.length = true ∧ freshOK (newIds st.nxt) D.glob st = true then
          match s.F with
          | .plain F => .bind _ (F x) fun (y : El (cns (tyL s.res) (tyO s.robj))) =>
            leave0 D { st.upd none .junk (freezeIds st.objs b.fz ++ outObjs b.m s.inp.objs.length st.nxt (mkO s.robj (snd' y))) with dfs := [] }
          | _ => .fail
        else .fail
      | none => .fail
    | none => .fail
  | _ => .fail
/-- A loop over a function: the function is called with the loop's yield. -/
def rangeT (p : List Nat) (g : Operand) (st : ASt) (K : ASt → Tr Z) : Tr Z := match yAt D.fname, opIn st.slots D.glob g with
  | some (p', sl), some (.fn gf cap) => match getAll st.slots sl with
    | some cv =>
      let nid := st.nxt
      let st1 : ASt := { st with objs := (nid + 1, .lp D.fid false cv) :: (nid, .dfr) :: st.objs }
      let ags := [AV.fn (2000000 + D.fid) [.ptr (nid + 1) 0]]
      if p' == p && st.dfs.isEmpty && D.bodied.contains (calleeN gf) && decide (calleeN gf < 1000000) && freshOK (fun i => i == nid || i == nid + 1) D.glob st && freshOK (newIds (nid + 16)) D.glob st1 then
        match findCall D.calls (calleeN gf) (calleeV gf ags cap) with
        | some s => match fitAll .nil0 (s.inp.slots.map (·.2)) s.inp.objs (calleeV gf ags cap) st1.objs with
          | some (x, b) =>
            if s.ok = true ∧ boundAll st1.objs b.m s.inp.objs.length = true then
              match s.F with
              | .plain F => .bind _ (F x) fun (y : El (cns (tyL s.res) (tyO s.robj))) =>
                let st2 := st1.upd none .junk (freezeIds st1.objs b.fz ++ outObjs b.m s.inp.objs.length (nid + 16) (mkO s.robj (snd' y)))
                match assoc st2.objs (nid + 1) with
                | some (.lp _ false _) => K { slots := st.slots, objs := (nid + 1, .blk) :: st2.objs, nxt := nid + 64, dfs := [.mark nid] }
                | _ => .fail
              | _ => .fail
            else .fail
          | none => .fail
        | none => .fail
      else .fail
    | none => .fail
  | _, _ => .fail

def jumpTo (t : Pt Z) (st : ASt) : Tr Z :=
  match getAll st.slots (t.pat.slots.map (·.1)) with
  | some vs => match fitAll (idB D.np t.pat.objs) (t.pat.slots.map (·.2)) t.pat.objs vs st.objs with
    | some (x, _) => if noGone D.np t.pat.objs (mkL (t.pat.slots.map (·.2)) (fst' x)) (mkO t.pat.objs (snd' x)) = true ∧ st.dfs.isEmpty = true ∧ (List.range D.np).all (fun i => (t.pat.objs.map (·.1)).contains i) = true then .jump (t.F x) else .fail
    | none => .fail
  | none => .fail

/-- The walk from a place: up to points, to the function's end, to a panic. -/
noncomputable def drive : Nat → List Nat → ASt → Tr Z
  | 0, _, _ => .fail
  | n + 1, p, st =>
    let go := fun p' st' => match findPt D.pts p' with
      | some t => jumpTo D t st'
      | none => drive n p' st'
    let up := fun q st' => match climb D.body q with
      | some (some p') => go p' st'
      | some none => leave D st'
      | none => .fail
    match at_ D.body p with
    | some (.code c :: _) => match c with
      | .skip => up p st
      | .seq _ _ => go (0 :: p) st
      | .block _ _ => go (0 :: p) st
      | .loop _ => go (0 :: p) st
      | .cond x _ _ => match opIn st.slots D.glob x with
        | some (.sc (.bool b)) => .br b (go (0 :: p) st) (go (1 :: p) st)
        | _ => .fail
      | .region id ops dr => if dr = true then drawT D id ops st (fun st' => up p st') else runT D ops (List.range ops.size) st (fun st' => up p st')
      | .exit id => match exitPos D.body id p with
        | some q => up q st
        | none => .fail
      | .ret => leave D st
      | .rangeFunc g _ _ _ => rangeT D p g st (fun st' => up p st')
      | _ => .fail
    | _ => .fail
end

/-- The ends of a function that never panics. -/
def retPlain (np : Nat) (res : List Sh) (robj : List (Nat × OSh)) (vs : List AV) (st : ASt) : Tr (El (cns (tyL res) (tyO robj))) :=
  match fitAll (idB np robj) res robj vs st.objs with
  | some (y, _) => if noGone np robj (mkL res (fst' y)) (mkO robj (snd' y)) = true then .done y else .fail
  | none => .fail
def retExc (np : Nat) (res : List Sh) (robj : List (Nat × OSh)) (E : Type) (vs : List AV) (st : ASt) : Tr (Except E (El (cns (tyL res) (tyO robj)))) :=
  match fitAll (idB np robj) res robj vs st.objs with
  | some (y, _) => if noGone np robj (mkL res (fst' y)) (mkO robj (snd' y)) = true then .done (.ok y) else .fail
  | none => .fail
def panExc {Y : Type} (sh : Sh) (v : AV) : Tr (Except (El sh.ty) Y) :=
  match fit [] sh v with
  | some (e, ⟨[], _, []⟩) => match sh.mk e with
    | .ifc _ x => if closedV x = true then .done (.error e) else .fail
    | _ => .fail
  | _ => .fail
end Go.AM
