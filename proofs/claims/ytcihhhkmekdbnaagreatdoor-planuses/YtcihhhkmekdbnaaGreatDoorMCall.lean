/-
  The abstract machine, a part.
-/
import Derived.Test.YtcihhhkmekdbnaaGreatDoorMFit
import Derived.OrdersIn
import Derived.RangeFuncIn
/-
  The abstract machine, part 17: contracts of functions, and what a call does to a state.
-/
namespace Go.AM
open Go RowKit

/-- A function is called: one with a body, or one that the model carries out at once. -/
def Inv (P : Program) (f : FuncId) (vs : Array Value) (w : World) (R : Ending → World → Prop) : Prop :=
  match (callFunc f vs).run P w with
  | .ok (.enter g vs') w' => Calls P g vs' w' R
  | .ok (.value v) w' => R (.returned v) w'
  | _ => False
/-- A function's value is called; a loop's yield too. -/
def InvV (P : Program) (u : Value) (vs : List Value) (w : World) (R : Ending → World → Prop) : Prop :=
  match u with
  | .func (.func f) first cap => Inv P f (first ++ vs.toArray ++ cap) w R
  | .func (.yield l) _ _ => match (Instr.yield l vs.toArray).run P w with
    | .ok (.round l' f tmps asg body) w' => RoundIn Fence.wide 0 P l' f tmps asg body w' R
    | _ => False
  | _ => False

/-- What a function is handed. -/
structure Entry (glob : List (Nat × AV)) (M0 : Nat → Prop) (κ : Nat → Value) (inp : Pat) (x : inp.X) (w : World) (vs : List Value) : Prop where
  mem : Mem glob M0 (live κ (mkO inp.objs (snd' x))) w w κ (mkO inp.objs (snd' x))
  vals : RepL w (okB M0 κ (mkO inp.objs (snd' x))) κ (mkL (inp.slots.map (·.2)) (fst' x)) vs
  old : ∀ b, M0 b → b < w.heap.size

def RetOut (glob : List (Nat × AV)) (M0 B0 : Nat → Prop) (κ : Nat → Value) (w : World) (np : Nat) (res : List Sh) (robj : List (Nat × OSh)) (y : El (cns (tyL res) (tyO robj))) : Ending → World → Prop
  | .returned v, w' => ∃ κ', (∀ i, i < np → κ' i = κ i) ∧ Mem glob M0 B0 w w' κ' (mkO robj (snd' y)) ∧ RepV w' (okB M0 κ' (mkO robj (snd' y))) κ' (resV (mkL res (fst' y))) v
  | _, _ => False
def PanOut (B0 : Nat → Prop) (w : World) (v : AV) : Ending → World → Prop
  | .panicked chain, w' => ∃ u, chain = [{ v := u, recovered := false }] ∧ (∀ w ok κ, RepV w ok κ v u) ∧ Keeps B0 w w'
  | _, _ => False

/-- How a callee is invoked with all that it is handed: a function; a loop's yield. -/
def Invoked (P : Program) (w : World) (f : Nat) (vs : List Value) (I : (Ending → World → Prop) → Prop) : Prop :=
  if f < 1000000 then I = Inv P f vs.toArray w
  else ∃ ags caps u, vs = ags ++ caps ∧ FnR f caps u ∧ I = InvV P u ags w
/-- A function does as its contract says. -/
def CallOK (P : Program) (glob : List (Nat × AV)) (f : FuncId) (s : CSpec) : Prop :=
  ∀ (x : s.inp.X) (M0 : Nat → Prop) (κ : Nat → Value) (w : World) (vs : List Value) (I : (Ending → World → Prop) → Prop), Entry glob M0 κ s.inp x w vs → Invoked P w f vs I →
    match s.F with
    | .plain F => ∀ y, F x = some y → I (RetOut glob M0 (live κ (mkO s.inp.objs (snd' x))) κ w s.inp.objs.length s.res s.robj y)
    | .exc sh F => ∀ r, F x = some r → I (match r with
      | .ok y => RetOut glob M0 (live κ (mkO s.inp.objs (snd' x))) κ w s.inp.objs.length s.res s.robj y
      | .error e => PanOut (live κ (mkO s.inp.objs (snd' x))) w (sh.mk e))

section
variable {P : Program} {glob : List (Nat × AV)} {M0 B0 : Nat → Prop} {w0 w w' : World} {κ κ' : Nat → Value} {objs : List (Nat × AObj)} {ok ok1 : Nat → Prop}

mutual
theorem ren_rep {f : Nat → Option Nat} {κn : Nat → Value} (hf : ∀ i j, f i = some j → κn j = κ' i) : ∀ (v : AV) (u : Value), RepV w ok κ' v u → RepV w ok κn (ren f v) u
  | .sc v, u, hr => hr
  | .gd c v, u, hr => fun hc => ren_rep hf v u (hr hc)
  | .sl t xs, u, hr => hr
  | .agg cs, u, hr => by obtain ⟨us, he, hl⟩ := hr; exact ⟨us, he, renL_rep hf cs us hl⟩
  | .tup cs, u, hr => by obtain ⟨us, he, hl⟩ := hr; exact ⟨us, he, renL_rep hf cs us hl⟩
  | .ptr id off, u, hr => by
    obtain ⟨b, h1, h2⟩ := hr
    simp only [ren]
    split
    · rename_i j hj; exact ⟨b, (hf id j hj).trans h1, h2⟩
    · trivial
  | .pp t x off, u, hr => hr
  | .pr t xs, u, hr => hr
  | .af id, u, hr => by
    simp only [ren]
    split
    · rename_i j hj; exact ⟨hr.1.trans (hf id j hj).symm, hr.2⟩
    · trivial
  | .as_ id lo len sz, u, hr => by
    obtain ⟨a, n, c, a', c', h1, h2⟩ := hr
    simp only [ren]
    split
    · rename_i j hj; exact ⟨a, n, c, a', c', (hf id j hj).trans h1, h2⟩
    · trivial
  | .ap id idx off sz, u, hr => by
    obtain ⟨b, n, c, h1, h2⟩ := hr
    simp only [ren]
    split
    · rename_i j hj; exact ⟨b, n, c, (hf id j hj).trans h1, h2⟩
    · trivial
  | .fn g cap, u, hr => by obtain ⟨us, he, hl⟩ := hr; exact ⟨us, he, renL_rep hf cap us hl⟩
  | .ifc t v, u, hr => by obtain ⟨u', he, hv⟩ := hr; exact ⟨u', he, ren_rep hf v u' hv⟩
  | .junk, _, _ => trivial
theorem renL_rep {f : Nat → Option Nat} {κn : Nat → Value} (hf : ∀ i j, f i = some j → κn j = κ' i) : ∀ (cs : List AV) (us : List Value), RepL w ok κ' cs us → RepL w ok κn (renL f cs) us
  | [], us, hr => hr
  | c :: cs, us, hr => by obtain ⟨u, us', he, hv, hl⟩ := hr; exact ⟨u, us', he, ren_rep hf c u hv, renL_rep hf cs us' hl⟩
end

theorem renO_rep {f : Nat → Option Nat} {κn : Nat → Value} (hf : ∀ i j, f i = some j → κn j = κ' i) {i j : Nat} (hi : f i = some j) {o : AObj} (h : ObjR w ok κ' i o) : ObjR w ok κn j (renO f o) := by
  have hk := hf i j hi
  cases o with
  | var t cs =>
    obtain ⟨b, us, h1, h2, h3, h4⟩ := h
    exact ⟨b, us, hk.trans h1, h2, renL_rep hf cs us h3, h4⟩
  | arr e t xs =>
    obtain ⟨cells, h1, h2⟩ := h
    exact ⟨cells, by rw [hk]; exact h1, h2⟩
  | fz t xs =>
    have h' : RepS w ok t xs (κ' i) := h
    have : RepS w ok t xs (κn j) := by rw [hk]; exact h'
    exact this
  | iter s pos =>
    obtain ⟨b, h1, h2⟩ := h
    exact ⟨b, hk.trans h1, h2⟩
  | dfr =>
    obtain ⟨b, h1, h2⟩ := h
    exact ⟨b, hk.trans h1, h2⟩
  | lp key busy cs =>
    obtain ⟨b, r, y, h1, h2, h3, h4, h5, h6, h7, h8, h9, h10, h11⟩ := h
    exact ⟨b, r, y, hk.trans h1, h2, h3, h4, h5, h6, h7, h8, h9, h10, renL_rep hf cs _ h11⟩
  | blk =>
    obtain ⟨b, h1, h2⟩ := h
    exact ⟨b, hk.trans h1, h2⟩
  | gone => trivial
theorem renO_mut (f : Nat → Option Nat) (o : AObj) : mutO (renO f o) = mutO o := by cases o <;> rfl

/-- Blocks that a callee must leave: the caller's own, and what the caller could not touch. -/
def calleeM (M0 : Nat → Prop) (κ κc : Nat → Value) (objs1 cobjs : List (Nat × AObj)) (k : Nat) : Prop := M0 k ∨ (live κ objs1 k ∧ ¬ live κc cobjs k)

theorem call_entry (hm : Mem glob M0 B0 w0 w κ objs) (hM : ∀ b, M0 b → b < w.heap.size) (hgl : ∀ g v, assoc glob g = some v → lacks (fun _ => true) v = true) {b : Bnd} (hg : b.good = true) {inp : Pat} {x : inp.X} {us : List Value}
    (hf : Fitted w M0 κ objs b (inp.slots.map (·.2)) inp.objs x us) : Entry glob (calleeM M0 κ (b.kap κ) (freezeAll objs b.fz) (mkO inp.objs (snd' x))) (b.kap κ) inp x w us := by
  obtain ⟨_, m1⟩ := hm.freezeAll hM b.fz
  have hx : Ext w w (okB M0 κ (freezeAll objs b.fz)) (okB (calleeM M0 κ (b.kap κ) (freezeAll objs b.fz) (mkO inp.objs (snd' x))) (b.kap κ) (mkO inp.objs (snd' x))) := by
    refine ⟨fun _ _ _ => rfl, fun k hk _ => ⟨fun h => ?_, fun hl => hk.2 (hf.live hl)⟩⟩
    rcases h with h | h
    · exact hk.1 h
    · exact hk.2 h.1
  refine ⟨⟨fun i o ho => ?_, fun i j o p k => hf.sep hm hM hg i j o p k, fun k hk => ⟨fun h => ?_, .inr hk⟩, Keeps.refl _ _, fun g v hgv => ?_⟩, RepL.mono hx _ _ hf.vals, fun k hk => ?_⟩
  · exact ObjR.mono (N := fun _ => false) hx (fun _ _ => rfl) rfl (lacksOF o) (fun _ _ _ => rfl) (hf.each i o ho)
  · rcases h with h | h
    · exact (m1.off k (hf.live hk)).1 h
    · exact h.2 hk
  · exact RepV.kap (N := fun _ => true) (fun _ h => by cases h) v _ (hgl g v hgv) (RepV.mono hx v _ (m1.glob g v hgv))
  · rcases hk with h | h
    · exact hM k h
    · exact m1.live_lt h.1
end
end Go.AM
