/-
  The abstract machine, a part.
-/
import Derived.Test.YtcihhhkmekdbnaaGreatDoorMDraw3
import Derived.Test.YtcihhhkmekdbnaaGreatDoorMDrive
/-
  The abstract machine, part 26: a region that draws its order.
-/
namespace Go.AM
open Go RowKit
section
variable {P : Program} {Z : Type} {D : DEnv Z} {M0 B0 : Nat → Prop} {w0 w w' : World} {κ0 κ κ' : Nat → Value} {Out : Z → Ending → World → Prop} {st st2 : ASt} {a : Act} {ops : Array Oper} {A : List Nat} {n0 : Nat} {ro : Option Nat} {n : Nat}

/-- What w writes leaves the cells of a load as they were seen. -/
def Kept (l : Option Look) (w : Ent) : Prop := ∃ lk, l = some lk ∧ (∃ o, (lk.id, o) ∈ w.old) ∧ (∀ o, (lk.id, o) ∈ w.ws ++ w.old → keepO lk o)
def PairS (ops : Array Oper) (A : List Nat) (n0 : Nat) (x e : Ent) : Prop :=
  lacksE (newIds (n0 + 16 * e.i)) x = true ∧ (isAnc A x.i e.i = true ∨ (lacksE (newIds (n0 + 16 * x.i)) e = true ∧ x.o.apart ops e.o = true ∧
    (∀ i ∈ x.ws.map (·.1), i ∉ e.ws.map (·.1)) ∧ ((∀ i ∈ x.ws.map (·.1), i ∉ e.tch) ∨ Kept e.look x) ∧ ((∀ i ∈ e.ws.map (·.1), i ∉ x.tch) ∨ Kept x.look e)))
/-- An operation was carried out behind those in pre. -/
structure Did (D : DEnv Z) (ops : Array Oper) (A : List Nat) (n0 : Nat) (s : ASt) (pre : List Ent) (e : Ent) : Prop where
  op : ops[e.i]? = some e.o
  out : ∃ v, stepE D ops e.o (n0 + 16 * e.i) s = some (.ok (v, e.ws)) ∧ ∀ s' : ASt, s'.upd e.o.dst v e.ws = s'.upd e.o.dst e.val e.ws
  tch : tchOf D e.o s = e.tch
  pair : ∀ x ∈ pre, PairS ops A n0 x e
  look : e.look = lookOf D e.o s
  old : ∀ k ob, (k, ob) ∈ e.old → assoc s.objs k = some ob
def Trace (D : DEnv Z) (ops : Array Oper) (A : List Nat) (n0 : Nat) (st0 : ASt) : List Ent → List Ent → Prop
  | _, [] => True
  | pre, e :: E => Did D ops A n0 (app st0 pre) pre e ∧ Trace D ops A n0 st0 (pre ++ [e]) E
theorem Trace.pair {st0 : ASt} : ∀ (E pre : List Ent), Trace D ops A n0 st0 pre E → ∀ e ∈ E, ∀ x ∈ pre, PairS ops A n0 x e
  | [], _, _, e, he, _, _ => by simp at he
  | y :: E, pre, h, e, he, x, hx => by
    rcases List.mem_cons.1 he with rfl | he
    · exact h.1.pair x hx
    · exact Trace.pair E _ h.2 e he x (by simp [hx])
theorem Trace.split {st0 : ASt} {e : Ent} {E2 : List Ent} : ∀ (E1 pre : List Ent), Trace D ops A n0 st0 pre (E1 ++ e :: E2) → Did D ops A n0 (app st0 (pre ++ E1)) (pre ++ E1) e ∧ Trace D ops A n0 st0 (pre ++ E1 ++ [e]) E2
  | [], pre, h => by simpa [Trace] using h
  | y :: E1, pre, h => by
    have := Trace.split E1 (pre ++ [y]) h.2
    simpa [List.append_assoc] using this

/-- What stopped a region, if something did. -/
structure Stop (D : DEnv Z) (ops : Array Oper) (A : List Nat) (n0 : Nat) (z : Z) (s : ASt) (E : List Ent) (i : Nat) (r : List Nat) : Prop where
  stop : ∃ o v, ops[i]? = some o ∧ stepE D ops o (n0 + 16 * i) s = some (.error v) ∧ (D.panK v).eval = some z ∧ ∀ x ∈ E, pairOK ops A n0 x ⟨i, o, .junk, [], tchOf D o s, [], none⟩ = true
  rest : ∀ j ∈ r, isAnc A i j = true

theorem ready_of {listed : Array Bool} {j : Nat} (hs : listed.size = ops.size) : j ∈ Region.ready .any ops listed ↔ j < ops.size ∧ listed.getD j false = false ∧ ∃ o, ops[j]? = some o ∧ ∀ p ∈ predsOf o, listed.getD p false = true := by
  rw [mem_ready]
  have h0 : ∀ o, ops[j]? = some o → j < ops.size := fun o ho => (Array.getElem?_eq_some_iff.1 ho).1
  have hp : ∀ o : Oper, (∀ e ∈ o.after, Region.binds .any e = true → listed.getD e.on false = true) ↔ ∀ p ∈ predsOf o, listed.getD p false = true := by
    intro o
    unfold predsOf
    constructor
    · intro h p hp
      obtain ⟨e, h1, h2⟩ := List.mem_map.1 hp
      rw [List.mem_filter] at h1
      exact h2 ▸ h e (by simpa using h1.1) h1.2
    · intro h e he hb
      exact h e.on (List.mem_map.2 ⟨e, List.mem_filter.2 ⟨by simpa using he, hb⟩, rfl⟩)
  have hd : j < ops.size → (listed.getD j true = false ↔ listed.getD j false = false) := fun hj => by
    have : j < listed.size := hs ▸ hj
    simp [Array.getD, this]
  constructor
  · rintro ⟨h1, o, h2, h3⟩
    exact ⟨h0 o h2, (hd (h0 o h2)).1 h1, o, h2, (hp o).1 h3⟩
  · rintro ⟨h1, h2, o, h3, h4⟩
    exact ⟨(hd h1).2 h2, o, h3, (hp o).2 h4⟩

theorem pairOK_spec {x e : Ent} (h : pairOK ops A n0 x e = true) : lacksE (newIds (n0 + 16 * e.i)) x = true ∧ (isAnc A x.i e.i = true ∨ (lacksE (newIds (n0 + 16 * x.i)) e = true ∧ x.o.apart ops e.o = true ∧
    (∀ i ∈ x.ws.map (·.1), i ∉ e.ws.map (·.1)) ∧ (∀ i ∈ x.ws.map (·.1), i ∉ e.tch) ∧ (∀ i ∈ e.ws.map (·.1), i ∉ x.tch))) := by
  unfold pairOK apartIds at h
  simp only [Bool.and_eq_true, Bool.or_eq_true, List.all_eq_true, Bool.not_eq_true', List.contains_eq_mem, decide_eq_false_iff_not] at h
  obtain ⟨h1, h2⟩ := h
  refine ⟨h1, h2.imp id (fun h => ?_)⟩
  obtain ⟨⟨⟨⟨a, b⟩, c⟩, d⟩, e⟩ := h
  exact ⟨a, b, c, d, e⟩

/-- The cells that a load looks at, in a state. -/
def GoodAt (l : Look) (s : ASt) : Prop := ∃ o, assoc s.objs l.id = some o ∧ keepO l o
theorem put_some {objs ws : List (Nat × AObj)} {i : Nat} (h : i ∈ ws.map (·.1)) : ∃ o, (i, o) ∈ ws ∧ ∀ objs', assoc (putObjs objs' ws) i = some o := by
  have hm : ∃ o, assoc ws.reverse i = some o := by
    cases hx : assoc ws.reverse i with
    | some o => exact ⟨o, rfl⟩
    | none =>
      obtain ⟨p, hp, he⟩ := List.mem_map.1 h
      obtain ⟨j, o⟩ := p
      subst he
      exact absurd (List.mem_reverse.2 hp) (assoc_none hx o)
  obtain ⟨o, ho⟩ := hm
  exact ⟨o, List.mem_reverse.1 (assoc_mem ho), fun objs' => by rw [assoc_putO, ho]⟩
theorem upd_objs (s : ASt) (dst : Option Tmp) (v : AV) (ws : List (Nat × AObj)) : (s.upd dst v ws).objs = putObjs s.objs ws := rfl
/-- Behind operations of which those that are left out leave the cells as they were. -/
theorem good_filter {l : Look} {p : Ent → Bool} {st0 : ASt} : ∀ (E : List Ent), Trace D ops A n0 st0 [] E → (∀ x ∈ E, p x = false → l.id ∈ x.ws.map (·.1) → (∃ o, (l.id, o) ∈ x.old) ∧ ∀ o, (l.id, o) ∈ x.ws ++ x.old → keepO l o) → GoodAt l (app st0 E) → GoodAt l (app st0 (E.filter p)) := by
  intro E
  induction hn : E.length generalizing E with
  | zero => intro _ _ h; rw [List.length_eq_zero_iff.1 hn] at h ⊢; exact h
  | succ n ih =>
    intro hT hk hg
    rcases List.eq_nil_or_concat E with rfl | ⟨E', x, rfl⟩
    · simp at hn
    rw [List.concat_eq_append] at *
    have hlen : E'.length = n := by simpa using hn
    obtain ⟨hd, _⟩ := Trace.split E' [] (E2 := []) hT
    simp only [List.nil_append] at hd
    have hT' : Trace D ops A n0 st0 [] E' := by
      have : ∀ (F pre : List Ent), Trace D ops A n0 st0 pre (F ++ [x]) → Trace D ops A n0 st0 pre F := by
        intro F
        induction F with
        | nil => intro _ _; trivial
        | cons y F ih => intro pre h; exact ⟨h.1, ih _ h.2⟩
      exact this E' [] hT
    have hk' : ∀ y ∈ E', p y = false → l.id ∈ y.ws.map (·.1) → (∃ o, (l.id, o) ∈ y.old) ∧ ∀ o, (l.id, o) ∈ y.ws ++ y.old → keepO l o := fun y hy => hk y (by simp [hy])
    rw [List.filter_append]
    by_cases hw : l.id ∈ x.ws.map (·.1)
    · obtain ⟨o, ho, hput⟩ := put_some (objs := []) hw
      cases hp : p x with
      | true =>
        rw [List.filter_cons_of_pos (by simp [hp])]
        obtain ⟨o', h1, h2⟩ := hg
        rw [app_append] at h1 ⊢
        have e1 : assoc (app (app st0 E') [x]).objs l.id = some o := hput _
        rw [e1] at h1
        cases h1
        exact ⟨o, hput _, h2⟩
      | false =>
        rw [List.filter_cons_of_neg (by simp [hp]), List.filter_nil, List.append_nil]
        obtain ⟨⟨ob, hob⟩, hall⟩ := hk x (by simp) hp hw
        exact ih E' hlen hT' hk' ⟨ob, hd.old _ _ hob, hall ob (by simp [hob])⟩
    · have hg' : GoodAt l (app st0 E') := by
        obtain ⟨o', h1, h2⟩ := hg
        rw [app_append] at h1
        refine ⟨o', ?_, h2⟩
        rw [← h1]
        exact (putO_out hw).symm
      have hr := ih E' hlen hT' hk' hg'
      cases hp : p x with
      | true =>
        rw [List.filter_cons_of_pos (by simp [hp])]
        obtain ⟨o', h1, h2⟩ := hr
        rw [app_append]
        exact ⟨o', (putO_out hw).trans h1, h2⟩
      | false => rw [List.filter_cons_of_neg (by simp [hp]), List.filter_nil, List.append_nil]; exact hr
theorem good_app {l : Look} : ∀ (E : List Ent) (s : ASt), (∀ x ∈ E, l.id ∈ x.ws.map (·.1) → ∀ o, (l.id, o) ∈ x.ws → keepO l o) → GoodAt l s → GoodAt l (app s E)
  | [], s, _, h => h
  | x :: E, s, hk, h => by
    rw [app_cons]
    refine good_app E _ (fun y hy => hk y (by simp [hy])) ?_
    by_cases hw : l.id ∈ x.ws.map (·.1)
    · obtain ⟨o, ho, hput⟩ := put_some (objs := []) hw
      exact ⟨o, hput _, hk x (by simp) hw o ho⟩
    · obtain ⟨o', h1, h2⟩ := h
      exact ⟨o', (putO_out hw).trans h1, h2⟩
theorem good_look {o : Oper} {l : Look} {s : ASt} (h : lookOf D o s = some l) : GoodAt l s := by
  obtain ⟨T, x, ti, t, cs, _, _, _, h1, _, hsz, hcs⟩ := lookOf_spec h
  refine ⟨_, h1, ?_⟩
  show eqAVs l.cs (rng l.off l.sz cs)
  rw [hcs]
  exact eqAVs_refl _
theorem GoodAt.cells {l : Look} {s : ASt} (h : GoodAt l s) : ∃ t cs, assoc s.objs l.id = some (.var t cs) ∧ rng l.off l.sz cs = l.cs := by
  obtain ⟨o, h1, h2⟩ := h
  cases o with
  | var t cs => exact ⟨t, cs, h1, eqAVs_eq h2⟩
  | _ => exact h2.elim

theorem wpAny_log (T : Told P D M0 B0 w0 κ0 Out) {st0 : ASt} {E : List Ent} {rest : List Nat} {z : Z} {N : Act → World → Prop} (hT : Trace D ops (ancTab ops ops.size) n0 st0 [] E) (hord : ordOK ops (E.map (·.i) ++ rest) 0 = true)
    (hf0 : ∀ i, i < ops.size → Fresh (newIds (n0 + 16 * i)) D.glob st0) (hstop : ∀ i r, rest = i :: r → Stop D ops (ancTab ops ops.size) n0 z (app st0 E) E i r) (hN : rest = [] → ∀ κ a w, RD D M0 B0 w0 κ0 (app st0 E) κ a w → N a w) :
    ∀ (fuel : Nat) (listed : Array Bool) (a : Act) (w : World), listed.size = ops.size → ((E.map (·.i) ++ rest).filter fun i => !listed.getD i false).length ≤ fuel →
      (∀ i o, listed.getD i false = true → ops[i]? = some o → ∀ p ∈ predsOf o, listed.getD p false = true) → (∀ i, listed.getD i false = true → i ∈ E.map (·.i)) → (∃ κ, RD D M0 B0 w0 κ0 (app st0 (E.filter fun e => listed.getD e.i false)) κ a w) →
      wpAnyIn (FW ro) n P .any ops (PQ Out z N) fuel listed a w := by
  obtain ⟨hnd, hlt, hall⟩ := ord_spec _ _ hord
  -- nothing ready: everything is listed
  have hend : ∀ (listed : Array Bool), listed.size = ops.size → (∀ i, listed.getD i false = true → i ∈ E.map (·.i)) → Region.ready .any ops listed = [] → (∀ i ∈ E.map (·.i) ++ rest, listed.getD i false = true) := by
    intro listed hs hin hr
    have : ∀ (l2 l1 : List Nat), l1 ++ l2 = E.map (·.i) ++ rest → (∀ i ∈ l1, listed.getD i false = true) → ∀ i ∈ l2, listed.getD i false = true := by
      intro l2
      induction l2 with
      | nil => intro l1 _ _ i hi; simp at hi
      | cons j l2 ih =>
        intro l1 he h1 i hi
        have hj : listed.getD j false = true := by
          cases hx : listed.getD j false with
          | true => rfl
          | false =>
            have hjl : j < ops.size := (hlt j (by rw [← he]; simp)).2
            have hmem : j ∈ Region.ready .any ops listed := (ready_of hs).2 ⟨hjl, hx, ops[j], Array.getElem?_eq_getElem hjl, fun p hp => by
              rcases ord_preds l1 0 (l2 := l2) (i := j) (by rw [he]; exact hord) _ (Array.getElem?_eq_getElem hjl) p hp with h5 | h5
              · simp at h5
              · exact h1 p h5⟩
            rw [hr] at hmem
            cases hmem
        rcases List.mem_cons.1 hi with rfl | hi
        · exact hj
        · exact ih (l1 ++ [j]) (by simpa using he) (fun k hk => by
            rcases List.mem_append.1 hk with hk | hk
            · exact h1 k hk
            · simp at hk; subst hk; exact hj) i hi
    exact this _ [] rfl (by simp)
  have hdone : ∀ (listed : Array Bool) (a : Act) (w : World), (∀ i, listed.getD i false = true → i ∈ E.map (·.i)) → (∃ κ, RD D M0 B0 w0 κ0 (app st0 (E.filter fun e => listed.getD e.i false)) κ a w) → (∀ i ∈ E.map (·.i) ++ rest, listed.getD i false = true) → PQ Out z N .normal a w := by
    intro listed a w hin ⟨κ, hr⟩ hl
    have hrest : rest = [] := by
      cases rest with
      | nil => rfl
      | cons i r =>
        have := hin i (hl i (by simp))
        rw [List.nodup_append] at hnd
        exact absurd rfl (hnd.2.2 i this i (by simp))
    have hE : (E.filter fun e => listed.getD e.i false) = E := List.filter_eq_self.2 (fun e he => hl e.i (List.mem_append_left _ (List.mem_map.2 ⟨e, he, rfl⟩)))
    rw [hE] at hr
    exact hN hrest κ a w hr
  intro fuel
  induction fuel with
  | zero =>
    intro listed a w hs hlen hdown hin hr
    have hl : ∀ i ∈ E.map (·.i) ++ rest, listed.getD i false = true := by
      intro i hi
      cases hx : listed.getD i false with
      | true => rfl
      | false =>
        have : i ∈ (E.map (·.i) ++ rest).filter fun i => !listed.getD i false := List.mem_filter.2 ⟨hi, by simp only [hx]; rfl⟩
        rw [List.length_eq_zero_iff.1 (Nat.le_zero.1 hlen)] at this
        cases this
    refine ⟨?_, hdone listed a w hin hr hl⟩
    cases hrd : Region.ready .any ops listed with
    | nil => rfl
    | cons j r =>
      have hj := (ready_of hs).1 (hrd ▸ List.mem_cons_self : j ∈ Region.ready .any ops listed)
      rcases hall j hj.1 with h5 | h5
      · simp at h5
      · have := hl j h5; rw [hj.2.1] at this; cases this
  | succ fuel ih =>
    intro listed a w hs hlen hdown hin hr
    refine ⟨fun h0 => hdone listed a w hin hr (hend listed hs hin h0), fun i hi => ?_⟩
    obtain ⟨hi1, hi2, o, hi3, hi4⟩ := (ready_of hs).1 hi
    have hanc : ∀ k, isAnc (ancTab ops ops.size) k i = true → listed.getD k false = true := fun k hk => anc_listed (L := fun i => listed.getD i false = true) hdown i k hk (fun o' ho' p hp => by rw [hi3] at ho'; cases ho'; exact hi4 p hp)
    have hanc2 : ∀ k, isAnc (ancTab ops ops.size) i k = true → listed.getD k false = true → False := fun k hk hl => by
      have := anc_listed (L := fun i => listed.getD i false = true) hdown k i hk (fun o' ho' p hp => hdown k o' hl ho' p hp)
      rw [hi2] at this; cases this
    obtain ⟨κ, hr⟩ := hr
    have himem : i ∈ E.map (·.i) ++ rest := (hall i hi1).resolve_left (by simp)
    rcases List.mem_append.1 himem with hiE | hiR
    · obtain ⟨e, heE, hei⟩ := List.mem_map.1 hiE
      obtain ⟨E1, E2, hE⟩ := List.append_of_mem heE
      subst hei
      obtain ⟨hdid, htr2⟩ := Trace.split E1 [] (hE ▸ hT)
      simp only [List.nil_append] at hdid htr2
      have heo : e.o = o := by have := hdid.op; rw [hi3] at this; cases this; rfl
      -- indices apart
      have hne : ∀ x ∈ E1 ++ E2, x.i ≠ e.i := by
        intro x hx hxi
        rw [hE] at hnd
        have h1 := (List.nodup_append.1 hnd).1
        simp only [List.map_append, List.map_cons] at h1
        obtain ⟨_, h2, h3⟩ := List.nodup_append.1 h1
        rcases List.mem_append.1 hx with hx | hx
        · exact h3 x.i (List.mem_map.2 ⟨x, hx, rfl⟩) e.i (by simp) hxi
        · exact (List.nodup_cons.1 h2).1 (List.mem_map.2 ⟨x, hx, hxi⟩)
      have p1 : ∀ x ∈ E1, PairS ops (ancTab ops ops.size) n0 x e := hdid.pair
      have p2 : ∀ x ∈ E2, PairS ops (ancTab ops ops.size) n0 e x := fun x hx => Trace.pair E2 _ htr2 x hx e (by simp)
      have q1 : ∀ x ∈ E1, listed.getD x.i false = false → x.o.apart ops e.o = true ∧ ((∀ k ∈ x.ws.map (·.1), k ∉ e.tch) ∨ Kept e.look x) := fun x hx hl => by
        rcases (p1 x hx).2 with h5 | h5
        · have := hanc _ h5; rw [hl] at this; cases this
        · exact ⟨h5.2.1, h5.2.2.2.1⟩
      have q2 : ∀ x ∈ E2, listed.getD x.i false = true → lacksE (newIds (n0 + 16 * e.i)) x = true ∧ e.o.apart ops x.o = true ∧ (∀ k ∈ e.ws.map (·.1), k ∉ x.ws.map (·.1)) ∧ ((∀ k ∈ x.ws.map (·.1), k ∉ e.tch) ∨ Kept e.look x) := fun x hx hl => by
        rcases (p2 x hx).2 with h5 | h5
        · exact (hanc2 _ h5 hl).elim
        · exact ⟨h5.1, h5.2.1, h5.2.2.1, h5.2.2.2.2⟩
      have hsplit : (E.filter fun x => listed.getD x.i false) = (E1.filter fun x => listed.getD x.i false) ++ (E2.filter fun x => listed.getD x.i false) := by
        rw [hE, List.filter_append, List.filter_cons_of_neg (by simp only [hi2]; simp)]
      have hag : AgreeW D ops e.o (app st0 E1) (app st0 (E.filter fun x => listed.getD x.i false)) := by
        refine ⟨fun t ht => ?_, by rw [app_dfs, app_dfs], ?_⟩
        · rw [hsplit, app_append, app_slot]
          · refine app_filter_slot E1 rfl (fun x hx hl hd => ?_)
            exact (Oper.apart_spec (q1 x hx hl).1).1 t hd ht
          · intro x hx hd
            rw [List.mem_filter] at hx
            exact (Oper.apart_spec (q2 x hx.1 hx.2).2.1).2.2 t hd ht
        · cases hlk : e.look with
          | none =>
            left
            intro k hk
            rw [hdid.tch] at hk
            rw [hsplit, app_append, app_obj]
            · refine app_filter_obj E1 rfl (fun x hx hl hd => ?_)
              rcases (q1 x hx hl).2 with h5 | ⟨lk, h5, _⟩
              · exact h5 k hd hk
              · rw [hlk] at h5; cases h5
            · intro x hx hd
              rw [List.mem_filter] at hx
              rcases (q2 x hx.1 hx.2).2.2.2 with h5 | ⟨lk, h5, _⟩
              · exact h5 k hd hk
              · rw [hlk] at h5; cases h5
          | some l =>
            right
            have hl := hdid.look
            rw [hlk] at hl
            have htc := lookOf_tch hl.symm
            rw [hdid.tch] at htc
            refine ⟨l, hl.symm, ?_⟩
            refine GoodAt.cells ?_
            rw [hsplit, app_append]
            have hT1 : Trace D ops (ancTab ops ops.size) n0 st0 [] E1 := by
              have : ∀ (F pre G : List Ent), Trace D ops (ancTab ops ops.size) n0 st0 pre (F ++ G) → Trace D ops (ancTab ops ops.size) n0 st0 pre F := by
                intro F
                induction F with
                | nil => intro _ _ _; trivial
                | cons y F ih => intro pre G h; exact ⟨h.1, ih _ G h.2⟩
              exact this E1 [] _ (hE ▸ hT)
            refine good_app _ _ (fun x hx hw => ?_) (good_filter E1 hT1 (fun x hx hl2 hw => ?_) (good_look hl.symm))
            · rw [List.mem_filter] at hx
              rcases (q2 x hx.1 hx.2).2.2.2 with h5 | ⟨lk, h5, _, h7⟩
              · exact (h5 _ hw htc).elim
              · rw [hlk] at h5; cases h5
                exact fun o ho => h7 o (by simp [ho])
            · rcases (q1 x hx hl2).2 with h5 | ⟨lk, h5, h6, h7⟩
              · exact (h5 _ hw htc).elim
              · rw [hlk] at h5; cases h5
                exact ⟨h6, h7⟩
      have hfr : Fresh (newIds (n0 + 16 * e.i)) D.glob (app st0 (E.filter fun x => listed.getD x.i false)) := by
        refine Fresh.app _ (hf0 _ hi1) (fun x hx => ?_)
        rw [hsplit] at hx
        rcases List.mem_append.1 hx with hx | hx
        · rw [List.mem_filter] at hx; exact (p1 x hx.1).1
        · rw [List.mem_filter] at hx; exact (q2 x hx.1 hx.2).1
      obtain ⟨v, hout, hup⟩ := hdid.out
      have hstep := stepE_wp (ro := ro) (n := n) (N := fun _ _ => False) T hdid.op hr hfr (stepE_congrW hag hout)
      refine wpOp_mono2 (fun a' w' hl => ?_) (fun ex a' w' hq => ?_) hstep
      · obtain ⟨v', ws', κ', h1, h2⟩ := hl
        cases h1
        rw [hup] at h2
        have hset : ∀ k, (listed.setIfInBounds e.i true).getD k false = if k = e.i then true else listed.getD k false := by
          intro k
          by_cases hk : k = e.i
          · subst hk
            rw [if_pos rfl]
            have : e.i < listed.size := hs ▸ hi1
            simp [this]
          · rw [if_neg hk, getD_set_ne false (fun h => hk h.symm)]
        have hmono : ∀ k, listed.getD k false = true → (listed.setIfInBounds e.i true).getD k false = true := fun k hk => by rw [hset]; split <;> simp [hk]
        have e1 : (E.filter fun x => (listed.setIfInBounds e.i true).getD x.i false) = (E1.filter fun x => listed.getD x.i false) ++ e :: (E2.filter fun x => listed.getD x.i false) := by
          rw [hE, List.filter_append, List.filter_cons_of_pos (by simp only [hset]; simp)]
          congr 1
          · exact List.filter_congr (fun x hx => by rw [hset, if_neg (hne x (List.mem_append_left _ hx))])
          · congr 1
            exact List.filter_congr (fun x hx => by rw [hset, if_neg (hne x (List.mem_append_right _ hx))])
        refine ih (listed.setIfInBounds e.i true) a' w' (by simpa using hs) ?_ ?_ ?_ ⟨κ', ?_⟩
        · have hle : ((E.map (·.i) ++ rest).filter fun k => !(listed.setIfInBounds e.i true).getD k false).length < ((E.map (·.i) ++ rest).filter fun k => !listed.getD k false).length := by
            obtain ⟨l1, l2, hl12⟩ := List.append_of_mem himem
            rw [hl12]
            have sub : ∀ l : List Nat, (l.filter fun k => !(listed.setIfInBounds e.i true).getD k false).length ≤ (l.filter fun k => !listed.getD k false).length := by
              intro l
              induction l with
              | nil => exact Nat.le_refl _
              | cons k l ihl =>
                simp only [List.filter_cons]
                by_cases hk : listed.getD k false = true
                · simp only [hk, hmono k hk]; exact ihl
                · have hk' : listed.getD k false = false := by simpa using hk
                  simp only [hk', Bool.not_false, if_true, List.length_cons]
                  split
                  · simp only [List.length_cons]; exact Nat.succ_le_succ ihl
                  · exact Nat.le_succ_of_le ihl
            simp only [List.filter_append, List.length_append]
            have s1 := sub l1
            rw [List.filter_cons_of_neg (by simp only [hset]; simp), List.filter_cons_of_pos (by simp only [hi2]; simp)]
            have s2 := sub l2
            simp only [List.length_cons]
            omega
          omega
        · intro k ok hk hok p hp
          rw [hset] at hk
          split at hk
          · rename_i hke
            subst hke
            rw [hi3] at hok
            cases hok
            exact hmono p (hi4 p hp)
          · exact hmono p (hdown k ok hk hok p hp)
        · intro k hk
          rw [hset] at hk
          split at hk
          · rename_i hke; subst hke; exact hiE
          · exact hin k hk
        · refine h2.eqv ?_
          rw [e1, hsplit, app_append, app_append, app_cons]
          refine (app_comm _ _ (fun x hx => ?_)).symm
          rw [List.mem_filter] at hx
          obtain ⟨_, g2, g3, _⟩ := q2 x hx.1 hx.2
          exact ⟨(Oper.apart_spec g2).2.1, g3⟩
      · cases ex with
        | panic c => exact hq.2.elim
        | normal => exact hq.elim
        | _ => exact hq
    · cases hrest : rest with
      | nil => rw [hrest] at hiR; cases hiR
      | cons i0 r =>
        have hs' := hstop i0 r hrest
        have hi0 : listed.getD i0 false = true → False := fun h => by
          have := hin i0 h
          rw [List.nodup_append] at hnd
          exact absurd rfl (hnd.2.2 i0 this i0 (by rw [hrest]; simp))
        rw [hrest] at hiR
        rcases List.mem_cons.1 hiR with rfl | hiR
        · obtain ⟨o', v, h1, h2, h3, h4⟩ := hs'.stop
          rw [hi3] at h1
          cases h1
          have q1 : ∀ x ∈ E, listed.getD x.i false = false → x.o.apart ops o = true ∧ (∀ k ∈ x.ws.map (·.1), k ∉ tchOf D o (app st0 E)) := fun x hx hl => by
            rcases (pairOK_spec (h4 x hx)).2 with h5 | h5
            · have := hanc _ h5; rw [hl] at this; cases this
            · exact ⟨h5.2.1, h5.2.2.2.1⟩
          have hag : Agree D ops o (app st0 E) (app st0 (E.filter fun x => listed.getD x.i false)) := by
            refine ⟨fun t ht => ?_, by rw [app_dfs, app_dfs], fun k hk => ?_⟩
            · exact app_filter_slot E rfl (fun x hx hl hd => (Oper.apart_spec (q1 x hx hl).1).1 t hd ht)
            · exact app_filter_obj E rfl (fun x hx hl hd => (q1 x hx hl).2 k hd hk)
          have hfr : Fresh (newIds (n0 + 16 * i)) D.glob (app st0 (E.filter fun x => listed.getD x.i false)) := by
            refine Fresh.app _ (hf0 _ hi1) (fun x hx => ?_)
            rw [List.mem_filter] at hx; exact (pairOK_spec (h4 x hx.1)).1
          have hstep := stepE_wp (ro := ro) (n := n) (N := fun _ _ => False) T hi3 hr hfr (stepE_congr hag h2)
          refine wpOp_mono2 (fun a' w' hl => ?_) (fun ex a' w' hq => ?_) hstep
          · obtain ⟨v', ws', κ', h1, _⟩ := hl; cases h1
          · cases ex with
            | panic c => exact ⟨hq.1, hq.2 z h3⟩
            | normal => exact hq.elim
            | _ => exact hq
        · exact (hi0 (hanc i0 (hs'.rest i hiR))).elim
end
end Go.AM
