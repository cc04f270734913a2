/-
  The abstract machine, a part.
-/
import Derived.Test.YtcihhhkmekdbnaaGreatDoorMWalk
/-
  The abstract machine, part 23: one operation's outcome leans only on what it looks at.
-/
namespace Go.AM
open Go RowKit
section
variable {P : Program} {Z : Type} {D : DEnv Z} {M0 B0 : Nat → Prop} {w0 w w' : World} {κ0 κ κ' : Nat → Value} {Out : Z → Ending → World → Prop} {st st2 : ASt} {a : Act} {ob ob' : List (Nat × AObj)}

theorem settle_congr {v : AV} (h : ∀ id ∈ leanOn v, assoc ob id = assoc ob' id) : settle ob v = settle ob' v := by
  cases v <;> simp [settle, leanOn] at h ⊢ <;> simp [h]
theorem settleL_congr {cs : List AV} (h : ∀ id ∈ cs.flatMap leanOn, assoc ob id = assoc ob' id) : cs.map (settle ob) = cs.map (settle ob') :=
  List.map_congr_left fun c hc => settle_congr fun id hid => h id (List.mem_flatMap.2 ⟨c, hc, hid⟩)

theorem fit_congr : ∀ (s : Sh) (v : AV) (x : El s.ty) (b : Bnd), fit ob s v = some (x, b) → (∀ id ∈ b.fz, assoc ob id = assoc ob' id) → fit ob' s v = some (x, b)
  | .int k, v, x, b, h, _ => h
  | .bool, v, x, b, h, _ => h
  | .str, v, x, b, h, _ => h
  | .list t, v, x, b, h, hh => by
    simp only [fit] at h ⊢
    have hb : b.fz = leanOn v := by
      split at h
      · cases h; rfl
      · cases h
    rw [settle_congr (ob := ob') (ob' := ob) (fun id hid => (hh id (hb ▸ hid)).symm)]
    exact h
  | .agg t, v, x, b, h, hh => by
    simp only [fit] at h ⊢
    split at h
    · rename_i cs
      have hb : b.fz = cs.flatMap leanOn := by
        split at h
        · cases h; rfl
        · cases h
      rw [settleL_congr (ob := ob') (ob' := ob) (fun id hid => (hh id (hb ▸ hid)).symm)]
      exact h
    · cases h
  | .pp t off, v, x, b, h, _ => h
  | .pr t, v, x, b, h, _ => h
  | .ptr id off, v, x, b, h, _ => h
  | .af id, v, x, b, h, _ => h
  | .fn f ids, v, x, b, h, _ => h
  | .nilI, v, x, b, h, _ => h
  | .aggI _ _, v, x, b, h, _ => h
  | .aggN t, v, x, b, h, hh => by
    simp only [fit] at h ⊢
    split at h
    · rename_i cs
      split at h
      · rename_i x' hn hx'
        split at h
        · rename_i hlen
          cases h
          have e := settleL_congr (ob := ob) (ob' := ob') (cs := cs.take (csize t)) hh
          simp only [hn, ← e, hx', hlen, if_true]
        · cases h
      · cases h
    · cases h
  | .ifc T s, v, x, b, h, hh => by
    simp only [fit] at h ⊢
    split at h
    · rename_i T' v
      split at h
      · rename_i he
        rw [if_pos he]
        exact fit_congr s v x b h hh
      · cases h
    · cases h

theorem fitL_congr : ∀ (l : List Sh) (vs : List AV) (x : El (tyL l)) (b : Bnd), fitL ob l vs = some (x, b) → (∀ id ∈ b.fz, assoc ob id = assoc ob' id) → fitL ob' l vs = some (x, b)
  | [], [], x, b, h, _ => h
  | [], _ :: _, x, b, h, _ => by cases h
  | _ :: _, [], x, b, h, _ => by cases h
  | s :: r, v :: vs, x, b, h, hh => by
    simp only [fitL] at h ⊢
    split at h
    · rename_i x1 b1 x2 b2 h1 h2
      cases h
      rw [fit_congr s v x1 b1 h1 (fun id hid => hh id (by simp [Bnd.app, hid])), fitL_congr r vs x2 b2 h2 (fun id hid => hh id (by simp [Bnd.app, hid]))]
    · cases h

theorem fitO1_congr {s : OSh} {o : AObj} {x : El s.ty} {b : Bnd} (h : fitO1 ob s o = some (x, b)) (hh : ∀ id ∈ b.fz, assoc ob id = assoc ob' id) : fitO1 ob' s o = some (x, b) := by
  cases s with
  | var T cs =>
    simp only [fitO1] at h ⊢
    split at h
    · rename_i T' vs
      split at h
      · rename_i he
        rw [if_pos he]
        exact fitL_congr cs vs x b h hh
      · cases h
    · cases h
  | vagg T t =>
    simp only [fitO1] at h ⊢
    split at h
    · rename_i T' vs
      split at h
      · rename_i he
        rw [if_pos he]
        have hb : b.fz = vs.flatMap leanOn := by
          split at h
          · cases h; rfl
          · cases h
        rw [settleL_congr (ob := ob') (ob' := ob) (fun id hid => (hh id (hb ▸ hid)).symm)]
        exact h
      · cases h
    · cases h
  | arr e t => exact h
  | fz t => exact h
  | iter => exact h
  | lp key cs =>
    simp only [fitO1] at h ⊢
    split at h
    · rename_i key' vs
      split at h
      · rename_i he
        rw [if_pos he]
        exact fitL_congr cs vs x b h hh
      · cases h
    · cases h
  | gone => exact h

theorem fitO_le : ∀ (l : List (Nat × OSh)) (b : Bnd) (y : El (tyO l)) (c : Bnd), fitO ob l b = some (y, c) → (∀ p ∈ b.m, p ∈ c.m) ∧ (∀ i ∈ b.fz, i ∈ c.fz)
  | [], b, y, c, h => by
    simp only [fitO, Option.some.injEq, Prod.mk.injEq] at h
    rw [h.2]; exact ⟨fun _ h => h, fun _ h => h⟩
  | (i, s) :: r, b, y, c, h => by
    simp only [fitO] at h
    split at h
    · split at h
      · split at h
        · rename_i x a _
          split at h
          · rename_i y' c' h1
            cases h
            obtain ⟨h2, h3⟩ := fitO_le r _ _ _ h1
            exact ⟨fun p hp => h2 p (by simp [Bnd.app, hp]), fun i hi => h3 i (by simp [Bnd.app, hi])⟩
          · cases h
        · cases h
      · cases h
    · split at h
      · split at h
        · rename_i y' c' h1
          cases h
          exact fitO_le r _ _ _ h1
        · cases h
      · cases h

theorem fitO_congr : ∀ (l : List (Nat × OSh)) (b : Bnd) (y : El (tyO l)) (c : Bnd), fitO ob l b = some (y, c) → (∀ p ∈ c.m, assoc ob p.2 = assoc ob' p.2) → (∀ id ∈ c.fz, assoc ob id = assoc ob' id) → fitO ob' l b = some (y, c)
  | [], b, y, c, h, _, _ => h
  | (i, s) :: r, b, y, c, h, hm, hz => by
    simp only [fitO] at h ⊢
    split at h
    · rename_i j hj
      split at h
      · rename_i o ho
        split at h
        · rename_i x a hx
          split at h
          · rename_i y' c' h1
            cases h
            obtain ⟨h2, h3⟩ := fitO_le r _ _ _ h1
            have e1 : assoc ob' j = some o := by
              rw [← hm (i, j) (h2 _ (by simp only [Bnd.app, List.mem_append]; exact .inl (assoc_mem hj)))]; exact ho
            simp only [e1, fitO1_congr hx (fun id hid => hz id (h3 id (by simp [Bnd.app, hid]))), fitO_congr r _ _ _ h1 hm hz]
          · cases h
        · cases h
      · cases h
    · split at h
      · rename_i x hx
        split at h
        · rename_i y' c' h1
          cases h
          simp only [hx, fitO_congr r _ _ _ h1 hm hz]
        · cases h
      · cases h

theorem fitAll_congr {b0 b : Bnd} {shs : List Sh} {os : List (Nat × OSh)} {vs : List AV} {x : El (cns (tyL shs) (tyO os))} (h : fitAll b0 shs os vs ob = some (x, b)) (hm : ∀ p ∈ b.m, assoc ob p.2 = assoc ob' p.2) (hz : ∀ id ∈ b.fz, assoc ob id = assoc ob' id) :
    fitAll b0 shs os vs ob' = some (x, b) := by
  unfold fitAll at h ⊢
  split at h
  · rename_i x1 a1 h1
    split at h
    · rename_i y c h2
      split at h
      · rename_i hg
        cases h
        obtain ⟨h3, h4⟩ := fitO_le _ _ _ _ h2
        simp only [fitL_congr _ _ _ _ h1 (fun id hid => hz id (h4 id (by simp [Bnd.app, hid]))), fitO_congr _ _ _ _ h2 hm hz, hg, if_true]
      · cases h
    · cases h
  · cases h

theorem boundAll_congr {m : List (Nat × Nat)} {np : Nat} (hm : ∀ p ∈ m, assoc ob p.2 = assoc ob' p.2) : boundAll ob m np = boundAll ob' m np := by
  unfold boundAll
  congr 1
  funext i
  split
  · rename_i j hj
    rw [hm (i, j) (assoc_mem hj)]
  · rfl
theorem freezeIds_congr {ids : List Nat} (hz : ∀ id ∈ ids, assoc ob id = assoc ob' id) : freezeIds ob ids = freezeIds ob' ids := by
  unfold freezeIds
  induction ids with
  | nil => rfl
  | cons i r ih =>
    simp only [List.filterMap_cons]
    rw [hz i (by simp), ih (fun id hid => hz id (by simp [hid]))]
theorem gather_congr {ids : List Nat} (hz : ∀ id ∈ ids, assoc ob id = assoc ob' id) : gather ob ids = gather ob' ids := by
  unfold gather
  have : ∀ l : List Nat, (∀ id ∈ l, assoc ob id = assoc ob' id) → (l.filterMap fun i => (assoc ob i).map (i, ·)) = l.filterMap fun i => (assoc ob' i).map (i, ·) := by
    intro l h
    induction l with
    | nil => rfl
    | cons i r ih =>
      simp only [List.filterMap_cons]
      rw [h i (by simp), ih (fun id hid => h id (by simp [hid]))]
  exact this _ (fun id hid => hz id (List.mem_eraseDups.1 hid))

abbrev Res := Except AV (AV × List (Nat × AObj))

/-- One operation's outcome. -/
def carryE (D : DEnv Z) (o : Oper) (nid : Nat) (st : ASt) : Option Res :=
  match (o.op.operands.toList).mapM (opIn st.slots D.glob) with
  | none => none
  | some vals =>
    if o.dst.all (· < D.nt) = true then
      match o.op with
      | .panic _ => match vals with
        | [.ifc T v] => if (closedV v && st.dfs.isEmpty) = true then some (.error (.ifc T v)) else none
        | _ => none
      | .next _ true => match vals with
        | [.ptr id 0] => match assoc st.objs id with
          | some (.iter s pos) => if pos < s.size then some (.ok (.tup [bool true, int pos, .sc (.int .i32 (Utf8.decode s pos).1)], [(id, .iter s (pos + (Utf8.decode s pos).2))])) else some (.ok (.tup [bool false], []))
          | _ => none
        | _ => none
      | .call ⟨.value _, _, _⟩ => match vals with
        | .fn g cap :: ags => match assoc D.clones g with
          | some (e, t) => match cap, ags with
            | [], [x] => match unS t (settle st.objs x), assoc D.Θ e with
              | some xs, some te => if g < 1000000 ∧ xs.length * te.bytes ≤ 140737488355328 then some (.ok (.af nid, [(nid, .arr e t xs)])) else none
              | _, _ => none
            | _, _ => none
          | none => match findCall D.calls (calleeN g) (calleeV g ags cap) with
          | some s => match fitAll .nil0 (s.inp.slots.map (·.2)) s.inp.objs (calleeV g ags cap) st.objs with
            | some (x, b) =>
              if s.ok = true ∧ boundAll st.objs b.m s.inp.objs.length = true then
                let ret := fun (y : El (cns (tyL s.res) (tyO s.robj))) => (ren (outMap b.m s.inp.objs.length nid) (resV (mkL s.res (fst' y))), freezeIds st.objs b.fz ++ outObjs b.m s.inp.objs.length nid (mkO s.robj (snd' y)))
                match s.F with
                | .plain F => (F x).map fun y => .ok (ret y)
                | .exc sh F => (F x).bind fun r => match r with
                  | .error e => if st.dfs.isEmpty = true then some (.error (sh.mk e)) else none
                  | .ok y => some (.ok (ret y))
              else none
            | none => none
          | none => none
        | _ => none
      | op => match core D.Θ D.eqs op nid (gather st.objs (touch op vals)) vals with
        | some c => if c.vc = true then some (.ok (c.dst, c.objs)) else none
        | none => none
    else none

/-- What follows an outcome. -/
def After (D : DEnv Z) (st : ASt) (dst : Option Tmp) (K : ASt → Tr Z) (z : Z) : Res → Prop
  | .error v => (D.panK v).eval = some z
  | .ok (v, ws) => (K (st.upd dst v ws)).eval = some z

theorem carry_eval {o : Oper} {nid : Nat} {K : ASt → Tr Z} {z : Z} (h : (carry D o nid st K).eval = some z) : Fresh (newIds nid) D.glob st ∧ ∃ r, carryE D o nid st = some r ∧ After D st o.dst K z r := by
  unfold carry at h
  unfold carryE
  split at h
  · cases h
  · rename_i vals hv
    simp only [hv]
    split at h
    · rename_i hc
      simp only [Bool.and_eq_true] at hc
      refine ⟨fresh_lack hc.1, ?_⟩
      rw [if_pos hc.2]
      split at h
      · rename_i x ho
        simp only [ho]
        split at h
        · rename_i t v
          split at h
          · rename_i hcl
            exact ⟨_, if_pos hcl, h⟩
          · cases h
        · cases h
      · rename_i x ho
        simp only [ho]
        split at h
        · rename_i id
          split at h
          · rename_i s pos hobj
            simp only [hobj]
            simp only [Tr.eval] at h
            split at h
            · rename_i hp; exact ⟨.ok (_, _), if_pos (by simpa using hp), h⟩
            · rename_i hp; exact ⟨.ok (_, _), if_neg (by simpa using hp), h⟩
          · cases h
        · cases h
      · rename_i fo ags ts ho
        simp only [ho]
        split at h
        · rename_i g cap vas
          split at h
          · rename_i e t hcl
            simp only [hcl]
            split at h
            · rename_i x
              split at h
              · rename_i xs te hxs hte
                simp only [hxs, hte]
                split at h
                · rename_i hg
                  simp only [Tr.eval] at h
                  rw [Option.ite_none_right_eq_some] at h
                  exact ⟨.ok (_, _), if_pos ⟨hg, by simpa using h.1⟩, h.2⟩
                · cases h
              · cases h
            · cases h
          rename_i hcl
          simp only [hcl]
          split at h
          · rename_i s hs
            simp only [hs]
            split at h
            · rename_i x b hfit
              simp only [hfit]
              split at h
              · rename_i hok
                rw [if_pos hok]
                revert h
                cases hF : s.F with
                | plain F =>
                  intro h
                  simp only [Tr.eval] at h
                  cases hy : F x with
                  | none => rw [hy] at h; cases h
                  | some y =>
                    rw [hy] at h
                    simp only [Option.bind_some] at h
                    exact ⟨.ok (_, _), by simp only [hy]; rfl, h⟩
                | exc sh F =>
                  intro h
                  simp only [Tr.eval, exc] at h
                  cases hy : F x with
                  | none => rw [hy] at h; cases h
                  | some r =>
                    rw [hy] at h
                    simp only [Option.bind_some] at h
                    cases r with
                    | ok y => exact ⟨.ok (_, _), by simp only [hy]; rfl, h⟩
                    | error e =>
                      simp only at h
                      split at h
                      · rename_i hdf; exact ⟨.error _, by simp only [hy, Option.bind_some, hdf, if_true], h⟩
                      · cases h
              · cases h
            · cases h
          · cases h
        · cases h
      · rename_i op h1 h0 h2
        split at h
        · rename_i c hcore
          simp only [Tr.eval] at h
          rw [Option.ite_none_right_eq_some] at h
          refine ⟨.ok (c.dst, c.objs), ?_, h.2⟩
          split
          · rename_i x ho; exact absurd ho (h1 x)
          · rename_i x ho; exact absurd ho (h0 x)
          · rename_i fo ags ts ho; exact absurd ho (h2 fo ags ts)
          · rw [hcore]; exact if_pos h.1
        · cases h
    · cases h

/-- States that agree on what an operation looks at. -/
structure Agree (D : DEnv Z) (ops : Array Oper) (o : Oper) (st st2 : ASt) : Prop where
  slots : ∀ t ∈ o.looksAt ops, assoc st2.slots t = assoc st.slots t
  dfs : st2.dfs = st.dfs
  objs : ∀ i ∈ tchOf D o st, assoc st2.objs i = assoc st.objs i

theorem opIn_congr {x : Operand} {s s2 : List (Nat × AV)} {g : List (Nat × AV)} (h : ∀ t, x = .tmp t → assoc s2 t = assoc s t) : opIn s2 g x = opIn s g x := by
  cases x with
  | tmp t => exact h t rfl
  | _ => rfl
theorem mapM_congr {α β : Type} {f g : α → Option β} : ∀ (l : List α), (∀ x ∈ l, f x = g x) → l.mapM f = l.mapM g
  | [], _ => rfl
  | x :: l, h => by rw [List.mapM_cons, List.mapM_cons, h x (by simp), mapM_congr l (fun y hy => h y (by simp [hy]))]
theorem vals_congr {ops : Array Oper} {o : Oper} {s s2 : List (Nat × AV)} {g : List (Nat × AV)} (h : ∀ t ∈ o.looksAt ops, assoc s2 t = assoc s t) : (o.op.operands.toList).mapM (opIn s2 g) = (o.op.operands.toList).mapM (opIn s g) := by
  refine mapM_congr _ (fun x hx => opIn_congr (fun t ht => h t ?_))
  subst ht
  exact List.mem_append_left _ (List.mem_filterMap.2 ⟨.tmp t, hx, rfl⟩)

theorem carryE_congr {ops : Array Oper} {o : Oper} {nid : Nat} {r : Res} (ha : Agree D ops o st st2) (h : carryE D o nid st = some r) : carryE D o nid st2 = some r := by
  have hv := vals_congr (g := D.glob) ha.slots
  have hob := ha.objs
  have hdf := ha.dfs
  unfold carryE at h ⊢
  unfold tchOf at hob
  rw [hv, hdf]
  split at h
  · cases h
  · rename_i vals hvals
    simp only [hvals] at hob ⊢
    split at h
    · rename_i hd
      rw [if_pos hd]
      split at h
      · rename_i x ho
        exact h
      · rename_i x ho
        simp only [ho] at hob
        split at h
        · rename_i id
          have : assoc st2.objs id = assoc st.objs id := hob id (by simp [touch])
          simp only [this]
          exact h
        · cases h
      · rename_i fo ags ts ho
        simp only [ho] at hob ⊢
        split at h
        · rename_i g cap vas
          split at h
          · rename_i e t hcl
            simp only [hcl] at hob ⊢
            split at h
            · rename_i x
              have : settle st2.objs x = settle st.objs x := settle_congr (fun id hid => hob id (by simpa using hid))
              simp only [this]
              exact h
            · cases h
          rename_i hcl
          simp only [hcl] at hob ⊢
          split at h
          · rename_i s hs
            simp only [hs] at hob ⊢
            split at h
            · rename_i x b hfit
              simp only [hfit] at hob
              have hm : ∀ p ∈ b.m, assoc st.objs p.2 = assoc st2.objs p.2 := fun p hp => (hob p.2 (List.mem_append_left _ (List.mem_map.2 ⟨p, hp, rfl⟩))).symm
              have hz : ∀ i ∈ b.fz, assoc st.objs i = assoc st2.objs i := fun i hi => (hob i (List.mem_append_right _ hi)).symm
              simp only [fitAll_congr hfit hm hz, ← boundAll_congr hm, ← freezeIds_congr hz]
              exact h
            · cases h
          · cases h
        · cases h
      · rename_i op h1 h0 h2
        split at hob
        · rename_i fo ags ts ho; exact absurd ho (h2 fo ags ts)
        · rw [← gather_congr (ob := st.objs) (ob' := st2.objs) (fun i hi => (hob i hi).symm)]
          exact h
    · cases h

/-- States that agree on what an operation looks at, or on the cells that a load looks at. -/
structure AgreeW (D : DEnv Z) (ops : Array Oper) (o : Oper) (st st2 : ASt) : Prop where
  slots : ∀ t ∈ o.looksAt ops, assoc st2.slots t = assoc st.slots t
  dfs : st2.dfs = st.dfs
  objs : (∀ i ∈ tchOf D o st, assoc st2.objs i = assoc st.objs i) ∨ ∃ l, lookOf D o st = some l ∧ ∃ t cs, assoc st2.objs l.id = some (.var t cs) ∧ rng l.off l.sz cs = l.cs
theorem lookOf_spec {o : Oper} {l : Look} (h : lookOf D o st = some l) : ∃ T x ti t cs, o.op = .load T x ∧ (o.op.operands.toList).mapM (opIn st.slots D.glob) = some [.ptr l.id l.off] ∧ assoc D.Θ T = some ti ∧ assoc st.objs l.id = some (.var t cs) ∧ 0 < ti.size ∧ l.sz = ti.size ∧ l.cs = rng l.off l.sz cs := by
  unfold lookOf at h
  split at h
  · rename_i id off hv
    split at h
    · rename_i T x ho
      split at h
      · rename_i ti t cs h1 h2
        split at h
        · rename_i hs
          cases h
          exact ⟨T, x, ti, t, cs, ho, hv, h1, h2, hs, rfl, rfl⟩
        · cases h
      · cases h
    · cases h
  · cases h
theorem lookOf_tch {o : Oper} {l : Look} (h : lookOf D o st = some l) : l.id ∈ tchOf D o st := by
  obtain ⟨T, x, ti, t, cs, ho, hv, _⟩ := lookOf_spec h
  unfold tchOf
  rw [hv]
  simp [ho, touch]
theorem giveC_rng {ti : TI} {cs cs2 : List AV} {off : Nat} (hs : 0 < ti.size) (h : rng off ti.size cs2 = rng off ti.size cs) {c : COut} (hc : giveC ti True cs off = some c) : giveC ti True cs2 off = some c := by
  unfold giveC at hc ⊢
  split at hc
  · rename_i hl
    have h1 : (rng off ti.size cs).length = ti.size := by unfold rng; simp; omega
    have h2 : (rng off ti.size cs2).length = ti.size := by rw [h, h1]
    have hl2 : off + ti.size ≤ cs2.length := by
      unfold rng at h2
      simp at h2
      omega
    rw [if_pos hl2]
    have e1 : (cs2.drop off).take ti.size = (cs.drop off).take ti.size := h
    have e2 : cs2[off]? = cs[off]? := by
      have a : ((cs2.drop off).take ti.size)[0]? = ((cs.drop off).take ti.size)[0]? := by rw [e1]
      rw [List.getElem?_take_of_lt hs, List.getElem?_take_of_lt hs, List.getElem?_drop, List.getElem?_drop] at a
      simpa using a
    rw [e1, e2]
    exact hc
  · cases hc
theorem carryE_congrW {ops : Array Oper} {o : Oper} {nid : Nat} {r : Res} (ha : AgreeW D ops o st st2) (h : carryE D o nid st = some r) : carryE D o nid st2 = some r := by
  rcases ha.objs with hob | ⟨l, hl, t2, cs2, h2, hr⟩
  · exact carryE_congr ⟨ha.slots, ha.dfs, hob⟩ h
  · obtain ⟨T, x, ti, t, cs, ho, hv, hT, h1, hs, hsz, hcs⟩ := lookOf_spec hl
    have hv2 := vals_congr (g := D.glob) ha.slots
    unfold carryE at h ⊢
    rw [hv2]
    rw [hv] at h ⊢
    simp only at h ⊢
    split at h
    · rename_i hd
      rw [if_pos hd]
      rw [ho] at h ⊢
      simp only [touch, gather, List.eraseDups_cons, List.filter_nil, List.eraseDups_nil, List.filterMap_cons, List.filterMap_nil, h1, h2, Option.map_some, core, coreLoad, hT, assoc, beq_self_eq_true, if_true] at h ⊢
      rw [hsz] at hcs hr
      split at h
      · rename_i c hc
        rw [giveC_rng hs (hr.trans hcs) hc]
        exact h
      · cases h
    · cases h
end
end Go.AM
