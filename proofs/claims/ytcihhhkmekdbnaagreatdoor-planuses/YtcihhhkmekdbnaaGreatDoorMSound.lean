/-
  The abstract machine, a part.
-/
import Derived.Test.YtcihhhkmekdbnaaGreatDoorMLeave
import Derived.Test.YtcihhhkmekdbnaaGreatDoorMDraw5
import Derived.RangeFuncLeaves
/-
  The abstract machine, part 22: the walk as a tree is the walk.
-/
namespace Go.AM
open Go RowKit
section
variable {P : Program} {Z : Type} {D : DEnv Z} {M0 B0 : Nat → Prop} {w0 w w' : World} {κ0 κ κ' : Nat → Value} {Out : Z → Ending → World → Prop} {st : ASt} {a : Act}

theorem at_cons {body : Code} {d : Nat} {q : List Nat} {T : List Item} (h : at_ body (d :: q) = some T) : ∃ Tq, at_ body q = some Tq ∧ down d Tq = some T := by
  simp only [at_] at h
  split at h
  · rename_i Tq hq; exact ⟨Tq, hq, h⟩
  · cases h

theorem climb_good {f : FuncId} {R : Ending → World → Prop} {body : Code} : ∀ (p : List Nat) (c : Code) (k : List Item) (r : Option (List Nat)), at_ body p = some (.code c :: k) → climb body p = some r →
    (∀ p', r = some p' → ∀ T, at_ body p' = some T → Good P f R T a w) → (r = none → Good P f R [] a w) → Good P f R k a w
  | [], c, k, r, h, hc, h1, h2 => by
    simp only [at_, Option.some.injEq, List.cons.injEq] at h
    simp only [climb, Option.some.injEq] at hc
    rw [← h.2]
    exact h2 hc.symm
  | d :: q, c, k, r, h, hc, h1, h2 => by
    obtain ⟨Tq, hq, hd⟩ := at_cons h
    simp only [climb, hq] at hc
    unfold down at hd
    split at hd
    · cases hd
      simp only [beq_self_eq_true, if_true, Option.some.injEq] at hc
      exact h1 _ hc.symm _ (by simp [at_, hq, down])
    · cases hd
      simp only [Nat.one_ne_zero, beq_iff_eq, if_false] at hc
      exact climb_good q _ _ r hq hc h1 h2
    · cases hd
      exact climb_good q _ _ r hq hc h1 h2
    · cases hd
      exact climb_good q _ _ r hq hc h1 h2
    · cases hd
      exact Good.step (fun b cs => step_inBlock) (climb_good q _ _ r hq hc h1 h2)
    · cases hd
      simp only [Option.some.injEq] at hc
      exact Good.step (fun b cs => step_inLoop) (h1 _ hc.symm _ (by simp [at_, hq, down]))
    · cases hd

theorem exit_at {body : Code} {id : Nat} : ∀ (p : List Nat) (c : Code) (k : List Item) (q : List Nat), at_ body p = some (.code c :: k) → exitPos body id p = some q → ∃ cb k', at_ body q = some (.code (.block id cb) :: k') ∧ exitTo id k = some k'
  | [], c, k, q, h, he => by simp [exitPos] at he
  | d :: q, c, k, r, h, he => by
    obtain ⟨Tq, hq, hd⟩ := at_cons h
    simp only [exitPos, hq] at he
    unfold down at hd
    split at hd
    · cases hd
      obtain ⟨cb, k', h1, h2⟩ := exit_at q _ _ r hq he
      exact ⟨cb, k', h1, by simpa [exitTo] using h2⟩
    · cases hd
      exact exit_at q _ _ r hq he
    · cases hd
      exact exit_at q _ _ r hq he
    · cases hd
      exact exit_at q _ _ r hq he
    · rename_i id' cb kq
      cases hd
      simp only at he
      split at he
      · rename_i hid
        cases he
        have : id' = id := by simpa using hid
        subst this
        exact ⟨_, kq, hq, by simp [exitTo]⟩
      · rename_i hid
        obtain ⟨cb', k', h1, h2⟩ := exit_at q _ _ r hq he
        have hid' : (id' == id) = false := by simpa using hid
        exact ⟨cb', k', h1, by simp [exitTo, hid', h2]⟩
    · cases hd
      obtain ⟨cb, k', h1, h2⟩ := exit_at q _ _ r hq he
      exact ⟨cb, k', h1, by simpa [exitTo] using h2⟩
    · cases hd

/-- A function's end, as the state has it. -/
structure Ends (P : Program) (D : DEnv Z) (M0 B0 : Nat → Prop) (w0 : World) (κ0 : Nat → Value) (Out : Z → Ending → World → Prop) : Prop where
  ret : ∀ vs st z, (D.retK vs st).eval = some z → ∀ κ a w us, RD D M0 B0 w0 κ0 st κ a w → RepL w (okB M0 κ st.objs) κ vs us → Out z (.returned (resU us)) w

/-- A deferred function does as its contract says, behind a plain return. -/
def DCallOK (P : Program) (glob : List (Nat × AV)) (f : FuncId) (s : CSpec) : Prop :=
  ∀ (x : s.inp.X) (M0 : Nat → Prop) (κ : Nat → Value) (w : World) (vs : List Value), Entry glob M0 κ s.inp x w vs →
    match s.F with
    | .plain F => ∀ y, F x = some y → ∃ fn c, P.funcs[f]? = some fn ∧ fn.body = some c ∧ (fn.name == "runtime.NumGoroutine") = false ∧ CallsD P f vs.toArray .returning w (fun e u' w' => u' = .returning ∧ ∃ v, e = .returned v ∧ RetOut glob M0 (live κ (mkO s.inp.objs (snd' x))) κ w s.inp.objs.length s.res s.robj y e w')
    | .exc _ _ => True

/-- What a walk's text knows beside. -/
structure Text (P : Program) (D : DEnv Z) (f : FuncId) (fn : Func) : Prop where
  func : P.funcs[f]? = some fn
  res : fn.results.toList = D.results
  mixed : P.follows .mixedOrders = true
  fid : D.fid = f
  yt : ∀ p sl g ps x y k, yAt D.fname = some (p, sl) → at_ D.body p = some (.code (.rangeFunc g ps x y) :: k) → ytab f = some ⟨ps, x, y, D.nt, sl⟩
  bodied : ∀ g ∈ D.bodied, ∃ fn c, P.funcs[g]? = some fn ∧ fn.body = some c ∧ (fn.name == "runtime.NumGoroutine") = false
  dcalls : ∀ f vs s, findCall D.dcalls f vs = some s → DCallOK P D.glob f s
  rnd : D.rnd = false

/-- A frame that has come to its end. -/
theorem ended_good {f : FuncId} {R : Ending → World → Prop} {k : List Item} (hk : k = [] ∨ ∃ k', k = .code .ret :: k')
    (h : ∀ (b : Frame) (cs : List Frame) (todo : List Item), b.fn = f → b.kind = .normal → b.roundOf = none → ∃ e w' fr, R e w' ∧ Comes P (lone { b.at a todo with mode := .returning } cs w) (lone fr cs w') e ∧ fr.fn = f ∧ fr.leaving P w' e) : Good P f R k a w := by
  intro b cs hf hb hro
  rcases hk with rfl | ⟨k', rfl⟩
  · obtain ⟨e, w', fr, h1, h2, h3⟩ := h b cs [] hf hb hro
    exact ⟨e, w', fr, h1, Comes.of_steps (.one step_end) h2, h3⟩
  · obtain ⟨e, w', fr, h1, h2, h3⟩ := h b cs (.code .ret :: k') hf hb hro
    exact ⟨e, w', fr, h1, Comes.of_steps (.one step_ret) h2, h3⟩

theorem leave0_end (T : Told P D M0 B0 w0 κ0 Out) (E : Ends P D M0 B0 w0 κ0 Out) {f : FuncId} {fn : Func} (X : Text P D f fn) {z : Z} (hr : RD D M0 B0 w0 κ0 st κ a w) (hdf : st.dfs = []) (h : (leave0 D st).eval = some z) (b : Frame) (cs : List Frame) (todo : List Item) (hf : b.fn = f) (hb : b.kind = .normal) :
    ∃ e w' fr, Out z e w' ∧ Comes P (lone { b.at a todo with mode := .returning } cs w) (lone fr cs w') e ∧ fr.fn = f ∧ fr.leaving P w' e := by
  unfold leave0 at h
  split at h
  · rename_i vs hvs
    obtain ⟨us, h1, h2⟩ := results_run T hr X.res hvs
    have ho := E.ret vs st z h κ a w us hr h1
    exact ⟨.returned (resU us), w, _, ho, Steps.refl P _, hf, rfl, hr.no_defers (by rw [hdf]; rfl), hb, fn, by simpa [Frame.at, hf] using X.func, h2⟩
  · cases h

theorem leave_good (T : Told P D M0 B0 w0 κ0 Out) (E : Ends P D M0 B0 w0 κ0 Out) {f : FuncId} {fn : Func} (X : Text P D f fn) {z : Z} (hr : RD D M0 B0 w0 κ0 st κ a w) (h : (leave D st).eval = some z) {k : List Item}
    (hk : k = [] ∨ ∃ k', k = .code .ret :: k') : Good P f (Out z) k a w := by
  refine ended_good hk (fun b cs todo hf hb hro => ?_)
  unfold leave at h
  split at h
  · rename_i hdf
    exact leave0_end T E X hr hdf h b cs todo hf hb
  · rename_i id hdf
    split at h
    · rename_i hobj
      have hd := hr.defers
      rw [hdf] at hd
      obtain ⟨r, ds', hκ, hds, hds'⟩ := hd
      have : ds' = [] := hds'
      subst this
      obtain ⟨r, hκ2, hblk⟩ := hr.mem.each id _ hobj
      rw [hκ2] at hκ
      cases hκ
      have hlt : r < w.heap.size := (Array.getElem?_eq_some_iff.1 hblk).1
      have hput := hr.mem.put hr.M (o' := .blk) (w' := w.putObj r (.deferred none)) hobj rfl rfl (b := r) (by rw [hκ2]; rfl) (World.putObj_size) rfl rfl rfl (fun k hk => World.putObj_heap_other hk)
        (fun ok' _ _ => ⟨r, hκ2, by rw [World.putObj_size]; exact hlt⟩)
      have hx := hput.1.ext
      have hr' : RD D M0 B0 w0 κ0 { st with objs := (id, .blk) :: st.objs, dfs := [] } κ { a with defers := [] } (w.putObj r (.deferred none)) := by
        refine ⟨⟨hput.2, fun i v hi => RepV.mono hx _ _ (hr.slots i v hi), rfl, hr.size, hr.old⟩, fun i hi => ⟨(hr.par i hi).1, ?_⟩⟩
        show (assoc ((id, AObj.blk) :: st.objs) i).isSome = true
        rw [assoc_cons]
        split
        · rfl
        · exact (hr.par i hi).2
      obtain ⟨e, w', fr, h1, h2, h3⟩ := leave0_end T E X hr' rfl h b cs todo hf hb
      refine ⟨e, w', fr, h1, Comes.of_steps (.one ?_) h2, h3⟩
      have := step_collected (P := P) (fr := { b.at a todo with mode := .returning }) (cs := cs) (w := w) (w' := w.putObj r (.deferred none)) (ds := []) (calls := []) (r := r) (d := { target := .collected r, args := #[] }) (by simp) (by simpa [Frame.at] using hds) rfl (run_takeDeferred hblk)
      rw [this]
      rfl
    · cases h
  · rename_i g cap hdf
    split at h
    · rename_i s hs
      split at h
      · rename_i x bb hfit
        split at h
        · rename_i hok
          split at h
          · rename_i F hF
            simp only [Tr.eval] at h
            cases hy : F x with
            | none => rw [hy] at h; cases h
            | some y =>
              rw [hy] at h
              have hd := hr.defers
              rw [hdf] at hd
              obtain ⟨us, ds', hds, hcap, hds'⟩ := hd
              have : ds' = [] := hds'
              subst this
              obtain ⟨hg, _, hft⟩ := fitAll_fitted hr.mem hr.M hfit hcap
              have hent := call_entry hr.mem hr.M T.hgl hg hft
              have hcall := X.dcalls g cap s hs x _ _ _ _ hent
              rw [hF] at hcall
              obtain ⟨fn', c', e1, e2, e3, hcall⟩ := hcall y hy
              have hinv : (invoke (.fn (.func g) us.toArray) #[]).run P w = .ok (.enter g us.toArray) w := by
                unfold invoke
                simp only [Array.empty_append]
                unfold callFunc
                have hn' : ¬fn'.name = "runtime.NumGoroutine" := by simpa using e3
                simp [Sem.run_bind, e1, e2, hn']
              have h1 := step_defer (P := P) (fr := { b.at a todo with mode := .returning }) (cs := cs) (w := w) (d := { target := .fn (.func g) us.toArray, args := #[] }) (ds := []) (fv := .func g) (cap := us.toArray) (f := g) (args := us.toArray) (by simp) (by simpa [Frame.at] using hds) rfl hinv
              obtain ⟨e, u', w1, frX, hR, hsteps, hkX, hgo⟩ := hcall { { b.at a todo with mode := .returning } with defers := [] } cs rfl
              obtain ⟨hu', v, rfl, hret⟩ := hR
              subst hu'
              have hfr := fresh_lack hok.2.2
              obtain ⟨κ', hdone⟩ := call_done (v := v) (w' := w1) hr T.hgl hfr.1 hok.1 hg hft hok.2.1 hret
              have hr1 := hr.done hfr (dst := none) rfl hdone
              have hr' : RD D M0 B0 w0 κ0 { st.upd none .junk (freezeIds st.objs bb.fz ++ outObjs bb.m s.inp.objs.length st.nxt (mkO s.robj (snd' y))) with dfs := [] } κ' { a with defers := [] } w1 :=
                ⟨⟨hr1.mem, hr1.slots, rfl, hr1.size, hr1.old⟩, hr1.par⟩
              obtain ⟨e, w', fr, g1, g2, g3⟩ := leave0_end T E X hr' rfl h b cs todo hf hb
              have h2 := step_going_returned (P := P) (c := { { { b.at a todo with mode := .returning } with defers := [] } with mode := .returning }) (cs := cs) hkX hgo
              exact ⟨e, w', fr, g1, Comes.of_steps (.head h1 (Steps.trans hsteps (.one h2))) g2, g3⟩
          · cases h
        · cases h
      · cases h
    · cases h
  · cases h

/-- The points of a walk: each is walked. -/
def Points (P : Program) (D : DEnv Z) (M0 B0 : Nat → Prop) (w0 : World) (κ0 : Nat → Value) (f : FuncId) (Out : Z → Ending → World → Prop) (z : Z) : Prop :=
  ∀ p t, findPt D.pts p = some t → ∀ x, t.F x = some z → ∀ κ a w k, at_ D.body p = some k → RD D M0 B0 w0 κ0 (t.pat.mk' x 0) κ a w → Good P f (Out z) k a w

theorem getAll_rep (hr : RD D M0 B0 w0 κ0 st κ a w) : ∀ (ids : List Nat) (vs : List AV), getAll st.slots ids = some vs → RepL w (okB M0 κ st.objs) κ vs (ids.map fun i => a.tmps.getD i undef)
  | [], vs, h => by simp only [getAll, Option.some.injEq] at h; subst h; rfl
  | i :: ids, vs, h => by
    simp only [getAll] at h
    split at h
    · rename_i v vs' h1 h2
      cases h
      exact ⟨_, _, rfl, hr.slots i v h1, getAll_rep hr ids vs' h2⟩
    · cases h

theorem zip_slots {w : World} {ok : Nat → Prop} {κ : Nat → Value} {tmps : Array Value} : ∀ (ids : List Nat) (vs : List AV), RepL w ok κ vs (ids.map fun i => tmps.getD i undef) → ∀ i v, assoc (ids.zip vs) i = some v → RepV w ok κ v (tmps.getD i undef)
  | [], vs, h, i, v, hi => by simp [assoc] at hi
  | j :: ids, [], h, i, v, hi => by simp [assoc] at hi
  | j :: ids, x :: vs, h, i, v, hi => by
    obtain ⟨u, us', h1, h2, h3⟩ := h
    simp only [List.map_cons, List.cons.injEq] at h1
    obtain ⟨rfl, rfl⟩ := h1
    rw [List.zip_cons_cons, assoc_cons] at hi
    split at hi
    · rename_i he; subst he; cases hi; exact h2
    · exact zip_slots ids vs h3 i v hi

theorem idB_le {np : Nat} {os : List (Nat × OSh)} {b : Bnd} (h : (idB np os).le b) {i : Nat} (hi : i < np) (hg : goneIn os i = false) : assoc b.m i = some i := h.m (i, i) (by simp [idB, hi, hg])

theorem assoc_mkO : ∀ {l : List (Nat × OSh)} {x : El (tyO l)} {i : Nat} {o : AObj}, assoc (mkO l x) i = some o → ∃ (s : OSh) (y : El s.ty), assoc l i = some s ∧ o = s.mk y
  | [], x, i, o, h => by cases h
  | (j, s) :: l, x, i, o, h => by
    simp only [mkO] at h
    rw [assoc_cons] at h ⊢
    split at h
    · rename_i he
      cases h
      rw [if_pos he]
      exact ⟨s, _, rfl, rfl⟩
    · rename_i he
      rw [if_neg he]
      exact assoc_mkO h

/-- The numbers, but those of what is let go, which stay as they were. -/
def kapG (np : Nat) (os : List (Nat × OSh)) (κ κ' : Nat → Value) (i : Nat) : Value := if (decide (i < np) && goneIn os i) = true then κ i else κ' i
/-- The state's memory under such numbers. -/
theorem Mem.rekap {glob : List (Nat × AV)} {κ0 κ' : Nat → Value} {np : Nat} {os : List (Nat × OSh)} {x : El (tyO os)} (hm : Mem glob M0 B0 w0 w κ' (mkO os x)) (hgl : ∀ g v, assoc glob g = some v → lacks (fun _ => true) v = true)
    (hn : (mkO os x).all (fun p => lacksO (fun i => decide (i < np) && goneIn os i) p.2) = true) :
    Mem glob M0 B0 w0 w (kapG np os κ0 κ') (mkO os x) ∧ okB M0 (kapG np os κ0 κ') (mkO os x) = okB M0 κ' (mkO os x) := by
  let N : Nat → Bool := fun i => decide (i < np) && goneIn os i
  have hk : ∀ i, N i = false → kapG np os κ0 κ' i = κ' i := fun i hi => by
    show (if N i = true then κ0 i else κ' i) = κ' i
    rw [hi]; rfl
  have hg : ∀ i o, assoc (mkO os x) i = some o → N i = true → o = .gone := by
    intro i o ho hi
    obtain ⟨s, y, h1, h2⟩ := assoc_mkO ho
    have hi' : goneIn os i = true := by
      have : (decide (i < np) && goneIn os i) = true := hi
      simp only [Bool.and_eq_true] at this
      exact this.2
    unfold goneIn at hi'
    rw [h1] at hi'
    cases s <;> simp at hi'
    exact h2
  have hmut : ∀ i o, assoc (mkO os x) i = some o → mutO o = true → kapG np os κ0 κ' i = κ' i := by
    intro i o ho hmu
    refine hk i ?_
    cases hi : N i with
    | false => rfl
    | true => rw [hg i o ho hi] at hmu; cases hmu
  have hlive : live (kapG np os κ0 κ') (mkO os x) = live κ' (mkO os x) := by
    funext b
    apply propext
    constructor
    · rintro ⟨i, o, h1, h2, h3⟩; exact ⟨i, o, h1, h2, by rw [← hmut i o h1 h2]; exact h3⟩
    · rintro ⟨i, o, h1, h2, h3⟩; exact ⟨i, o, h1, h2, by rw [hmut i o h1 h2]; exact h3⟩
  have hok : okB M0 (kapG np os κ0 κ') (mkO os x) = okB M0 κ' (mkO os x) := by funext b; unfold okB; rw [hlive]
  refine ⟨⟨fun i o ho => ?_, fun i j o p b hi hj hmi hmj hbi hbj => hm.sep i j o p b hi hj hmi hmj (by rw [← hmut i o hi hmi]; exact hbi) (by rw [← hmut j p hj hmj]; exact hbj), fun b hb => hm.off b (by rw [← hlive]; exact hb), hm.keep, fun g v hgv => ?_⟩, hok⟩
  · cases hi : N i with
    | true => rw [hg i o ho hi]; trivial
    | false =>
      have hl : lacksO N o = true := (List.all_eq_true.1 hn (i, o) (assoc_mem ho))
      rw [hok]
      exact ObjR.mono (N := N) (Ext.refl _ _) hk hi hl (fun _ _ _ => rfl) (hm.each i o ho)
  · rw [hok]
    exact RepV.kap (N := fun _ => true) (fun _ h => by cases h) v _ (hgl g v hgv) (hm.glob g v hgv)

theorem jump_rd (T : Told P D M0 B0 w0 κ0 Out) {t : Pt Z} {z : Z} (hr : RD D M0 B0 w0 κ0 st κ a w) (h : (jumpTo D t st).eval = some z) :
    ∃ x κ', t.F x = some z ∧ RD D M0 B0 w0 κ0 (t.pat.mk' x 0) κ' a w := by
  unfold jumpTo at h
  split at h
  · rename_i vs hvs
    split at h
    · rename_i x b hfit
      split at h
      rotate_left
      · cases h
      rename_i hall
      obtain ⟨hng, hdf, hall⟩ := hall
      unfold noGone at hng
      simp only [Bool.and_eq_true] at hng
      obtain ⟨hg, hid, hf⟩ := fitAll_fitted hr.mem hr.M hfit (getAll_rep hr _ _ hvs)
      obtain ⟨hm, hx⟩ := hf.mem hr.mem hr.M T.hgl hg
      obtain ⟨hm2, hok2⟩ := Mem.rekap (κ0 := κ) hm T.hgl hng.2
      refine ⟨x, kapG D.np t.pat.objs κ (b.kap κ), h, ⟨⟨hm2, fun i v hi => ?_, hr.no_defers hdf, hr.size, hr.old⟩, fun i hi => ⟨?_, ?_⟩⟩⟩
      · have hv := RepL.kap (N := fun i => decide (i < D.np) && goneIn t.pat.objs i) (κ' := kapG D.np t.pat.objs κ (b.kap κ)) (fun i hi => by unfold kapG; rw [hi]; rfl) _ _ hng.1 (RepL.mono hx _ _ hf.vals)
        rw [← hok2] at hv
        exact zip_slots _ _ hv i v hi
      · show kapG D.np t.pat.objs κ (b.kap κ) i = κ0 i
        unfold kapG
        cases hg : goneIn t.pat.objs i with
        | true => simp only [hi, decide_true, Bool.and_true, if_true]; exact (hr.par i hi).1
        | false =>
          have := idB_le hid hi hg
          simp only [Bool.and_false, Bool.false_eq_true, if_false, Bnd.kap, this]
          exact (hr.par i hi).1
      · have h1 := List.all_eq_true.1 hall i (List.mem_range.2 hi)
        obtain ⟨o, ho⟩ := mkO_mem_key (x := snd' x) (by simpa using h1)
        show (assoc (mkO t.pat.objs (snd' x)) i).isSome = true
        cases hx : assoc (mkO t.pat.objs (snd' x)) i with
        | some _ => rfl
        | none => exact absurd ho (assoc_none hx _)
    · cases h
  · cases h

theorem callFunc_body {f : FuncId} {fn : Func} {c : Code} (hf : P.funcs[f]? = some fn) (hb : fn.body = some c) (hn : (fn.name == "runtime.NumGoroutine") = false) (vs : Array Value) (w : World) : (callFunc f vs).run P w = .ok (.enter f vs) w := by
  unfold callFunc
  have hn' : ¬fn.name = "runtime.NumGoroutine" := by simpa using hn
  simp [Sem.run_bind, hf, hb, hn']

theorem inv_calls {g : FuncId} {fn : Func} {c : Code} (hf : P.funcs[g]? = some fn) (hb : fn.body = some c) (hn : (fn.name == "runtime.NumGoroutine") = false) {first cap : Array Value} {vs : List Value} {R : Ending → World → Prop} (h : InvV P (.func (.func g) first cap) vs w R) : Calls P g (first ++ vs.toArray ++ cap) w R := by
  have hI : Inv P g (first ++ vs.toArray ++ cap) w R := h
  unfold Inv at hI
  rw [callFunc_body hf hb hn] at hI
  exact hI

/-- A new object in new memory, as the state has it. -/
theorem RR.add (hr : RD D M0 B0 w0 κ0 st κ a w) {N : Nat → Bool} (hf : Fresh N D.glob st) {id : Nat} (hN : N id = true) {v : Value} {o : AObj} {w1 : World} (hb : Below w.heap.size w w1) (hblk : ∀ b, mutO o = true → blkOf v = some b → w.heap.size ≤ b)
    (ho : ∀ ok', (∀ k, okB M0 κ st.objs k → k < w.heap.size → ok' k) → Ext w w1 (okB M0 κ st.objs) ok' → ObjR w1 ok' (upd κ id v) id o) :
    RD D M0 B0 w0 κ0 { st with objs := (id, o) :: st.objs } (upd κ id v) a w1 ∧ (∀ i, N i = false → upd κ id v i = κ i) := by
  obtain ⟨hn, hm⟩ := hr.mem.add hr.M hb hN hf.1 hblk ho
  have hR := hr.toR.next (dst := none) (v := .junk) (u := undef) hn hm hf.2.1 hf.2.2 (fun d hd => by cases hd) (fun h => by cases h)
  refine ⟨⟨hR, fun i hi => ?_⟩, hn.kap⟩
  obtain ⟨h1, h2⟩ := hr.par i hi
  obtain ⟨o', ho'⟩ := Option.isSome_iff_exists.1 h2
  refine ⟨(hn.kap i (hf.1.ids i o' ho')).trans h1, ?_⟩
  show (assoc ((id, o) :: st.objs) i).isSome = true
  rw [assoc_cons]
  split
  · rfl
  · exact h2

theorem Fresh.sub {N N' : Nat → Bool} {glob : List (Nat × AV)} (h : Fresh N glob st) (hs : ∀ i, N' i = true → N i = true) : Fresh N' glob st :=
  ⟨⟨fun i o ho => (by
      cases hx : N' i with
      | false => rfl
      | true => have := hs i hx; rw [h.1.ids i o ho] at this; cases this), fun i o ho => lacksO_sub hs o (h.1.objs i o ho), fun g v hg => lacks_sub hs v (h.1.glob g v hg)⟩, fun i v hi => lacks_sub hs v (h.2.1 i v hi), fun d hd => lacksD_sub hs d (h.2.2 d hd)⟩

/-- A loop over a function. -/
theorem range_good (T : Told P D M0 B0 w0 κ0 Out) {f : FuncId} {fn : Func} (X : Text P D f fn) {p : List Nat} {g : Operand} {ps : Array Tmp} {x y : Code} {k : List Item} (hat : at_ D.body p = some (.code (.rangeFunc g ps x y) :: k)) {K : ASt → Tr Z} {z : Z} (hr : RD D M0 B0 w0 κ0 st κ a w)
    (h : (rangeT D p g st K).eval = some z) (hk : ∀ st κ a w, RD D M0 B0 w0 κ0 st κ a w → (K st).eval = some z → Good P f (Out z) k a w) : Good P f (Out z) (.code (.rangeFunc g ps x y) :: k) a w := by
  unfold rangeT at h
  split at h
  rotate_left
  · cases h
  rename_i p' sl gf cap hya hg
  split at h
  rotate_left
  · cases h
  rename_i cv hcv
  simp only at h
  split at h
  rotate_left
  · cases h
  rename_i hc
  simp only [Bool.and_eq_true, decide_eq_true_eq] at hc
  obtain ⟨⟨⟨⟨⟨c1, c2⟩, c3⟩, c4⟩, c5⟩, c6⟩ := hc
  have hp : p' = p := by simpa using c1
  subst hp
  have hyt := X.yt p' sl g ps x y k hya hat
  split at h
  rotate_left
  · cases h
  rename_i s hs
  split at h
  rotate_left
  · cases h
  rename_i xx bb hfit
  split at h
  rotate_left
  · cases h
  rename_i hok
  split at h
  rotate_left
  · cases h
  rename_i F hF
  simp only [Tr.eval] at h
  cases hy : F xx with
  | none => rw [hy] at h; cases h
  | some yv =>
    rw [hy] at h
    simp only [Option.bind_some] at h
    split at h
    rotate_left
    · cases h
    rename_i key2 cs2 hobj2
    intro b cs hf hb hro
    -- the two blocks are laid
    obtain ⟨dr, hdr⟩ : ∃ dr, dr = w.heap.size := ⟨_, rfl⟩
    have fr0 := fresh_lack c5
    have fa : Fresh (fun i => i == st.nxt) D.glob st := fr0.sub (fun i hi => by simp at hi; simp [hi])
    obtain ⟨hr1, hk1⟩ := hr.add (id := st.nxt) (v := .pointer (some ⟨w.heap.size, 0, none⟩)) (o := .dfr) (w1 := w.alloc (.deferred (some []))) fa (beq_self_eq_true _) (below_alloc1 w _) (fun b _ hb => Nat.le_of_eq (Option.some.inj hb))
      (fun ok' _ _ => ⟨w.heap.size, upd_same _ _ _, heap_alloc_new w _⟩)
    let st' : ASt := { st with objs := (st.nxt, .dfr) :: st.objs }
    have fb : Fresh (fun i => i == st.nxt + 1) D.glob st' := by
      have f1 : Fresh (fun i => i == st.nxt + 1) D.glob st := fr0.sub (fun i hi => by simp at hi; simp [hi])
      refine ⟨⟨fun i o ho => ?_, fun i o ho => ?_, f1.1.glob⟩, f1.2⟩
      · have ho' : assoc ((st.nxt, AObj.dfr) :: st.objs) i = some o := ho
        rw [assoc_cons] at ho'
        split at ho'
        · rename_i he; subst he; simp
        · exact f1.1.ids i o ho'
      · have ho' : assoc ((st.nxt, AObj.dfr) :: st.objs) i = some o := ho
        rw [assoc_cons] at ho'
        split at ho'
        · cases ho'; rfl
        · exact f1.1.objs i o ho'
    let rec_ : Loop := { state := .ready, pending := none, fn := f, tmps := a.tmps, params := ps, assign := x, body := y, defers := w.heap.size }
    let w1 : World := w.alloc (.deferred (some []))
    let w2 : World := w1.alloc (.loop rec_)
    have hsz1 : w1.heap.size = w.heap.size + 1 := Array.size_push _
    have hcap1 : RepL w1 (okB M0 (upd κ st.nxt (.pointer (some ⟨w.heap.size, 0, none⟩))) st'.objs) (upd κ st.nxt (.pointer (some ⟨w.heap.size, 0, none⟩))) cv (sl.map fun i => a.tmps.getD i undef) :=
      getAll_rep (D := D) hr1 sl cv hcv
    have lcv : lacksL (fun i => i == st.nxt + 1) cv = true := by
      have : ∀ (ids : List Nat) (vs : List AV), getAll st.slots ids = some vs → lacksL (fun i => i == st.nxt + 1) vs = true := by
        intro ids
        induction ids with
        | nil => intro vs hv; simp only [getAll, Option.some.injEq] at hv; subst hv; rfl
        | cons i ids ih =>
          intro vs hv
          simp only [getAll] at hv
          split at hv
          · rename_i v vs' h1 h2
            cases hv
            simp only [lacksL, Bool.and_eq_true]
            exact ⟨fb.2.1 i v h1, ih vs' h2⟩
          · cases hv
      exact this sl cv hcv
    obtain ⟨hr2, hk2⟩ := RR.add (D := D) (id := st.nxt + 1) hr1 (v := .pointer (some ⟨w1.heap.size, 0, none⟩)) (o := .lp D.fid false cv) (w1 := w2) fb (beq_self_eq_true _) (below_alloc1 w1 _) (fun b _ hb => Nat.le_of_eq (Option.some.inj hb))
      (fun ok' _ hx => ⟨w1.heap.size, rec_, ⟨ps, x, y, D.nt, sl⟩, upd_same _ _ _, heap_alloc_new w1 _, rfl, rfl, by rw [X.fid]; exact hyt, X.fid.symm, rfl, rfl, rfl, hr.size,
        RepL.kap (N := fun i => i == st.nxt + 1) (fun id hid => upd_other _ _ (fun h => by rw [h] at hid; simp at hid)) cv _ lcv (RepL.mono hx cv _ hcap1)⟩)
    have e0 : upd (upd κ st.nxt (.pointer (some ⟨w.heap.size, 0, none⟩))) (st.nxt + 1) (.pointer (some ⟨w1.heap.size, 0, none⟩)) (st.nxt + 1) = .pointer (some ⟨w1.heap.size, 0, none⟩) := upd_same _ _ _
    have e0' : upd (upd κ st.nxt (.pointer (some ⟨w.heap.size, 0, none⟩))) (st.nxt + 1) (.pointer (some ⟨w1.heap.size, 0, none⟩)) st.nxt = .pointer (some ⟨w.heap.size, 0, none⟩) := by rw [upd_other _ _ (by omega), upd_same]
    generalize upd (upd κ st.nxt (.pointer (some ⟨w.heap.size, 0, none⟩))) (st.nxt + 1) (.pointer (some ⟨w1.heap.size, 0, none⟩)) = κ2 at hr2 e0 e0'
    -- the call
    obtain ⟨ucap, hfn, hcap⟩ := opIn_rep (D := D) hr2 (x := g) hg
    have hy1 : RepL w2 (okB M0 κ2 ((st.nxt + 1, AObj.lp D.fid false cv) :: (st.nxt, .dfr) :: st.objs)) κ2 [AV.fn (2000000 + D.fid) [.ptr (st.nxt + 1) 0]] [.func (.yield w1.heap.size) #[] #[]] := by
      refine ⟨_, _, rfl, ⟨[.pointer (some ⟨w1.heap.size, 0, none⟩)], ?_, _, _, rfl, ⟨w1.heap.size, e0, rfl⟩, rfl⟩, rfl⟩
      have h1 : ¬ (2000000 + (show Nat from D.fid) < 1000000) := by omega
      have h2 : ¬ (2000000 + (show Nat from D.fid) < 2000000) := by omega
      unfold FnR
      rw [if_neg h1, if_neg h2]
      exact ⟨_, rfl, rfl⟩
    obtain ⟨vs, hvs, hinv⟩ := callee_rep (P := P) (w := w2) hfn hy1 hcap
    obtain ⟨hg2, _, hft⟩ := fitAll_fitted hr2.mem hr2.M hfit hvs
    have hent := call_entry hr2.mem hr2.M T.hgl hg2 hft
    have hcall := T.calls (calleeN gf) _ s hs xx _ _ _ _ _ hent hinv
    rw [hF] at hcall
    have hcall := hcall yv hy
    obtain ⟨first, cp, hval⟩ : ∃ first cp, a.eval g = .func (.func (calleeN gf)) first cp := by
      unfold FnR at hfn
      unfold calleeN at c4 ⊢
      by_cases g1 : gf < 1000000
      · simp only [g1, if_true] at hfn ⊢; exact ⟨_, _, hfn⟩
      · by_cases g2 : gf < 2000000
        · simp only [g1, g2, if_true, if_false] at hfn ⊢; exact ⟨_, _, hfn⟩
        · simp only [g1, g2, if_false] at c4
    obtain ⟨fn', c', b1, b2, b3⟩ := X.bodied (calleeN gf) (by simpa using c3)
    rw [hval] at hcall
    have hcalls := inv_calls b1 b2 b3 hcall
    have hstep := stepR_rangeFunc (P := P) (b := b) (a := a) (k := k) (cs := cs) (w := w) (g := g) (ps := ps) (assign := x) (body := y) (l := w1.heap.size) (mark := [{ target := .collected w.heap.size, args := #[] }]) (w₁ := w2) (w₁' := w2) (w₂ := w2)
      (d := { target := .fn (.func (calleeN gf)) cp, args := first ++ #[.func (.yield w1.heap.size) #[] #[]] }) (f := calleeN gf) (args := first ++ #[.func (.yield w1.heap.size) #[] #[]] ++ cp)
      (by rw [hro, hf, run_enterLoop_outer, ← hsz1])
      (by
        show (Deferred.ofValue (a.eval g) _).run P w2 = _
        rw [hval]
        simp [Deferred.ofValue, Act.eval])
      (by show (callFunc _ _).run P w2 = _; exact callFunc_body b1 b2 b3 _ _)
    obtain ⟨e, w3, fr, hR, hcomes, hfr, hleave⟩ := hcalls (b.atR { a with defers := [{ target := .collected w.heap.size, args := #[] }] ++ a.defers } (.inRangeFunc w1.heap.size :: k) :: cs)
    cases e with
    | panicked c => exact hR.elim
    | outgrown => exact hR.elim
    | returned v =>
      have fr2 := fresh_lack c6
      obtain ⟨κ3, hdone⟩ := call_done (v := v) (w' := w3) hr2 T.hgl fr2.1 hok.1 hg2 hft hok.2 hR
      have hr3 := hr2.done fr2 (dst := none) rfl hdone
      have k1 : κ3 (st.nxt + 1) = .pointer (some ⟨w1.heap.size, 0, none⟩) := by
        rw [hdone.next.kap (st.nxt + 1) (by simp [newIds])]; exact e0
      have k0 : κ3 st.nxt = .pointer (some ⟨w.heap.size, 0, none⟩) := by
        rw [hdone.next.kap st.nxt (by simp [newIds]; omega)]; exact e0'
      obtain ⟨l', r', y', m1, m2, m3, m4, _⟩ := hr3.mem.each (st.nxt + 1) _ hobj2
      rw [k1] at m1
      cases m1
      have hend := run_endLoop (P := P) m2 (by rw [m3]; simp)
      have hend : (Instr.endLoop w1.heap.size).run P w3 = .ok none (w3.putObj w1.heap.size (.loop { r' with state := .exhausted })) := hend.trans (by rw [m4])
      have hlt : w1.heap.size < w3.heap.size := (Array.getElem?_eq_some_iff.1 m2).1
      have hput := hr3.mem.put hr3.M (o' := .blk) (w' := w3.putObj w1.heap.size (.loop { r' with state := .exhausted })) hobj2 rfl rfl (b := w1.heap.size) (by rw [k1]; rfl) (World.putObj_size) rfl rfl rfl (fun k hk => World.putObj_heap_other hk)
        (fun ok' _ _ => ⟨w1.heap.size, k1, by rw [World.putObj_size]; exact hlt⟩)
      have hnd := hr.no_defers c2
      have hfin0 := fun rd => hk _ κ3 { a with defers := [{ target := .collected w.heap.size, args := #[] }] ++ a.defers } (w3.putObj w1.heap.size (.loop { r' with state := .exhausted })) rd h
      have hfin := hfin0 ⟨⟨hput.2, fun i v hi => RepV.mono hput.1.ext _ _ (hr3.slots i v hi), by
          have : DfR (w3.putObj w1.heap.size (.loop { r' with state := .exhausted })) (fun _ => True) κ3 [.mark st.nxt] ([{ target := .collected w.heap.size, args := #[] }] ++ a.defers) := by rw [hnd]; exact ⟨_, _, k0, rfl, rfl⟩
          obtain ⟨b1, ds1, q1, q2, q3⟩ := this
          exact ⟨b1, ds1, q1, q2, q3⟩, hr.size, hr.old⟩, fun i hi => ⟨(hr3.par i hi).1, by
          have := (hr3.par i hi).2
          rw [assoc_cons]
          split
          · rfl
          · exact this⟩⟩
      obtain ⟨e, w', fr', h1, h2, h3⟩ := hfin b cs hf hb hro
      refine ⟨e, w', fr', h1, ?_, h3⟩
      rw [← Frame.atR_of_none hro] at h2 ⊢
      refine Comes.of_steps (.one hstep) (Comes.of_steps hcomes (Comes.of_steps (.one (step_leave_returned hleave)) ?_))
      rw [finish_atR_inRangeFunc]
      exact Comes.of_steps (.one (stepR_endRangeFunc hend)) (by simpa using h2)

theorem drive_good (T : Told P D M0 B0 w0 κ0 Out) (E : Ends P D M0 B0 w0 κ0 Out) {f : FuncId} {fn : Func} (X : Text P D f fn) {z : Z} (hp : Points P D M0 B0 w0 κ0 f Out z) :
    ∀ (n : Nat) (p : List Nat) (st : ASt) (κ : Nat → Value) (a : Act) (w : World) (k : List Item), (drive D n p st).eval = some z → at_ D.body p = some k → RD D M0 B0 w0 κ0 st κ a w → Good P f (Out z) k a w
  | 0, p, st, κ, a, w, k, h, _, _ => by cases h
  | n + 1, p, st, κ, a, w, k, h, hat, hr => by
    have go : ∀ (p' : List Nat) (st' : ASt) (κ' : Nat → Value) (a' : Act) (w' : World) (k' : List Item), (match findPt D.pts p' with | some t => jumpTo D t st' | none => drive D n p' st').eval = some z → at_ D.body p' = some k' → RD D M0 B0 w0 κ0 st' κ' a' w' → Good P f (Out z) k' a' w' := by
      intro p' st' κ' a' w' k' h' hat' hr'
      split at h'
      · rename_i t ht
        obtain ⟨x, κ2, h1, h2⟩ := jump_rd T hr' h'
        exact hp p' t ht x h1 κ2 a' w' k' hat' h2
      · exact drive_good T E X hp n p' st' κ' a' w' k' h' hat' hr'
    have up : ∀ (q : List Nat) (c : Code) (kq : List Item) (st' : ASt) (κ' : Nat → Value) (a' : Act) (w' : World), at_ D.body q = some (.code c :: kq) →
        (match climb D.body q with
          | some (some p') => (match findPt D.pts p' with | some t => jumpTo D t st' | none => drive D n p' st')
          | some none => leave D st'
          | none => Tr.fail).eval = some z → RD D M0 B0 w0 κ0 st' κ' a' w' → Good P f (Out z) kq a' w' := by
      intro q c kq st' κ' a' w' hq h' hr'
      split at h'
      · rename_i p' hcl
        exact climb_good q c kq _ hq hcl (fun p2 he Tt hTt => by cases he; exact go p' st' κ' a' w' Tt h' hTt hr') (fun he => by cases he)
      · rename_i hcl
        exact climb_good q c kq _ hq hcl (fun p2 he => by cases he) (fun _ => leave_good T E X hr' h' (.inl rfl))
      · cases h'
    simp only [drive, hat] at h
    split at h
    · rename_i c kk heq
      simp only [Option.some.injEq] at heq
      subst heq
      split at h
      · exact Good.step (fun b cs => step_skip) (up p _ _ st κ a w hat h hr)
      · exact Good.step (fun b cs => step_seq) (go _ st κ a w _ h (by simp [at_, hat, down]) hr)
      · exact Good.step (fun b cs => step_block) (go _ st κ a w _ h (by simp [at_, hat, down]) hr)
      · exact Good.step (fun b cs => step_loop) (go _ st κ a w _ h (by simp [at_, hat, down]) hr)
      · rename_i x ca cb
        split at h
        · rename_i b hb
          have hx := opIn_rep hr hb
          simp only [Tr.eval] at h
          have hstep := fun (fr : Frame) (cs : List Frame) => step_cond (P := P) (b := fr) (a := a) (k := kk) (cs := cs) (w := w) (x := ca) (y := cb) hx.1
          cases b
          · simp only [Bool.false_eq_true, if_false] at h hstep
            exact Good.step hstep (go _ st κ a w _ h (by simp [at_, hat, down]) hr)
          · simp only [if_true] at h hstep
            exact Good.step hstep (go _ st κ a w _ h (by simp [at_, hat, down]) hr)
        · cases h
      · rename_i id ops dr
        split at h
        · rename_i hdr
          subst hdr
          exact good_draw T X.mixed X.func h hr (fun st' κ' a' w' hr' h' => up p _ _ _ κ' a' w' hat h' hr')
        · rename_i hdr
          have : dr = false := by simpa using hdr
          subst this
          exact good_region T X.func h hr (fun st' κ' a' w' hr' h' => up p _ _ _ κ' a' w' hat h' ⟨⟨hr'.mem, hr'.slots, hr'.defers, hr'.size, hr'.old⟩, hr'.par⟩)
      · rename_i id
        split at h
        · rename_i q hq
          obtain ⟨cb, k', h1, h2⟩ := exit_at p _ _ q hat hq
          exact Good.step (fun b cs => step_exit h2) (up q _ _ st κ a w h1 h hr)
        · cases h
      · exact leave_good T E X hr h (.inr ⟨_, rfl⟩)
      · rename_i g ps cx cy
        exact range_good T X hat hr h (fun st' κ' a' w' hr' h' => up p _ _ _ κ' a' w' hat h' hr')
      · cases h
    · cases h
end
end Go.AM
