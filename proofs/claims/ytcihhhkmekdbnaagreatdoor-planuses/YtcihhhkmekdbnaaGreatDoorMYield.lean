/-
  The abstract machine, a part.
-/
import Derived.Test.YtcihhhkmekdbnaaGreatDoorMFun
/-
  The abstract machine, part 30: the rounds of a loop over a function, as a contract of its yield.
-/
namespace Go.AM
open Go RowKit

/-- A round's text: one region that assigns, one that is the body. -/
structure Yx where
  key : FuncId
  yi : YI
  p : Tmp
  id1 : Nat
  ops1 : Array Oper
  bid : Nat
  id2 : Nat
  ops2 : Array Oper
  dr : Bool
  inp : Pat
  robj : List (Nat × OSh)
  orders : List (Nat × List Nat) := []
abbrev Yx.Y (Y : Yx) : Type := El (cns (tyL [.bool]) (tyO Y.robj))
structure YxOK (P : Program) (Y : Yx) : Prop where
  yi : ytab Y.key = some Y.yi
  params : Y.yi.params = #[Y.p]
  lt : Y.p < Y.yi.nt
  assign : Y.yi.assign = .region Y.id1 Y.ops1 false
  body : Y.yi.body = .block Y.bid (.region Y.id2 Y.ops2 Y.dr)
  ids : Y.inp.objs.map (·.1) = List.range Y.inp.objs.length
def Yx.env (Y : Yx) (G : Gl) (calls : Calls1) : DEnv Y.Y :=
  { Θ := G.Θ, eqs := G.eqs, glob := G.glob, calls := calls, nt := Y.yi.nt, body := .skip, results := [], np := Y.inp.objs.length, retK := retPlain Y.inp.objs.length [.bool] Y.robj, panK := fun _ => .fail, pts := [], orders := Y.orders, bodied := G.bodied, rnd := true, clones := G.clones }
noncomputable def Yx.fin (Y : Yx) (G : Gl) (calls : Calls1) (lid : Nat) (st : ASt) : Tr Y.Y := match assoc st.objs lid with
  | some (.lp k true cs) => if k = Y.key then retPlain Y.inp.objs.length [.bool] Y.robj [.sc (.bool true)] { st with objs := (lid, .lp k false cs) :: st.objs } else .fail
  | _ => .fail
noncomputable def Yx.mid (Y : Yx) (G : Gl) (calls : Calls1) (lid : Nat) (st : ASt) : Tr Y.Y := match assoc st.objs lid with
  | some (.lp k false cs) =>
    if Y.dr then drawT (Y.env G calls) Y.id2 Y.ops2 { st with objs := (lid, .lp k true cs) :: st.objs } (Y.fin G calls lid)
    else runT (Y.env G calls) Y.ops2 (List.range Y.ops2.size) { st with objs := (lid, .lp k true cs) :: st.objs } (Y.fin G calls lid)
  | _ => .fail
noncomputable def Yx.tree (Y : Yx) (G : Gl) (calls : Calls1) (nx : Nat) (x : Y.inp.X) : Tr Y.Y :=
  match mkL (Y.inp.slots.map (·.2)) (fst' x) with
  | [v, .ptr lid 0] => match assoc (mkO Y.inp.objs (snd' x)) lid with
    | some (.lp key false cs) =>
      if key = Y.key ∧ lid < Y.inp.objs.length then
        runT (Y.env G calls) Y.ops1 (List.range Y.ops1.size) { slots := (Y.p, v) :: Y.yi.slots.zip cs, objs := mkO Y.inp.objs (snd' x), nxt := nx } (Y.mid G calls lid)
      else .fail
    | _ => .fail
  | _ => .fail

section
variable {P : Program} {G : Gl} {Z : Type} {D : DEnv Z} {M0 B0 : Nat → Prop} {w0 w w' : World} {κ0 κ κ' : Nat → Value} {Out : Z → Ending → World → Prop} {st : ASt} {a : Act}

/-- One object's block is put anew. -/
theorem RR.put (hr : RD D M0 B0 w0 κ0 st κ a w) {id : Nat} {o o' : AObj} {b : Nat} (hid : assoc st.objs id = some o) (hmu : mutO o = true) (hmu' : mutO o' = true) (hκ : κ id = .pointer (some ⟨b, 0, none⟩)) (ob : Obj)
    (ho : ∀ ok', (∀ k, okB M0 κ st.objs k → ok' k) → Ext w (w.putObj b ob) (okB M0 κ st.objs) ok' → ObjR (w.putObj b ob) ok' κ id o') : RD D M0 B0 w0 κ0 { st with objs := (id, o') :: st.objs } κ a (w.putObj b ob) := by
  have hput := hr.mem.put hr.M (o' := o') (w' := w.putObj b ob) hid hmu hmu' (b := b) (by rw [hκ]; rfl) (World.putObj_size) rfl rfl rfl (fun k hk => World.putObj_heap_other hk) ho
  refine ⟨⟨hput.2, fun i v hi => RepV.mono hput.1.ext _ _ (hr.slots i v hi), DfR.next hput.1.ext (fun _ _ => rfl) _ _ (fun d _ => lacksDF d) hr.defers, hr.size, hr.old⟩, fun i hi => ⟨(hr.par i hi).1, ?_⟩⟩
  show (assoc ((id, o') :: st.objs) i).isSome = true
  rw [assoc_cons]
  split
  · rfl
  · exact (hr.par i hi).2

theorem pq_out {z : Z} {N : Act → World → Prop} (h : ∀ c w, ¬ Out z (.panicked c) w) {e : Exit} (hq : PQ Out z N e a w) : e = .normal ∧ N a w := by
  cases e with
  | normal => exact ⟨rfl, hq⟩
  | panic c => exact absurd hq.2 (h _ _)
  | _ => exact hq.elim

theorem yield_ok (hg : GlOK P G) {Y : Yx} (hY : YxOK P Y) {calls : Calls1} {nx : Nat} {F : Y.inp.X → Option Y.Y} (hc : ∀ f vs s, findCall calls f vs = some s → CallOK P G.glob f s) (hF : ∀ x y, F x = some y → (Y.tree G calls nx x).eval = some y) :
    CallOK P G.glob (2000000 + Y.key) ⟨Y.inp, [.bool], Y.robj, .plain F⟩ := by
  intro x M0 κ w vs I he hI
  show ∀ y, F x = some y → _
  intro z hz
  have h := hF x z hz
  unfold Yx.tree at h
  split at h
  rotate_left
  · cases h
  rename_i v lid hml
  split at h
  rotate_left
  · cases h
  rename_i key cs hlp
  split at h
  rotate_left
  · cases h
  rename_i hkl
  obtain ⟨rfl, hlid⟩ := hkl
  -- what is handed
  have hvals := he.vals
  rw [hml] at hvals
  obtain ⟨u1, us1, rfl, hv1, u2, us2, rfl, hv2, hnil⟩ := hvals
  have : us2 = [] := hnil
  subst this
  obtain ⟨l, hκl, hu2⟩ := hv2
  unfold Invoked at hI
  have nlt : ¬ (2000000 + (show Nat from Y.key) < 1000000) := by omega
  have nlt2 : ¬ (2000000 + (show Nat from Y.key) < 2000000) := by omega
  rw [if_neg nlt] at hI
  obtain ⟨ags, caps, u, hvs, hfn, rfl⟩ := hI
  unfold FnR at hfn
  rw [if_neg nlt, if_neg nlt2] at hfn
  obtain ⟨l', rfl, rfl⟩ := hfn
  have hag : ags = [u1] ∧ u2 = .pointer (some ⟨l', 0, none⟩) := by
    match ags, hvs with
    | [], hvs => simp at hvs
    | [x], hvs => simp at hvs; exact ⟨by rw [hvs.1], hvs.2⟩
    | _ :: _ :: _, hvs => simp at hvs
  obtain ⟨rfl, hu2'⟩ := hag
  have e1 : l = l' := by rw [hu2'] at hu2; cases hu2; rfl
  subst e1
  obtain ⟨l2, r, yy, g1, g2, g3, g4, g5, g6, g7, g8, g9, g10, g11⟩ := he.mem.each lid _ hlp
  have e2 : l2 = l := by rw [hκl] at g1; cases g1; rfl
  subst e2
  rw [hY.yi] at g5
  cases g5
  rw [hY.params] at g7
  have hy : (Instr.yield l2 [u1].toArray).run P w = .ok (.round l2 r.fn (r.tmps.setIfInBounds Y.p u1) r.assign r.body) w := by
    rw [run_yield g2 (by rw [g7]; rfl), g7]
    simp
  show InvV P (.func (.yield l2) #[] #[]) [u1] w _
  unfold InvV
  simp only
  rw [hy]
  simp only
  let Dy := Y.env G calls
  let Out : Y.Y → Ending → World → Prop := fun y => RetOut G.glob M0 (live κ (mkO Y.inp.objs (snd' x))) κ w Y.inp.objs.length [.bool] Y.robj y
  have T : Told P Dy M0 (live κ (mkO Y.inp.objs (snd' x))) w κ Out := ⟨hg.Θ, hg.eqs, hg.glob, hc, hg.clones, he.old, fun v z h => by cases h⟩
  have hno : ∀ c w, ¬ Out z (.panicked c) w := fun c w h => h
  have hsize : (r.tmps.setIfInBounds Y.p u1).size = Y.yi.nt := by simp [g10]
  have hr0 : RD Dy M0 (live κ (mkO Y.inp.objs (snd' x))) w κ { slots := (Y.p, v) :: Y.yi.slots.zip cs, objs := mkO Y.inp.objs (snd' x), nxt := nx } κ { tmps := r.tmps.setIfInBounds Y.p u1, defers := [] } w := by
    refine ⟨⟨he.mem, fun i c hi => ?_, rfl, hsize, he.old⟩, fun i hi => ⟨rfl, ?_⟩⟩
    · rw [assoc_cons] at hi
      split at hi
      · rename_i hpi
        subst hpi
        cases hi
        have : (r.tmps.setIfInBounds Y.p u1).getD Y.p undef = u1 := by
          have := hY.lt
          simp [Array.getD, g10, this]
        simp only [this]
        exact hv1
      · rename_i hpi
        have := zip_slots Y.yi.slots cs g11 i c hi
        have he : (r.tmps.setIfInBounds Y.p u1).getD i undef = r.tmps.getD i undef := by
          simp only [Array.getD_eq_getD_getElem?]
          rw [Array.getElem?_setIfInBounds_ne hpi]
        simp only [he]
        exact this
    · have hm : i ∈ Y.inp.objs.map (·.1) := by rw [hY.ids]; exact List.mem_range.2 hi
      obtain ⟨o, ho⟩ := mkO_mem_key (x := snd' x) hm
      show (assoc (mkO Y.inp.objs (snd' x)) i).isSome = true
      cases hx : assoc (mkO Y.inp.objs (snd' x)) i with
      | some _ => rfl
      | none => exact absurd ho (assoc_none hx _)
  refine roundIn_of_wpIn trivial ?_
  rw [g8, hY.assign]
  have hfw : Fence.wide.inRound l2 = FW (some l2) := rfl
  rw [hfw]
  refine wpIn_mono (wpIn_region (run_wp (ro := some l2) (n := 0) T (fun h => by cases h) _ _ κ _ w h hr0)) (fun e a1 w1 hq => ?_)
  obtain ⟨rfl, κ1, st1, hr1, h1⟩ := pq_out hno hq
  have h1' : (Y.mid G calls lid { st1 with nxt := st1.nxt + 16 * Y.ops1.size }).eval = some z := h1
  unfold Yx.mid at h1'
  split at h1'
  rotate_left
  · cases h1'
  rename_i k1 cs1 ho1
  have ho1' : assoc st1.objs lid = some (.lp k1 false cs1) := ho1
  obtain ⟨l1, r1, y1, q1, q2, q3, q4, q5, q6, q7, q8, q9, q10, q11⟩ := hr1.mem.each lid _ ho1'
  have hκ1 : κ1 lid = .pointer (some ⟨l2, 0, none⟩) := (hr1.par lid hlid).1.trans hκl
  have e3 : l2 = l1 := by rw [hκ1] at q1; cases q1; rfl
  subst e3
  refine ⟨_, run_beginRound q2 q3, ?_⟩
  have hlt1 : l2 < w1.heap.size := (Array.getElem?_eq_some_iff.1 q2).1
  have hr2 := hr1.put (o' := .lp k1 true cs1) ho1' rfl rfl hκ1 (.loop { r1 with state := .busy }) (fun ok' _ hx => ⟨l2, { r1 with state := .busy }, y1, hκ1, World.putObj_heap_same hlt1, rfl, q4, q5, q6, q7, q8, q9, q10, RepL.mono hx _ _ q11⟩)
  rw [g9, hY.body]
  have after : ∀ (st2 : ASt) (κ2 : Nat → Value) (a2 : Act) (w2 : World), RD Dy M0 (live κ (mkO Y.inp.objs (snd' x))) w κ st2 κ2 a2 w2 → (Y.fin G calls lid st2).eval = some z →
      roundPost P l2 (RetOut G.glob M0 (live κ (mkO Y.inp.objs (snd' x))) κ w Y.inp.objs.length [.bool] Y.robj z) .normal a2 w2 := by
    intro st2 κ2 a2 w2 hr2 h2
    unfold Yx.fin at h2
    split at h2
    rotate_left
    · cases h2
    rename_i k2 cs2 ho2
    split at h2
    rotate_left
    · cases h2
    obtain ⟨l3, r2, y2, q1, q2, q3, q4, q5, q6, q7, q8, q9, q10, q11⟩ := hr2.mem.each lid _ ho2
    have hκ2 : κ2 lid = .pointer (some ⟨l2, 0, none⟩) := (hr2.par lid hlid).1.trans hκl
    have e4 : l2 = l3 := by rw [hκ2] at q1; cases q1; rfl
    subst e4
    have hlt2 : l2 < w2.heap.size := (Array.getElem?_eq_some_iff.1 q2).1
    refine ⟨_, _, run_endRound none q2, ?_⟩
    have hr3 := hr2.put (o' := .lp k2 false cs2) ho2 rfl rfl hκ2 (.loop { r2 with state := .ready, pending := none }) (fun ok' _ hx => ⟨l2, { r2 with state := .ready, pending := none }, y2, hκ2, World.putObj_heap_same hlt2, rfl, rfl, q5, q6, q7, q8, q9, q10, RepL.mono hx _ _ q11⟩)
    unfold retPlain at h2
    split at h2
    · rename_i y b hf
      split at h2
      · rename_i hng
        cases h2
        exact ret_out (D := Dy) (vs := [.sc (.bool true)]) (us := [.bool true]) hg.glob hr3 hf hng ⟨_, _, rfl, ⟨rfl, trivial⟩, rfl⟩
      · cases h2
    · cases h2
  refine wpIn_block ?_
  split at h1'
  · rename_i hdr
    rw [hdr]
    refine wpIn_mono (wpIn_region_any hg.mixed (draw_any (ro := some l2) (n := 0) T (N := fun a w2 => ∃ κ2 st2, RD Dy M0 (live κ (mkO Y.inp.objs (snd' x))) w κ st2 κ2 a w2 ∧ (Y.fin G calls lid st2).eval = some z) h1' ⟨⟨hr2.mem, hr2.slots, hr2.defers, hr2.size, hr2.old⟩, hr2.par⟩ (fun st2 κ2 a2 w2 hr h => ⟨κ2, st2, hr, h⟩))) (fun e a2 w2 hq => ?_)
    obtain ⟨rfl, κ2, st2, hr2, h2⟩ := pq_out hno hq
    exact after st2 κ2 a2 w2 hr2 h2
  · rename_i hdr
    have hdr' : Y.dr = false := by simpa using hdr
    rw [hdr']
    refine wpIn_mono (wpIn_region (run_wp (ro := some l2) (n := 0) T (fun h => by cases h) _ _ κ1 _ _ h1' ⟨⟨hr2.mem, hr2.slots, hr2.defers, hr2.size, hr2.old⟩, hr2.par⟩)) (fun e a2 w2 hq => ?_)
    obtain ⟨rfl, κ2, st2, hr2, h2⟩ := pq_out hno hq
    exact after _ κ2 a2 w2 ⟨⟨hr2.mem, hr2.slots, hr2.defers, hr2.size, hr2.old⟩, hr2.par⟩ h2
end
end Go.AM
