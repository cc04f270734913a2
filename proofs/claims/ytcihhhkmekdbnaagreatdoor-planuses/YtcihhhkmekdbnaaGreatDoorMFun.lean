/-
  The abstract machine, a part.
-/
import Derived.Test.YtcihhhkmekdbnaaGreatDoorMSound
/-
  The abstract machine, part 28: a function does as its contract says, out of its walk as a tree.
-/
namespace Go.AM
open Go RowKit

/-- What every walk of a program knows. -/
structure Gl where
  Θ : Tab
  eqs : List (Nat × List Nat)
  glob : List (Nat × AV)
  bodied : List Nat := []
  dcalls : List (FuncId × CSpec) := []
  clones : List (Nat × (TypeId × TC)) := []
structure GlOK (P : Program) (G : Gl) : Prop where
  Θ : TabOK P G.Θ
  eqs : ∀ T, G.eqs.contains T = true → EqSem P T
  glob : ∀ g v, assoc G.glob g = some v → lacks (fun _ => true) v = true
  mixed : P.follows .mixedOrders = true
  bodied : ∀ g ∈ G.bodied, ∃ fn c, P.funcs[g]? = some fn ∧ fn.body = some c ∧ (fn.name == "runtime.NumGoroutine") = false
  dcalls : ∀ f vs s, findCall G.dcalls f vs = some s → DCallOK P G.glob f s
  clones : ∀ g e t, assoc G.clones g = some (e, t) → CloneOK P G.Θ g e t

/-- A function's text and its contract's shapes. -/
structure Fx where
  f : FuncId
  fn : Func
  body : Code
  inp : Pat
  res : List Sh
  robj : List (Nat × OSh)
  orders : List (Nat × List Nat) := []
abbrev Fx.Y (X : Fx) : Type := El (cns (tyL X.res) (tyO X.robj))
abbrev Calls1 := List (FuncId × CSpec)
abbrev Pts (Z : Type) := List (List Nat × Pt Z)
def Fx.plain (X : Fx) (G : Gl) (calls : Calls1) (pts : Pts X.Y) : DEnv X.Y :=
  { Θ := G.Θ, eqs := G.eqs, glob := G.glob, calls := calls, nt := X.fn.ntmps, body := X.body, results := X.fn.results.toList, np := X.inp.objs.length, retK := retPlain X.inp.objs.length X.res X.robj, panK := fun _ => .fail, pts := pts, orders := X.orders, fid := X.f, fname := X.fn.name, bodied := G.bodied, dcalls := G.dcalls, clones := G.clones }
def Fx.exc (X : Fx) (sh : Sh) (G : Gl) (calls : Calls1) (pts : Pts (Except (El sh.ty) X.Y)) : DEnv (Except (El sh.ty) X.Y) :=
  { Θ := G.Θ, eqs := G.eqs, glob := G.glob, calls := calls, nt := X.fn.ntmps, body := X.body, results := X.fn.results.toList, np := X.inp.objs.length, retK := retExc X.inp.objs.length X.res X.robj _, panK := panExc sh, pts := pts, orders := X.orders, fid := X.f, fname := X.fn.name, bodied := G.bodied, dcalls := G.dcalls, clones := G.clones }

/-- What is looked at once in a function's text. -/
def Fx.ok (X : Fx) : Bool := decide (X.inp.slots.map (·.1) = List.range X.inp.slots.length) && decide (X.inp.objs.map (·.1) = List.range X.inp.objs.length) && decide (X.inp.slots.length ≤ X.fn.ntmps)
structure FxOK (P : Program) (X : Fx) : Prop where
  fn : P.funcs[X.f]? = some X.fn
  body : X.fn.body = some X.body
  name : (X.fn.name == "runtime.NumGoroutine") = false
  lt : X.f < 1000000
  yt : (yAt X.fn.name).isSome = true → ytab X.f = ytabOf X.fn
  ok : X.ok = true

section
variable {P : Program} {G : Gl} {Z : Type} {D : DEnv Z} {M0 B0 : Nat → Prop} {w0 w w' : World} {κ0 κ κ' : Nat → Value} {Out : Z → Ending → World → Prop} {st : ASt} {a : Act}

theorem resV_rep {ok : Nat → Prop} : ∀ (vs : List AV) (us : List Value), RepL w ok κ vs us → RepV w ok κ (resV vs) (resU us)
  | [], us, h => by rw [show us = [] from h]; exact ⟨[], rfl, rfl⟩
  | [v], us, h => by
    obtain ⟨u, us', rfl, h1, h2⟩ := h
    rw [show us' = [] from h2]
    exact h1
  | v :: v' :: r, us, h => by
    obtain ⟨u, us', rfl, h1, h2⟩ := h
    obtain ⟨u', us2, rfl, h3, h4⟩ := h2
    exact ⟨u :: u' :: us2, rfl, u, _, rfl, h1, u', us2, rfl, h3, h4⟩

/-- A state read against results. -/
theorem ret_out {res : List Sh} {robj : List (Nat × OSh)} {y : El (cns (tyL res) (tyO robj))} {b : Bnd} {vs : List AV} {us : List Value} (hgl : ∀ g v, assoc D.glob g = some v → lacks (fun _ => true) v = true) (hr : RD D M0 B0 w0 κ0 st κ a w)
    (h : fitAll (idB D.np robj) res robj vs st.objs = some (y, b)) (hng : noGone D.np robj (mkL res (fst' y)) (mkO robj (snd' y)) = true) (hv : RepL w (okB M0 κ st.objs) κ vs us) : RetOut D.glob M0 B0 κ0 w0 D.np res robj y (.returned (resU us)) w := by
  obtain ⟨hg, hid, hf⟩ := fitAll_fitted hr.mem hr.M h hv
  obtain ⟨hm, hx⟩ := hf.mem hr.mem hr.M hgl hg
  unfold noGone at hng
  simp only [Bool.and_eq_true] at hng
  obtain ⟨hm2, hok2⟩ := Mem.rekap (κ0 := κ) hm hgl hng.2
  have hv := RepL.kap (N := fun i => decide (i < D.np) && goneIn robj i) (κ' := kapG D.np robj κ (b.kap κ)) (fun i hi => by unfold kapG; rw [hi]; rfl) _ _ hng.1 (RepL.mono hx _ _ hf.vals)
  rw [← hok2] at hv
  refine ⟨kapG D.np robj κ (b.kap κ), fun i hi => ?_, hm2, resV_rep _ _ hv⟩
  unfold kapG
  cases hg : goneIn robj i with
  | true => simp only [hi, decide_true, Bool.and_true, if_true]; exact (hr.par i hi).1
  | false =>
    have := idB_le hid hi hg
    simp only [Bool.and_false, Bool.false_eq_true, if_false, Bnd.kap, this]
    exact (hr.par i hi).1

variable {X : Fx}
theorem ends_plain (hg : GlOK P G) {calls : Calls1} {pts : Pts X.Y} : Ends P (X.plain G calls pts) M0 B0 w0 κ0 (fun y => RetOut G.glob M0 B0 κ0 w0 X.inp.objs.length X.res X.robj y) := by
  refine ⟨fun vs st z h κ a w us hr hv => ?_⟩
  have h' : (retPlain X.inp.objs.length X.res X.robj vs st).eval = some z := h
  unfold retPlain at h'
  split at h'
  · rename_i y b hf
    split at h'
    · rename_i hng
      cases h'
      exact ret_out (D := X.plain G calls pts) hg.glob hr hf hng hv
    · cases h'
  · cases h'
/-- The outcome of a function that may panic. -/
def ExcOut (sh : Sh) (glob : List (Nat × AV)) (M0 B0 : Nat → Prop) (κ : Nat → Value) (w : World) (np : Nat) (res : List Sh) (robj : List (Nat × OSh)) (r : Except (El sh.ty) (El (cns (tyL res) (tyO robj)))) : Ending → World → Prop :=
  match r with
  | .ok y => RetOut glob M0 B0 κ w np res robj y
  | .error e => PanOut B0 w (sh.mk e)
theorem ends_exc {sh : Sh} (hg : GlOK P G) {calls : Calls1} {pts : Pts (Except (El sh.ty) X.Y)} : Ends P (X.exc sh G calls pts) M0 B0 w0 κ0 (ExcOut sh G.glob M0 B0 κ0 w0 X.inp.objs.length X.res X.robj) := by
  refine ⟨fun vs st z h κ a w us hr hv => ?_⟩
  have h' : (retExc X.inp.objs.length X.res X.robj (El sh.ty) vs st).eval = some z := h
  unfold retExc at h'
  split at h'
  · rename_i y b hf
    split at h'
    · rename_i hng
      cases h'
      exact ret_out (D := X.exc sh G calls pts) hg.glob hr hf hng hv
    · cases h'
  · cases h'

theorem told_plain {Out : X.Y → Ending → World → Prop} (hg : GlOK P G) {calls : Calls1} {pts : Pts X.Y} (hc : ∀ f vs s, findCall calls f vs = some s → CallOK P G.glob f s) (hM : ∀ b, M0 b → b < w0.heap.size) : Told P (X.plain G calls pts) M0 B0 w0 κ0 Out :=
  ⟨hg.Θ, hg.eqs, hg.glob, hc, hg.clones, hM, fun v z h => by cases h⟩
theorem told_exc {sh : Sh} (hg : GlOK P G) {calls : Calls1} {pts : Pts (Except (El sh.ty) X.Y)} (hc : ∀ f vs s, findCall calls f vs = some s → CallOK P G.glob f s) (hM : ∀ b, M0 b → b < w0.heap.size) : Told P (X.exc sh G calls pts) M0 B0 w0 κ0 (ExcOut sh G.glob M0 B0 κ0 w0 X.inp.objs.length X.res X.robj) := by
  refine ⟨hg.Θ, hg.eqs, hg.glob, hc, hg.clones, hM, fun v z h w' u hu hk => ?_⟩
  have h' : (panExc (Y := X.Y) sh v).eval = some z := h
  unfold panExc at h'
  split at h'
  · rename_i e b hf
    split at h'
    · rename_i T x hx
      split at h'
      · rename_i hc
        cases h'
        refine ⟨u, rfl, fun w ok κ => ?_, hk⟩
        have hm : Mem [] (fun _ => False) (fun _ => False) w w κ [] := Mem.mk (fun id o ho => by cases ho) (fun i j o p b hi => by cases hi) (fun b hb => by obtain ⟨_, _, h, _⟩ := hb; cases h) (Keeps.refl _ _) (fun g v hg => by cases hg)
        have hr := fit_rep (b := ⟨[], _, []⟩) hm (fun b hb => hb.elim) sh v u e _ hf ⟨fun p hp => (by cases hp), fun i hi => (by cases hi), fun i hi => hi⟩ (hu w _ κ)
        rw [hx] at hr ⊢
        obtain ⟨u', e1, h1⟩ := hr
        exact ⟨u', e1, closed_rep hc h1 w ok κ⟩
      · cases h'
    · cases h'
  · cases h'

/-- A function is entered. -/
theorem inv_of_good (hX : FxOK P X) {R : Ending → World → Prop} {vs : Array Value} (h : Good P X.f R [.code X.body] { tmps := vs ++ Array.replicate (X.fn.ntmps - vs.size) undef, defers := [] } w) : Inv P X.f vs w R := by
  unfold Inv
  rw [callFunc_body hX.fn hX.body hX.name]
  intro cs
  let b : Frame := { (default : Frame) with fn := X.f, kind := .normal }
  have henter : Frame.enter P X.f vs .normal = b.at { tmps := vs ++ Array.replicate (X.fn.ntmps - vs.size) undef, defers := [] } [.code X.body] := by
    simp [Frame.enter, Frame.at, hX.fn, hX.body, b]
  obtain ⟨e, w', fr, h1, h2, h3⟩ := h b cs rfl rfl rfl
  rw [← henter] at h2
  exact ⟨e, w', fr, h1, h2, h3⟩

theorem entry_rd (hX : X.ok = true) {glob : List (Nat × AV)} (hD : D.glob = glob) (hnt : D.nt = X.fn.ntmps) (hnp : D.np = X.inp.objs.length) {x : X.inp.X} {vs : List Value} (he : Entry glob M0 κ X.inp x w vs) (nx : Nat) :
    RD D M0 (live κ (mkO X.inp.objs (snd' x))) w κ (X.inp.mk' x nx) κ { tmps := vs.toArray ++ Array.replicate (X.fn.ntmps - vs.toArray.size) undef, defers := [] } w := by
  unfold Fx.ok at hX
  simp only [Bool.and_eq_true, decide_eq_true_eq] at hX
  obtain ⟨⟨h1, h2⟩, h3⟩ := hX
  subst hD
  have hlen : vs.length = X.inp.slots.length := by
    have := RepL.length _ _ he.vals
    rw [this]
    have : ∀ (l : List Sh) (x : El (tyL l)), (mkL l x).length = l.length := by
      intro l
      induction l with
      | nil => intro x; rfl
      | cons s l ih => intro x; simp [mkL, ih]
    rw [this]; simp
  refine ⟨⟨he.mem, fun i v hi => ?_, rfl, ?_, he.old⟩, fun i hi => ⟨rfl, ?_⟩⟩
  · have key : ∀ (k : Nat) (cs : List AV) (us : List Value), RepL w (okB M0 κ (mkO X.inp.objs (snd' x))) κ cs us → ∀ i v, assoc ((List.range' k cs.length).zip cs) i = some v → ∃ u, us[i - k]? = some u ∧ k ≤ i ∧ RepV w (okB M0 κ (mkO X.inp.objs (snd' x))) κ v u := by
      intro k cs
      induction cs generalizing k with
      | nil => intro us _ i v hi; simp [assoc] at hi
      | cons c cs ih =>
        intro us hr i v hi
        obtain ⟨u, us', rfl, hc, hr'⟩ := hr
        rw [List.length_cons, List.range'_succ, List.zip_cons_cons, assoc_cons] at hi
        split at hi
        · rename_i hk
          subst hk
          cases hi
          exact ⟨u, by simp, Nat.le_refl _, hc⟩
        · obtain ⟨u', g1, g2, g3⟩ := ih (k + 1) us' hr' i v hi
          refine ⟨u', ?_, by omega, g3⟩
          have : i - k = (i - (k + 1)) + 1 := by omega
          rw [this, List.getElem?_cons_succ]
          exact g1
    have hml : (mkL (X.inp.slots.map (·.2)) (fst' x)).length = X.inp.slots.length := by rw [← RepL.length _ _ he.vals, hlen]
    have hi' : assoc ((List.range' 0 (mkL (X.inp.slots.map (·.2)) (fst' x)).length).zip (mkL (X.inp.slots.map (·.2)) (fst' x))) i = some v := by
      rw [hml, ← List.range_eq_range', ← h1]; exact hi
    obtain ⟨u, g1, _, g3⟩ := key 0 _ _ he.vals i v hi'
    simp only [Nat.sub_zero] at g1
    have hlt : i < vs.length := (List.getElem?_eq_some_iff.1 g1).1
    have : (vs.toArray ++ Array.replicate (X.fn.ntmps - vs.toArray.size) undef).getD i undef = u := by
      rw [Array.getD_eq_getD_getElem?, Array.getElem?_append_left (by simpa using hlt)]
      simp [g1]
    simp only [this]
    exact g3
  · rw [hnt]
    simp only [Array.size_append, List.size_toArray, Array.size_replicate, hlen]
    omega
  · rw [hnp] at hi
    have : i ∈ X.inp.objs.map (·.1) := by rw [h2]; exact List.mem_range.2 hi
    obtain ⟨o, ho⟩ := mkO_mem_key (x := snd' x) this
    show (assoc (mkO X.inp.objs (snd' x)) i).isSome = true
    cases hx : assoc (mkO X.inp.objs (snd' x)) i with
    | some _ => rfl
    | none => exact absurd ho (assoc_none hx _)

/-- Each point is walked, one step of fuel on. -/
def AllPts {Z : Type} (D : Nat → DEnv Z) (n N nx : Nat) : Pts Z → Prop
  | [] => True
  | (p, t) :: r => (∀ x z, t.F x = some z → ∃ m, n = m + 1 ∧ (drive (D m) N p (t.pat.mk' x nx)).eval = some z) ∧ AllPts D n N nx r
theorem AllPts.find {D : Nat → DEnv Z} {n N nx : Nat} : ∀ {l : Pts Z}, AllPts D n N nx l → ∀ p t, findPt l p = some t → ∀ x z, t.F x = some z → ∃ m, n = m + 1 ∧ (drive (D m) N p (t.pat.mk' x nx)).eval = some z
  | [], _, p, t, h, _, _, _ => by cases h
  | (q, t') :: r, h, p, t, hf, x, z, hz => by
    simp only [findPt] at hf
    split at hf
    · rename_i he
      have : q = p := by simpa using he
      subst this
      cases hf
      exact h.1 x z hz
    · exact AllPts.find h.2 p t hf x z hz

theorem RR.nx {x : X.inp.X} {pat : Pat} {x : pat.X} (h : RD D M0 B0 w0 κ0 (pat.mk' x 0) κ a w) (nx : Nat) : RD D M0 B0 w0 κ0 (pat.mk' x nx) κ a w := ⟨⟨h.mem, h.slots, h.defers, h.size, h.old⟩, h.par⟩

theorem inv_func {f : Nat} (hf : f < 1000000) {vs : List Value} {I : (Ending → World → Prop) → Prop} (hI : Invoked P w f vs I) : I = Inv P f vs.toArray w := by
  unfold Invoked at hI
  rw [if_pos hf] at hI
  exact hI

theorem FxOK.ytp (hX : FxOK P X) {p sl : List Nat} {g : Operand} {ps : Array Tmp} {x y : Code} {k : List Item} (h1 : yAt X.fn.name = some (p, sl)) (h2 : at_ X.body p = some (.code (.rangeFunc g ps x y) :: k)) : ytab X.f = some ⟨ps, x, y, X.fn.ntmps, sl⟩ := by
  rw [hX.yt (by rw [h1]; rfl)]
  unfold ytabOf
  simp only [h1, hX.body, h2]
theorem text_plain (hg : GlOK P G) (hX : FxOK P X) {calls : Calls1} {pts : Pts X.Y} : Text P (X.plain G calls pts) X.f X.fn :=
  ⟨hX.fn, rfl, hg.mixed, rfl, fun p sl g ps x y k h1 h2 => hX.ytp h1 h2, hg.bodied, hg.dcalls, rfl⟩
theorem text_exc {sh : Sh} (hg : GlOK P G) (hX : FxOK P X) {calls : Calls1} {pts : Pts (Except (El sh.ty) X.Y)} : Text P (X.exc sh G calls pts) X.f X.fn :=
  ⟨hX.fn, rfl, hg.mixed, rfl, fun p sl g ps x y k h1 h2 => hX.ytp h1 h2, hg.bodied, hg.dcalls, rfl⟩

/-- A function that never panics, out of its tree. -/
theorem call_plain (hg : GlOK P G) (hX : FxOK P X) {calls : Nat → Calls1} {pts : Nat → Pts X.Y} {n N nx : Nat} {F : X.inp.X → Option X.Y} (hc : ∀ m, m ≤ n → ∀ f vs s, findCall (calls m) f vs = some s → CallOK P G.glob f s)
    (hp : ∀ m, m ≤ n → AllPts (fun m => X.plain G (calls m) (pts m)) m N nx (pts m)) (hF : ∀ x y, F x = some y → (drive (X.plain G (calls n) (pts n)) N [] (X.inp.mk' x nx)).eval = some y) : CallOK P G.glob X.f ⟨X.inp, X.res, X.robj, .plain F⟩ := by
  intro x M0 κ w vs I he hI
  show ∀ y, F x = some y → _
  intro y hy
  rw [inv_func hX.lt hI]
  refine inv_of_good hX ?_
  let Out : X.Y → Ending → World → Prop := fun y => RetOut G.glob M0 (live κ (mkO X.inp.objs (snd' x))) κ w X.inp.objs.length X.res X.robj y
  have points : ∀ m, m ≤ n → Points P (X.plain G (calls m) (pts m)) M0 (live κ (mkO X.inp.objs (snd' x))) w κ X.f Out y := by
    intro m
    induction m with
    | zero =>
      intro hm p t ht x' hz
      obtain ⟨m', h1, _⟩ := (hp 0 hm).find p t ht x' y hz
      omega
    | succ m ih =>
      intro hm p t ht x' hz κ' a' w' k hat hr
      obtain ⟨m', h1, h2⟩ := (hp (m + 1) hm).find p t ht x' y hz
      have : m' = m := by omega
      subst this
      exact drive_good (told_plain hg (hc m' (by omega)) he.old) (ends_plain hg) (text_plain hg hX) (ih (by omega)) N p _ κ' a' w' k h2 hat (RR.nx (x := x) hr nx)
  exact drive_good (told_plain hg (hc n (Nat.le_refl _)) he.old) (ends_plain hg) (text_plain hg hX) (points n (Nat.le_refl _)) N [] _ κ _ w _ (hF x y hy) rfl (entry_rd hX.ok rfl rfl rfl he nx)

/-- A function that may panic, out of its tree. -/
theorem call_exc {sh : Sh} (hg : GlOK P G) (hX : FxOK P X) {calls : Nat → Calls1} {pts : Nat → Pts (Except (El sh.ty) X.Y)} {n N nx : Nat} {F : X.inp.X → Option (Except (El sh.ty) X.Y)} (hc : ∀ m, m ≤ n → ∀ f vs s, findCall (calls m) f vs = some s → CallOK P G.glob f s)
    (hp : ∀ m, m ≤ n → AllPts (fun m => X.exc sh G (calls m) (pts m)) m N nx (pts m)) (hF : ∀ x y, F x = some y → (drive (X.exc sh G (calls n) (pts n)) N [] (X.inp.mk' x nx)).eval = some y) : CallOK P G.glob X.f ⟨X.inp, X.res, X.robj, .exc sh F⟩ := by
  intro x M0 κ w vs I he hI
  show ∀ r, F x = some r → _
  intro y hy
  rw [inv_func hX.lt hI]
  refine inv_of_good hX ?_
  let Out : Except (El sh.ty) X.Y → Ending → World → Prop := ExcOut sh G.glob M0 (live κ (mkO X.inp.objs (snd' x))) κ w X.inp.objs.length X.res X.robj
  have points : ∀ m, m ≤ n → Points P (X.exc sh G (calls m) (pts m)) M0 (live κ (mkO X.inp.objs (snd' x))) w κ X.f Out y := by
    intro m
    induction m with
    | zero =>
      intro hm p t ht x' hz
      obtain ⟨m', h1, _⟩ := (hp 0 hm).find p t ht x' y hz
      omega
    | succ m ih =>
      intro hm p t ht x' hz κ' a' w' k hat hr
      obtain ⟨m', h1, h2⟩ := (hp (m + 1) hm).find p t ht x' y hz
      have : m' = m := by omega
      subst this
      exact drive_good (told_exc hg (hc m' (by omega)) he.old) (ends_exc hg) (text_exc hg hX) (ih (by omega)) N p _ κ' a' w' k h2 hat (RR.nx (x := x) hr nx)
  have fin := drive_good (told_exc hg (hc n (Nat.le_refl _)) he.old) (ends_exc hg) (text_exc hg hX) (points n (Nat.le_refl _)) N [] _ κ _ w _ (hF x y hy) rfl (entry_rd hX.ok rfl rfl rfl he nx)
  cases y with
  | ok y => exact fin
  | error e => exact fin
end
end Go.AM
