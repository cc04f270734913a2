/-
  The abstract machine, a part.
-/
import Derived.Test.YtcihhhkmekdbnaaGreatDoorMProg
/-
  The abstract machine, part 31: what the functions of a program compute with fuel enough: it is what their trees say of it.
-/
namespace Go.AM
open Go RowKit

open Classical in
/-- What holds from some level on. -/
noncomputable def evt {A : Type} (g : Nat → Option A) : Option A :=
  if h : ∃ y n0, ∀ n, n0 ≤ n → g n = some y then some h.choose else none
theorem evt_some {A : Type} {g : Nat → Option A} {y : A} (h : evt g = some y) : ∃ n0, ∀ n, n0 ≤ n → g n = some y := by
  unfold evt at h
  split at h
  · rename_i hh
    cases h
    exact hh.choose_spec
  · cases h
theorem evt_of {A : Type} {g : Nat → Option A} {y : A} (h : ∃ n0, ∀ n, n0 ≤ n → g n = some y) : evt g = some y := by
  unfold evt
  have hh : ∃ y n0, ∀ n, n0 ≤ n → g n = some y := ⟨y, h⟩
  rw [dif_pos hh]
  obtain ⟨n0, h0⟩ := h
  obtain ⟨n1, h1⟩ := hh.choose_spec
  have e1 := h0 (max n0 n1) (Nat.le_max_left _ _)
  have e2 := h1 (max n0 n1) (Nat.le_max_right _ _)
  rw [e1] at e2
  exact e2.symm

section
variable {Z : Type}
/-- What a tree says, the later trees say. -/
def Lm (t : Tr Z) (t' : Nat → Tr Z) : Prop := ∀ z, t.eval = some z → ∃ n0, ∀ n, n0 ≤ n → (t' n).eval = some z
def FL {A Y : Type} (F : A → Option Y) (F' : Nat → A → Option Y) : Prop := ∀ x y, F x = some y → ∃ n0, ∀ n, n0 ≤ n → F' n x = some y
theorem Lm.const (t : Tr Z) : Lm t (fun _ => t) := fun _ h => ⟨0, fun _ _ => h⟩
theorem Lm.fail (t' : Nat → Tr Z) : Lm .fail t' := fun _ h => by cases h
theorem Lm.vc {b : Bool} {t : Tr Z} {t' : Nat → Tr Z} (h : Lm t t') : Lm (.vc b t) (fun n => .vc b (t' n)) := by
  intro z hz
  cases b with
  | false => exact absurd hz (by simp [Tr.eval])
  | true =>
    obtain ⟨n0, h0⟩ := h z (by simpa [Tr.eval] using hz)
    exact ⟨n0, fun n hn => by simpa [Tr.eval] using h0 n hn⟩
theorem Lm.br {b : Bool} {t f : Tr Z} {t' f' : Nat → Tr Z} (h : Lm t t') (g : Lm f f') : Lm (.br b t f) (fun n => .br b (t' n) (f' n)) := by
  intro z hz
  cases b with
  | false =>
    obtain ⟨n0, h0⟩ := g z (by simpa [Tr.eval] using hz)
    exact ⟨n0, fun n hn => by simpa [Tr.eval] using h0 n hn⟩
  | true =>
    obtain ⟨n0, h0⟩ := h z (by simpa [Tr.eval] using hz)
    exact ⟨n0, fun n hn => by simpa [Tr.eval] using h0 n hn⟩
theorem Lm.ite {c : Prop} [Decidable c] {t f : Tr Z} {t' f' : Nat → Tr Z} (h : c → Lm t t') (g : ¬c → Lm f f') : Lm (if c then t else f) (fun n => if c then t' n else f' n) := by
  by_cases hc : c
  · simp only [if_pos hc]; exact h hc
  · simp only [if_neg hc]; exact g hc
theorem Lm.bind {X : Type} {m : Option X} {m' : Nat → Option X} {k : X → Tr Z} {k' : Nat → X → Tr Z} (hm : ∀ x, m = some x → ∃ n0, ∀ n, n0 ≤ n → m' n = some x) (hk : ∀ x, Lm (k x) (fun n => k' n x)) : Lm (.bind X m k) (fun n => .bind X (m' n) (k' n)) := by
  intro z hz
  cases hm' : m with
  | none => simp [Tr.eval, hm'] at hz
  | some x =>
    obtain ⟨n0, h0⟩ := hm x hm'
    simp only [Tr.eval, hm', Option.bind_some] at hz
    obtain ⟨n1, h1⟩ := hk x z hz
    refine ⟨max n0 n1, fun n hn => ?_⟩
    simp only [Tr.eval, h0 n (Nat.le_trans (Nat.le_max_left _ _) hn), Option.bind_some]
    exact h1 n (Nat.le_trans (Nat.le_max_right _ _) hn)
theorem Lm.bindE {E X : Type} {m : Option (Except E X)} {m' : Nat → Option (Except E X)} {h : E → Tr Z} {k : X → Tr Z} {h' : Nat → E → Tr Z} {k' : Nat → X → Tr Z} (hm : ∀ x, m = some x → ∃ n0, ∀ n, n0 ≤ n → m' n = some x) (hh : ∀ x, Lm (h x) (fun n => h' n x)) (hk : ∀ x, Lm (k x) (fun n => k' n x)) : Lm (.bindE E X m h k) (fun n => .bindE E X (m' n) (h' n) (k' n)) := by
  intro z hz
  cases hm' : m with
  | none => simp [Tr.eval, exc, hm'] at hz
  | some x =>
    obtain ⟨n0, h0⟩ := hm x hm'
    cases x with
    | error e =>
      simp only [Tr.eval, exc, hm', Option.bind_some] at hz
      obtain ⟨n1, h1⟩ := hh e z hz
      refine ⟨max n0 n1, fun n hn => ?_⟩
      simp only [Tr.eval, exc, h0 n (Nat.le_trans (Nat.le_max_left _ _) hn), Option.bind_some]
      exact h1 n (Nat.le_trans (Nat.le_max_right _ _) hn)
    | ok x =>
      simp only [Tr.eval, exc, hm', Option.bind_some] at hz
      obtain ⟨n1, h1⟩ := hk x z hz
      refine ⟨max n0 n1, fun n hn => ?_⟩
      simp only [Tr.eval, exc, h0 n (Nat.le_trans (Nat.le_max_left _ _) hn), Option.bind_some]
      exact h1 n (Nat.le_trans (Nat.le_max_right _ _) hn)
theorem Lm.jump {m : Option Z} {m' : Nat → Option Z} (hm : ∀ x, m = some x → ∃ n0, ∀ n, n0 ≤ n → m' n = some x) : Lm (.jump m) (fun n => .jump (m' n)) := hm

/-- The same contract, but for what it computes. -/
inductive CRel : CSpec → (Nat → CSpec) → Prop
  | plain (inp res robj F F') : FL F F' → CRel ⟨inp, res, robj, .plain F⟩ (fun n => ⟨inp, res, robj, .plain (F' n)⟩)
  | exc (inp res robj sh F F') : FL F F' → CRel ⟨inp, res, robj, .exc sh F⟩ (fun n => ⟨inp, res, robj, .exc sh (F' n)⟩)
def CallsRel (C : Calls1) (c : Nat → Calls1) : Prop := ∀ f vs, (findCall C f vs = none ∧ ∀ n, findCall (c n) f vs = none) ∨ ∃ s s', findCall C f vs = some s ∧ (∀ n, findCall (c n) f vs = some (s' n)) ∧ CRel s s'
inductive PRel : Pt Z → (Nat → Pt Z) → Prop
  | mk (pat F F') : FL F F' → PRel ⟨pat, F⟩ (fun n => ⟨pat, F' n⟩)
def PtsRel (C : Pts Z) (c : Nat → Pts Z) : Prop := ∀ p, (findPt C p = none ∧ ∀ n, findPt (c n) p = none) ∨ ∃ s s', findPt C p = some s ∧ (∀ n, findPt (c n) p = some (s' n)) ∧ PRel s s'

/-- The machine with other calls, other points. -/
abbrev DEnv.put (D : DEnv Z) (c : Calls1) (q : Pts Z) : DEnv Z := { D with calls := c, pts := q }
variable {D : DEnv Z} {c : Nat → Calls1} {q : Nat → Pts Z}
abbrev KL (K : ASt → Tr Z) (K' : Nat → ASt → Tr Z) : Prop := ∀ st, Lm (K st) (fun n => K' n st)

theorem carry_lm (hC : CallsRel D.calls c) {o : Oper} {nid : Nat} {st : ASt} {K : ASt → Tr Z} {K' : Nat → ASt → Tr Z} (hK : KL K K') : Lm (carry D o nid st K) (fun n => carry (D.put (c n) (q n)) o nid st (K' n)) := by
  unfold carry
  dsimp only
  cases hv : (o.op.operands.toList).mapM (opIn st.slots D.glob) with
  | none => exact Lm.fail _
  | some vals =>
    dsimp only
    refine Lm.ite (fun _ => ?_) (fun _ => Lm.fail _)
    cases hop : o.op with
    | panic => exact Lm.const _
    | next a b =>
      cases b with
      | false => (dsimp only; split; exact Lm.vc (hK _); exact Lm.fail _)
      | true =>
        dsimp only
        split
        · split
          · exact Lm.br (hK _) (hK _)
          · exact Lm.fail _
        · exact Lm.fail _
    | call cl =>
      obtain ⟨tg, ags, ts⟩ := cl
      cases tg with
      | value fo =>
        dsimp only
        split
        · rename_i g cap ags
          cases hcl : assoc D.clones g with
          | some et =>
            obtain ⟨e, t⟩ := et
            dsimp only
            split
            · rename_i x
              cases unS t (settle st.objs x) with
              | none => exact Lm.fail _
              | some xs =>
                cases assoc D.Θ e with
                | none => exact Lm.fail _
                | some te =>
                  dsimp only
                  exact Lm.ite (fun _ => Lm.vc (hK _)) (fun _ => Lm.fail _)
            · exact Lm.fail _
          | none =>
            dsimp only
            rcases hC (calleeN g) (calleeV g ags cap) with ⟨h1, h2⟩ | ⟨s, s', h1, h2, hr⟩
            · simp only [h1]; exact Lm.fail _
            · cases hr with
              | plain inp res robj F F' hF =>
                simp only [h1, h2]
                cases fitAll .nil0 (inp.slots.map (·.2)) inp.objs (calleeV g ags cap) st.objs with
                | none => exact Lm.fail _
                | some xb =>
                  obtain ⟨x, b⟩ := xb
                  exact Lm.ite (fun _ => Lm.bind (hF x) (fun y => hK _)) (fun _ => Lm.fail _)
              | exc inp res robj sh F F' hF =>
                simp only [h1, h2]
                cases fitAll .nil0 (inp.slots.map (·.2)) inp.objs (calleeV g ags cap) st.objs with
                | none => exact Lm.fail _
                | some xb =>
                  obtain ⟨x, b⟩ := xb
                  exact Lm.ite (fun _ => Lm.bindE (hF x) (fun e => Lm.const _) (fun y => hK _)) (fun _ => Lm.fail _)
        · exact Lm.fail _
      | _ => (dsimp only; split; exact Lm.vc (hK _); exact Lm.fail _)
    | _ => (dsimp only; split; exact Lm.vc (hK _); exact Lm.fail _)

theorem step_lm (hC : CallsRel D.calls c) {ops : Array Oper} {o : Oper} {nid : Nat} {st : ASt} {K : ASt → Tr Z} {K' : Nat → ASt → Tr Z} (hK : KL K K') : Lm (stepT D ops o nid st K) (fun n => stepT (D.put (c n) (q n)) ops o nid st (K' n)) := by
  unfold stepT
  cases o.guard with
  | none => exact carry_lm hC hK
  | some jw =>
    obtain ⟨j, want⟩ := jw
    dsimp only
    cases (ops[j]?).bind (·.dst) with
    | none => exact Lm.fail _
    | some d =>
      dsimp only
      split
      · have h1 : ∀ v, Lm (carry D o nid { st with slots := (d, .sc (.bool v)) :: st.slots } K) (fun n => carry (D.put (c n) (q n)) o nid { st with slots := (d, .sc (.bool v)) :: st.slots } (K' n)) := fun v => carry_lm hC hK
        have h2 : ∀ v, Lm (if o.dst.all (· < D.nt) then K ({ st with slots := (d, .sc (.bool v)) :: st.slots }.upd o.dst (.tup []) []) else .fail) (fun n => if o.dst.all (· < D.nt) then K' n ({ st with slots := (d, .sc (.bool v)) :: st.slots }.upd o.dst (.tup []) []) else .fail) := fun v => Lm.ite (fun _ => hK _) (fun _ => Lm.fail _)
        cases want with
        | true => exact Lm.br (h1 true) (h2 false)
        | false => exact Lm.br (h2 true) (h1 false)
      · exact Lm.ite (fun _ => hK _) (fun _ => Lm.fail _)
      · exact Lm.fail _
theorem defer_lm {o : Oper} {st : ASt} {K : ASt → Tr Z} {K' : Nat → ASt → Tr Z} (hK : KL K K') : Lm (deferT D o st K) (fun n => deferT (D.put (c n) (q n)) o st (K' n)) := by
  unfold deferT
  split
  · dsimp only
    split
    · exact Lm.ite (fun _ => hK _) (fun _ => Lm.fail _)
    · exact Lm.fail _
  · exact Lm.fail _
theorem run_lm (hC : CallsRel D.calls c) {ops : Array Oper} {K : ASt → Tr Z} {K' : Nat → ASt → Tr Z} (hK : KL K K') : ∀ (l : List Nat) (st : ASt), Lm (runT D ops l st K) (fun n => runT (D.put (c n) (q n)) ops l st (K' n))
  | [], st => hK _
  | i :: r, st => by
    simp only [runT]
    cases ops[i]? with
    | none => exact run_lm hC hK r st
    | some o =>
      dsimp only
      refine Lm.ite (fun _ => defer_lm (fun st' => run_lm hC hK r st')) (fun _ => step_lm hC (fun st' => run_lm hC hK r st'))
theorem tch_eq (hC : CallsRel D.calls c) (n : Nat) (o : Oper) (st : ASt) : tchOf (D.put (c n) (q n)) o st = tchOf D o st := by
  unfold tchOf
  dsimp only
  cases hv : (o.op.operands.toList).mapM (opIn st.slots D.glob) with
  | none => rfl
  | some vals =>
    dsimp only
    split
    · split
      · rename_i g cap ags
        cases assoc D.clones g with
        | some et => rfl
        | none =>
          dsimp only
          rcases hC (calleeN g) (calleeV g ags cap) with ⟨h1, h2⟩ | ⟨s, s', h1, h2, hr⟩
          · simp only [h1, h2]
          · cases hr with
            | plain inp res robj F F' hF => simp only [h1, h2]; cases fitAll .nil0 (inp.slots.map (·.2)) inp.objs (calleeV g ags cap) st.objs <;> rfl
            | exc inp res robj sh F F' hF => simp only [h1, h2]; cases fitAll .nil0 (inp.slots.map (·.2)) inp.objs (calleeV g ags cap) st.objs <;> rfl
      · rfl
    · rfl
theorem guards_lm {A : List Nat} {e : Ent} {t : Tr Z} {t' : Nat → Tr Z} (h : Lm t t') : ∀ l : List Ent, Lm (guards A l e t) (fun n => guards A l e (t' n))
  | [] => h
  | a :: l => by
    have ih := guards_lm (A := A) (e := e) h l
    have hl : ∀ (ap : Bool) (lk : Option Look) (w : Ent) {t : Tr Z} {t' : Nat → Tr Z}, Lm t t' → Lm (guardL ap lk w t) (fun n => guardL ap lk w (t' n)) := by
      intro ap lk w t t' h
      unfold guardL
      cases ap with
      | true => exact h
      | false =>
        cases lk with
        | none => exact Lm.fail _
        | some lk => exact Lm.ite (fun _ => Lm.vc h) (fun _ => Lm.fail _)
    simp only [guards]
    unfold guardP
    cases isAnc A a.i e.i with
    | true => exact ih
    | false => exact hl _ _ _ (hl _ _ _ ih)
theorem runD_lm (hC : CallsRel D.calls c) {ops : Array Oper} {A : List Nat} {n0 : Nat} {K : ASt → Tr Z} {K' : Nat → ASt → Tr Z} (hK : KL K K') : ∀ (l : List Nat) (st : ASt) (log : List Ent), Lm (runD D ops A n0 l st log K) (fun n => runD (D.put (c n) (q n)) ops A n0 l st log (K' n))
  | [], st, log => hK _
  | i :: r, st, log => by
    simp only [runD]
    cases ops[i]? with
    | none => exact Lm.fail _
    | some o =>
      simp only [tch_eq hC]
      have hs := fun pk st K K' (hK : KL K K') => step_lm (D := { D with panK := pk }) (c := c) (q := q) hC (ops := ops) (o := o) (nid := n0 + 16 * i) (st := st) hK
      exact hs _ _ _ _ (fun st' => Lm.ite (fun _ => guards_lm (runD_lm hC hK r st' _) _) (fun _ => Lm.fail _))
theorem draw_lm (hC : CallsRel D.calls c) {id : Nat} {ops : Array Oper} {st : ASt} {K : ASt → Tr Z} {K' : Nat → ASt → Tr Z} (hK : KL K K') : Lm (drawT D id ops st K) (fun n => drawT (D.put (c n) (q n)) id ops st (K' n)) :=
  Lm.ite (fun _ => runD_lm hC hK _ st []) (fun _ => Lm.fail _)
theorem leave_lm {st : ASt} : Lm (leave D st) (fun n => leave (D.put (c n) (q n)) st) := Lm.const _
theorem range_lm (hC : CallsRel D.calls c) {p : List Nat} {g : Operand} {st : ASt} {K : ASt → Tr Z} {K' : Nat → ASt → Tr Z} (hK : KL K K') : Lm (rangeT D p g st K) (fun n => rangeT (D.put (c n) (q n)) p g st (K' n)) := by
  unfold rangeT
  dsimp only
  split
  · rename_i p' sl gf cap _ _
    split
    · rename_i cv _
      refine Lm.ite (fun _ => ?_) (fun _ => Lm.fail _)
      rcases hC (calleeN gf) (calleeV gf [AV.fn (2000000 + D.fid) [.ptr (st.nxt + 1) 0]] cap) with ⟨h1, h2⟩ | ⟨s, s', h1, h2, hr⟩
      · simp only [h1]; exact Lm.fail _
      · cases hr with
        | plain inp res robj F F' hF =>
          simp only [h1, h2]
          split
          · rename_i x b _
            refine Lm.ite (fun _ => Lm.bind (hF x) (fun y => ?_)) (fun _ => Lm.fail _)
            split
            · exact hK _
            · exact Lm.fail _
          · exact Lm.fail _
        | exc inp res robj sh F F' hF =>
          simp only [h1]
          split
          · split
            · exact Lm.fail _
            · exact Lm.fail _
          · exact Lm.fail _
    · exact Lm.fail _
  · exact Lm.fail _
theorem jump_lm {s : Pt Z} {s' : Nat → Pt Z} (h : PRel s s') {st : ASt} : Lm (jumpTo D s st) (fun n => jumpTo (D.put (c n) (q n)) (s' n) st) := by
  cases h with
  | mk pat F F' hF =>
    unfold jumpTo
    dsimp only
    cases getAll st.slots (pat.slots.map (·.1)) with
    | none => exact Lm.fail _
    | some vs =>
      dsimp only
      cases fitAll (idB D.np pat.objs) (pat.slots.map (·.2)) pat.objs vs st.objs with
      | none => exact Lm.fail _
      | some xb => exact Lm.ite (fun _ => Lm.jump (hF xb.1)) (fun _ => Lm.fail _)
theorem drive_lm (hC : CallsRel D.calls c) (hP : PtsRel D.pts q) : ∀ (N : Nat) (p : List Nat) (st : ASt), Lm (drive D N p st) (fun n => drive (D.put (c n) (q n)) N p st)
  | 0, _, _ => Lm.fail _
  | N + 1, p, st => by
    have hgo : ∀ p' st', Lm (match findPt D.pts p' with
        | some t => jumpTo D t st'
        | none => drive D N p' st') (fun n => match findPt (q n) p' with
        | some t => jumpTo (D.put (c n) (q n)) t st'
        | none => drive (D.put (c n) (q n)) N p' st') := by
      intro p' st'
      rcases hP p' with ⟨h1, h2⟩ | ⟨s, s', h1, h2, hr⟩
      · simp only [h1, h2]; exact drive_lm hC hP N p' st'
      · simp only [h1, h2]; exact jump_lm hr
    have hup : ∀ p' st', Lm (match climb D.body p' with
        | some (some p') => match findPt D.pts p' with
          | some t => jumpTo D t st'
          | none => drive D N p' st'
        | some none => leave D st'
        | none => .fail) (fun n => match climb D.body p' with
        | some (some p') => match findPt (q n) p' with
          | some t => jumpTo (D.put (c n) (q n)) t st'
          | none => drive (D.put (c n) (q n)) N p' st'
        | some none => leave (D.put (c n) (q n)) st'
        | none => .fail) := by
      intro p' st'
      split
      · exact hgo _ _
      · exact leave_lm
      · exact Lm.fail _
    simp only [drive]
    split
    · rename_i cd _ _
      cases cd with
      | skip => exact hup _ _
      | seq _ _ => exact hgo _ _
      | block _ _ => exact hgo _ _
      | loop _ => exact hgo _ _
      | cond x a b =>
        dsimp only
        split
        · exact Lm.br (hgo _ _) (hgo _ _)
        · exact Lm.fail _
      | region id ops dr =>
        dsimp only
        exact Lm.ite (fun _ => draw_lm hC (fun st' => hup _ _)) (fun _ => run_lm hC (fun st' => hup _ _) _ _)
      | exit id =>
        dsimp only
        split
        · exact hup _ _
        · exact Lm.fail _
      | ret => exact leave_lm
      | rangeFunc g a b d => exact range_lm hC (fun st' => hup _ _)
      | _ => exact Lm.fail _
    · exact Lm.fail _
end

theorem CRel.same (s : CSpec) : CRel s (fun _ => s) := by
  obtain ⟨inp, res, robj, F⟩ := s
  cases F with
  | plain F => exact .plain inp res robj F (fun _ => F) (fun x y h => ⟨0, fun _ _ => h⟩)
  | exc sh F => exact .exc inp res robj sh F (fun _ => F) (fun x y h => ⟨0, fun _ _ => h⟩)
theorem CallsRel.nil : CallsRel [] (fun _ => []) := fun _ _ => .inl ⟨rfl, fun _ => rfl⟩
theorem CallsRel.cons {C : Calls1} {c : Nat → Calls1} {g : FuncId} {s : CSpec} {s' : Nat → CSpec} (hs : CRel s s') (hC : CallsRel C c) : CallsRel ((g, s) :: C) (fun n => (g, s' n) :: c n) := by
  intro f vs
  cases hs with
  | plain inp res robj F F' hF =>
    simp only [findCall]
    by_cases hc : (g == f && shMay (inp.slots.map (·.2)) vs) = true
    · simp only [hc, if_true]
      exact .inr ⟨_, _, rfl, fun _ => rfl, .plain inp res robj F F' hF⟩
    · rw [if_neg hc]
      simp only [if_neg hc]
      exact hC f vs
  | exc inp res robj sh F F' hF =>
    simp only [findCall]
    by_cases hc : (g == f && shMay (inp.slots.map (·.2)) vs) = true
    · simp only [hc, if_true]
      exact .inr ⟨_, _, rfl, fun _ => rfl, .exc inp res robj sh F F' hF⟩
    · rw [if_neg hc]
      simp only [if_neg hc]
      exact hC f vs
theorem CallsRel.base {C : Calls1} {c : Nat → Calls1} (hC : CallsRel C c) : ∀ b : List (FuncId × CSpec), CallsRel (b ++ C) (fun n => b ++ c n)
  | [] => hC
  | (g, s) :: b => CallsRel.cons (CRel.same s) (CallsRel.base hC b)
theorem CallsRel.map {A : Type} {C : Calls1} {c : Nat → Calls1} (hC : CallsRel C c) {g : A → FuncId} {s : A → CSpec} {s' : Nat → A → CSpec} (h : ∀ a, CRel (s a) (fun n => s' n a)) : ∀ l : List A, CallsRel ((l.map fun a => (g a, s a)) ++ C) (fun n => (l.map fun a => (g a, s' n a)) ++ c n)
  | [] => hC
  | a :: l => CallsRel.cons (h a) (CallsRel.map hC h l)
theorem PtsRel.nil {Z : Type} : PtsRel (Z := Z) [] (fun _ => []) := fun _ => .inl ⟨rfl, fun _ => rfl⟩
theorem ptsRel {Z : Type} {P : (p : Pat) → List Nat → p.X → Option Z} {P' : Nat → (p : Pat) → List Nat → p.X → Option Z} (h : ∀ p pos, FL (P p pos) (fun n => P' n p pos)) : ∀ ps : List (List Nat × Pat), PtsRel (ptsOf Z ps P) (fun n => ptsOf Z ps (P' n))
  | [] => PtsRel.nil
  | (pos, pat) :: ps => by
    intro p
    simp only [ptsOf, List.map_cons, findPt]
    by_cases hc : (pos == p) = true
    · simp only [hc, if_true]
      exact .inr ⟨_, _, rfl, fun _ => rfl, .mk pat _ _ (h pat pos)⟩
    · simp only [hc]
      exact ptsRel h ps p

/-- What is computed with fuel enough. -/
noncomputable def Prg.lim (p : Prg) : Lvl := ⟨fun r x => evt fun n => (p.lvl n).S r x, fun r q pos x => evt fun n => (p.lvl n).P r q pos x, fun y x => evt fun n => (p.lvl n).Y y x⟩

theorem Prg.lim_calls (p : Prg) : CallsRel (p.calls p.lim) (fun n => p.calls (p.lvl n)) := by
  unfold Prg.calls
  have h1 : CallsRel ((p.rows.map fun r => (r.f, r.spec (p.lim.S r))) ++ []) (fun n => (p.rows.map fun r => (r.f, r.spec ((p.lvl n).S r))) ++ []) := by
    refine CallsRel.map (s' := fun n (r : Row) => r.spec ((p.lvl n).S r)) CallsRel.nil (fun r => ?_) p.rows
    obtain ⟨X, exc, ps, nx⟩ := r
    cases exc with
    | none => exact .plain _ _ _ _ (fun n => (p.lvl n).S ⟨X, none, ps, nx⟩) (fun x y h => evt_some h)
    | some sh => exact .exc _ _ _ _ _ (fun n => (p.lvl n).S ⟨X, some sh, ps, nx⟩) (fun x y h => evt_some h)
  simp only [List.append_nil] at h1
  refine CallsRel.base ?_ p.base
  exact CallsRel.map (s' := fun n (y : Yx) => y.spec ((p.lvl n).Y y)) h1 (fun y => .plain _ _ _ _ (fun n => (p.lvl n).Y y) (fun x z h => evt_some h)) p.yields

theorem Row.tree_lim (p : Prg) (r : Row) (pos : List Nat) (st : ASt) {z : r.Z} (h : r.tree p.G (p.calls p.lim) (p.lim.P r) p.N pos st = some z) : ∃ n0, ∀ n, n0 ≤ n → r.tree p.G (p.calls (p.lvl n)) ((p.lvl n).P r) p.N pos st = some z := by
  obtain ⟨X, exc, ps, nx⟩ := r
  cases exc with
  | none => exact drive_lm (D := X.plain p.G (p.calls p.lim) (ptsOf _ ps (p.lim.P ⟨X, none, ps, nx⟩))) (c := fun n => p.calls (p.lvl n)) (q := fun n => ptsOf _ ps ((p.lvl n).P ⟨X, none, ps, nx⟩)) p.lim_calls (ptsRel (fun q pos x y h => evt_some h) ps) p.N pos st z h
  | some sh => exact drive_lm (D := X.exc sh p.G (p.calls p.lim) (ptsOf _ ps (p.lim.P ⟨X, some sh, ps, nx⟩))) (c := fun n => p.calls (p.lvl n)) (q := fun n => ptsOf _ ps ((p.lvl n).P ⟨X, some sh, ps, nx⟩)) p.lim_calls (ptsRel (fun q pos x y h => evt_some h) ps) p.N pos st z h
theorem evt_shift {A : Type} {g g' : Nat → Option A} {y : A} (h : ∃ n0, ∀ n, n0 ≤ n → g' n = some y) (he : ∀ n, g (n + 1) = g' n) : evt g = some y := by
  obtain ⟨n0, h0⟩ := h
  refine evt_of ⟨n0 + 1, fun n hn => ?_⟩
  cases n with
  | zero => omega
  | succ n => rw [he]; exact h0 n (by omega)
/-- A function's tree says what it computes. -/
theorem Prg.lim_S (p : Prg) (r : Row) (x : r.X.inp.X) {z : r.Z} (h : r.tree p.G (p.calls p.lim) (p.lim.P r) p.N [] (r.X.inp.mk' x r.nx) = some z) : p.lim.S r x = some z :=
  evt_shift (Row.tree_lim p r _ _ h) fun n => rfl
theorem Prg.lim_P (p : Prg) (r : Row) (pat : Pat) (pos : List Nat) (x : pat.X) {z : r.Z} (h : r.tree p.G (p.calls p.lim) (p.lim.P r) p.N pos (pat.mk' x r.nx) = some z) : p.lim.P r pat pos x = some z :=
  evt_shift (Row.tree_lim p r _ _ h) fun n => rfl
theorem Yx.tree_lim (p : Prg) (y : Yx) (nx : Nat) (x : y.inp.X) : Lm (y.tree p.G (p.calls p.lim) nx x) (fun n => y.tree p.G (p.calls (p.lvl n)) nx x) := by
  unfold Yx.tree
  split
  · split
    · refine Lm.ite (fun _ => ?_) (fun _ => Lm.fail _)
      have hC : CallsRel (y.env p.G (p.calls p.lim)).calls (fun n => p.calls (p.lvl n)) := p.lim_calls
      refine run_lm (D := y.env p.G (p.calls p.lim)) (q := fun _ => []) hC (fun st => ?_) _ _
      unfold Yx.mid
      split
      · refine Lm.ite (fun _ => ?_) (fun _ => ?_)
        · exact draw_lm (D := y.env p.G (p.calls p.lim)) (q := fun _ => []) hC (fun st => Lm.const _)
        · exact run_lm (D := y.env p.G (p.calls p.lim)) (q := fun _ => []) hC (fun st => Lm.const _) _ _
      · exact Lm.fail _
    · exact Lm.fail _
  · exact Lm.fail _
theorem Prg.lim_Y (p : Prg) (y : Yx) (x : y.inp.X) {z : y.Y} (h : (y.tree p.G (p.calls p.lim) 64 x).eval = some z) : p.lim.Y y x = some z :=
  evt_shift (Yx.tree_lim p y 64 x z h) fun n => rfl
/-- What is computed with fuel enough is computed. -/
theorem Prg.lim_ok {P : Program} (p : Prg) (hg : GlOK P p.G) (hb : ∀ f s, (f, s) ∈ p.base → CallOK P p.G.glob f s) (hy : ∀ y ∈ p.yields, YxOK P y) (hr : ∀ r ∈ p.rows, FxOK P r.X) {r : Row} {x : r.X.inp.X} {z : r.Z} (h : p.lim.S r x = some z) : ∃ n, (p.lvl n).S r x = some z :=
  let ⟨n0, h0⟩ := evt_some h
  ⟨n0, h0 n0 (Nat.le_refl _)⟩
/-- An expression, put together again: the kernel does not see it. -/
def eE (x : DExpr) : DExpr := ⟨x.kind, x.fn, x.window, x.offset, x.k, x.num, x.name, x.ms, x.by_, x.kids⟩
theorem eE_eq (x : DExpr) : eE x = x := by cases x; rfl
end Go.AM
