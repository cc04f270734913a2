/-
  The abstract machine, a part.
-/
import Derived.Test.YtcihhhkmekdbnaaGreatDoorMDraw
/-
  The abstract machine, part 24: one operation's outcome, walked; under its guard.
-/
namespace Go.AM
open Go RowKit
section
variable {P : Program} {Z : Type} {D : DEnv Z} {M0 B0 : Nat → Prop} {w0 w w' : World} {κ0 κ κ' : Nat → Value} {Out : Z → Ending → World → Prop} {st st2 : ASt} {a : Act} {ro : Option Nat} {n : Nat}

theorem upon_mono {o : Oper} {K K' : Act → World → Prop} {Q Q' : Exit → Act → World → Prop} (h : ∀ a w, K a w → K' a w) (hq : ∀ e a w, Q e a w → Q' e a w) (hh : o.wpIn (FW ro) n P a w K Q) : o.wpIn (FW ro) n P a w K' Q' := by
  unfold Oper.wpIn at *
  refine ⟨hh.1, ?_⟩
  have hh := hh.2
  generalize (o.semAt (FW ro).round a.eval).run P w = r at *
  have end_ : ∀ (e : Ending) (w'' : World), (match e, w'' with
      | .returned v, w'' => K (a.put o.dst v) w''
      | .panicked chain, w'' => Q (.panic chain) a w''
      | .outgrown, _ => LetsOut Q) → (match e, w'' with
      | .returned v, w'' => K' (a.put o.dst v) w''
      | .panicked chain, w'' => Q' (.panic chain) a w''
      | .outgrown, _ => LetsOut Q') := by
    intro e w'' he
    cases e with
    | returned v => exact h _ _ he
    | panicked c => exact hq _ _ _ he
    | outgrown => obtain ⟨a', w3, h3⟩ := he; exact ⟨a', w3, hq _ _ _ h3⟩
  cases r with
  | ok x w' =>
    cases x <;> simp only [Oper.uponIn] at hh ⊢ <;>
      first
        | exact h _ _ hh
        | exact ⟨hh.1, CallsIn.mono hh.2 end_⟩
        | exact ⟨hh.1, RowsIn.mono hh.2 (fun _ _ he => h _ _ he)⟩
        | exact ⟨hh.1, RoundIn.mono hh.2 end_⟩
  | halt x w' => cases x <;> simp only [Oper.uponIn] at hh ⊢ <;> exact hq _ _ _ hh
theorem wpOp_mono2 {ops : Array Oper} {i : Nat} {K K' : Act → World → Prop} {Q Q' : Exit → Act → World → Prop} (h : ∀ a w, K a w → K' a w) (hq : ∀ e a w, Q e a w → Q' e a w) (hh : wpOpIn (FW ro) n P ops Q i K a w) : wpOpIn (FW ro) n P ops Q' i K' a w := by
  unfold wpOpIn at *
  cases ho : ops[i]? with
  | none => rw [ho] at hh; exact h _ _ hh
  | some o =>
    rw [ho] at hh
    simp only at hh ⊢
    split
    · rename_i hw
      rw [if_pos hw] at hh
      exact upon_mono h hq hh
    · rename_i hw
      rw [if_neg hw] at hh
      exact ⟨hh.1, h _ _ hh.2⟩

/-- The walk that stops behind one operation. -/
def one (D : DEnv Z) : DEnv (Except AV ASt) :=
  { Θ := D.Θ, eqs := D.eqs, glob := D.glob, calls := D.calls, nt := D.nt, body := D.body, results := D.results, np := D.np, retK := fun _ _ => .fail, panK := fun v => .done (.error v), pts := [], clones := D.clones }
def OneOut (D : DEnv Z) (Out : Z → Ending → World → Prop) : Except AV ASt → Ending → World → Prop
  | .error v, e, w => ∀ z, (D.panK v).eval = some z → Out z e w
  | .ok _, _, _ => False
theorem Told.one (T : Told P D M0 B0 w0 κ0 Out) : Told P (one D) M0 B0 w0 κ0 (OneOut D Out) :=
  ⟨T.hΘ, T.hE, T.hgl, T.calls, T.clones, T.old, fun v z hz w' u hu hk => by
    cases hz
    exact fun z0 hz0 => T.pan v z0 hz0 w' u hu hk⟩
def codeR (st : ASt) (dst : Option Tmp) : Res → Except AV ASt
  | .error v => .error v
  | .ok (v, ws) => .ok (st.upd dst v ws)
/-- What an outcome leaves. -/
def Left (D : DEnv Z) (M0 B0 : Nat → Prop) (w0 : World) (κ0 : Nat → Value) (st : ASt) (dst : Option Tmp) (r : Res) (a : Act) (w : World) : Prop := ∃ v ws κ, r = .ok (v, ws) ∧ RD D M0 B0 w0 κ0 (st.upd dst v ws) κ a w
theorem left_of_nx {r : Res} {dst : Option Tmp} (a : Act) (w : World) (h : Nx (one D) M0 B0 w0 κ0 (fun st' => .done (.ok st')) (codeR st dst r) a w) : Left D M0 B0 w0 κ0 st dst r a w := by
  obtain ⟨κ, st', h1, h2⟩ := h
  simp only [Tr.eval, Option.some.injEq] at h2
  cases r with
  | error v => cases h2
  | ok p =>
    obtain ⟨v, ws⟩ := p
    simp only [codeR, Except.ok.injEq] at h2
    subst h2
    exact ⟨v, ws, κ, rfl, h1⟩

theorem carryE_wp (T : Told P D M0 B0 w0 κ0 Out) {o : Oper} {nid : Nat} {r : Res} {N : Act → World → Prop} (hr : RD D M0 B0 w0 κ0 st κ a w) (hf : Fresh (newIds nid) D.glob st) (h : carryE D o nid st = some r) :
    o.wpIn (FW ro) n P a w (Left D M0 B0 w0 κ0 st o.dst r) (PQ (OneOut D Out) (codeR st o.dst r) N) := by
  unfold carryE at h
  split at h
  · cases h
  · rename_i vals hv
    split at h
    · rename_i hd
      split at h
      · rename_i x ho
        split at h
        · rename_i t v
          rw [Option.ite_none_right_eq_some] at h
          obtain ⟨hcl, h⟩ := h
          cases h
          simp only [Bool.and_eq_true] at hcl
          have hx : opIn st.slots D.glob x = some (.ifc t v) := by
            rw [ho] at hv
            simp only [Op.operands, List.mapM_cons, List.mapM_nil] at hv
            obtain ⟨y, h1, h2⟩ := bind_some hv
            cases h2
            exact h1
          exact panic_wp T.one hr ho hx hcl.1 hcl.2 rfl
        · cases h
      · rename_i x ho
        split at h
        · rename_i id
          split at h
          · rename_i s pos hobj
            refine upon_mono left_of_nx (fun _ _ _ h => h) (next_wp (D := one D) (K := fun st' => .done (.ok st')) (Q := PQ (OneOut D Out) (codeR st o.dst r) N) hr hf hd ho hv hobj ?_)
            simp only [Tr.eval]
            split at h
            · rename_i hp; cases h; rw [if_pos (by simpa using hp)]; rfl
            · rename_i hp; cases h; rw [if_neg (by simpa using hp)]; rfl
          · cases h
        · cases h
      · rename_i fo ags ts ho
        split at h
        · rename_i g cap vas
          split at h
          · rename_i e t hcl
            split at h
            · rename_i x
              split at h
              · rename_i xs te hxs hte
                rw [Option.ite_none_right_eq_some] at h
                obtain ⟨⟨hg, hb⟩, h⟩ := h
                cases h
                exact upon_mono left_of_nx (fun _ _ _ h => h) (clone_wp T.one (K := fun st' => .done (.ok st')) hr hf hd ho hv hcl hg hxs hte hb rfl)
              · cases h
            · cases h
          split at h
          · rename_i s hs
            split at h
            · rename_i x b hfit
              split at h
              · rename_i hok
                refine upon_mono left_of_nx (fun _ _ _ h => h) (call_wp T.one (K := fun st' => .done (.ok st')) hr hf hd ho hv hs hfit hok.1 hok.2 ?_)
                revert h
                cases hF : s.F with
                | plain F =>
                  intro h
                  simp only [Tr.eval] at h ⊢
                  cases hy : F x with
                  | none => rw [hy] at h; cases h
                  | some y => rw [hy] at h; cases h; rfl
                | exc sh F =>
                  intro h
                  simp only [Tr.eval, exc] at h ⊢
                  cases hy : F x with
                  | none => rw [hy] at h; cases h
                  | some r' =>
                    rw [hy] at h
                    cases r' with
                    | ok y => cases h; rfl
                    | error e =>
                      simp only [Option.bind_some] at h
                      split at h
                      · rename_i hdf; cases h; simp only [hdf, if_true]; rfl
                      · cases h
              · cases h
            · cases h
          · cases h
        · cases h
      · split at h
        · rename_i c hcore
          rw [Option.ite_none_right_eq_some] at h
          obtain ⟨hvc, h⟩ := h
          cases h
          refine upon_mono left_of_nx (fun _ _ _ h => h) (core_wp T.one (K := fun st' => .done (.ok st')) hr hf hd hv hcore ?_)
          simp only [Tr.eval, hvc, if_true]
          rfl
        · cases h
    · cases h

def stepE (D : DEnv Z) (ops : Array Oper) (o : Oper) (nid : Nat) (st : ASt) : Option Res :=
  match o.guard with
  | none => carryE D o nid st
  | some (j, want) => match (ops[j]?).bind (·.dst) with
    | some d => match assoc st.slots d with
      | some (.sc (.bool b)) => if b = want then carryE D o nid st else if o.dst.all (· < D.nt) = true then some (.ok (.tup [], [])) else none
      | some (.tup []) => if o.dst.all (· < D.nt) = true then some (.ok (.tup [], [])) else none
      | _ => none
    | none => none

/-- The same state. -/
structure Eqv (st st2 : ASt) : Prop where
  slots : ∀ t, assoc st2.slots t = assoc st.slots t
  dfs : st2.dfs = st.dfs
  objs : ∀ i, assoc st2.objs i = assoc st.objs i
theorem Eqv.refl (st : ASt) : Eqv st st := ⟨fun _ => rfl, rfl, fun _ => rfl⟩
theorem Eqv.symm (h : Eqv st st2) : Eqv st2 st := ⟨fun t => (h.slots t).symm, h.dfs.symm, fun i => (h.objs i).symm⟩
theorem Eqv.trans {st3 : ASt} (h : Eqv st st2) (k : Eqv st2 st3) : Eqv st st3 := ⟨fun t => (k.slots t).trans (h.slots t), k.dfs.trans h.dfs, fun i => (k.objs i).trans (h.objs i)⟩
theorem Eqv.agree (h : Eqv st st2) (ops : Array Oper) (o : Oper) : Agree D ops o st st2 := ⟨fun t _ => h.slots t, h.dfs, fun i _ => h.objs i⟩
theorem assoc_put (slots : List (Nat × AV)) (dst : Option Tmp) (v : AV) (t : Nat) : assoc (putSlot slots dst v) t = if dst = some t then some v else assoc slots t := by
  cases dst with
  | none => simp [putSlot]
  | some d => simp [putSlot, assoc_cons]
theorem assoc_putO (objs ws : List (Nat × AObj)) (i : Nat) : assoc (putObjs objs ws) i = match assoc ws.reverse i with | some v => some v | none => assoc objs i := by
  unfold putObjs
  rw [assoc_app]
  cases assoc ws.reverse i <;> rfl
theorem Eqv.upd (h : Eqv st st2) (dst : Option Tmp) (v : AV) (ws : List (Nat × AObj)) : Eqv (st.upd dst v ws) (st2.upd dst v ws) := by
  refine ⟨fun t => ?_, h.dfs, fun i => ?_⟩
  · simp only [ASt.upd, assoc_put, h.slots]
  · simp only [ASt.upd, assoc_putO, h.objs]
theorem Eqv.lit {d : Tmp} {b : Bool} (h : assoc st.slots d = some (.sc (.bool b))) : Eqv st { st with slots := (d, .sc (.bool b)) :: st.slots } := by
  refine ⟨fun t => ?_, rfl, fun i => rfl⟩
  rw [assoc_cons]
  split
  · rename_i he; subst he; exact h.symm
  · rfl
theorem Fresh.eqv {N : Nat → Bool} {glob : List (Nat × AV)} (h : Eqv st st2) (hf : Fresh N glob st) : Fresh N glob st2 :=
  ⟨⟨fun i o ho => hf.1.ids i o (by rw [← h.objs]; exact ho), fun i o ho => hf.1.objs i o (by rw [← h.objs]; exact ho), hf.1.glob⟩, fun i v hi => hf.2.1 i v (by rw [← h.slots]; exact hi), by rw [h.dfs]; exact hf.2.2⟩

/-- What follows an outcome, up to the same state. -/
def AfterQ (D : DEnv Z) (st : ASt) (dst : Option Tmp) (K : ASt → Tr Z) (z : Z) : Res → Prop
  | .error v => (D.panK v).eval = some z
  | .ok (v, ws) => ∃ st', Eqv (st.upd dst v ws) st' ∧ st'.nxt = st.nxt ∧ st'.objs = putObjs st.objs ws ∧ (∀ d, dst = some d → assoc st'.slots d = some v) ∧ (dst = none → v = v) ∧ (K st').eval = some z

theorem after_q {dst : Option Tmp} {K : ASt → Tr Z} {z : Z} {r : Res} {s1 : ASt} (he : Eqv st s1) (hn : s1.nxt = st.nxt) (ho : s1.objs = st.objs) (h : After D s1 dst K z r) : AfterQ D st dst K z r := by
  cases r with
  | error v => exact h
  | ok p =>
    obtain ⟨v, ws⟩ := p
    refine ⟨_, he.upd dst v ws, hn, by simp only [ASt.upd, ho], fun d hd => ?_, fun _ => rfl, h⟩
    simp [ASt.upd, assoc_put, hd]

theorem looks_guard {ops : Array Oper} {o : Oper} {j : Nat} {want : Bool} {d : Tmp} (hg : o.guard = some (j, want)) (hd : (ops[j]?).bind (·.dst) = some d) : d ∈ o.looksAt ops := by
  unfold Oper.looksAt
  rw [hg]
  simp only [hd]
  exact List.mem_append_right _ (by simp)

theorem stepT_eval {ops : Array Oper} {o : Oper} {nid : Nat} {K : ASt → Tr Z} {z : Z} (h : (stepT D ops o nid st K).eval = some z) :
    ∃ r, stepE D ops o nid st = some r ∧ AfterQ D st o.dst K z r := by
  unfold stepT at h
  unfold stepE
  split at h
  · rename_i hg
    simp only [hg]
    obtain ⟨_, r, h1, h2⟩ := carry_eval h
    exact ⟨r, h1, after_q (.refl _) rfl rfl h2⟩
  · rename_i j want hg
    simp only [hg]
    split at h
    · rename_i d hd
      simp only [hd]
      split at h
      · rename_i b hb
        simp only [hb]
        have run : ∀ v, b = v → (carry D o nid { st with slots := (d, .sc (.bool v)) :: st.slots } K).eval = some z → ∃ r, carryE D o nid st = some r ∧ AfterQ D st o.dst K z r := by
          intro v hv hc
          subst hv
          obtain ⟨_, r, h1, h2⟩ := carry_eval hc
          exact ⟨r, carryE_congr ((Eqv.lit hb).symm.agree ops o) h1, after_q (.lit hb) rfl rfl h2⟩
        have skip : ∀ v, b = v → (if o.dst.all (· < D.nt) then K ({ st with slots := (d, .sc (.bool v)) :: st.slots }.upd o.dst (.tup []) []) else .fail : Tr Z).eval = some z →
            ∃ r, (if o.dst.all (· < D.nt) = true then some (.ok (.tup [], [])) else none : Option Res) = some r ∧ AfterQ D st o.dst K z r := by
          intro v hv hc
          subst hv
          split at hc
          · rename_i hda
            refine ⟨_, if_pos hda, after_q (r := .ok (.tup [], [])) (.lit hb) rfl rfl hc⟩
          · cases hc
        simp only [Tr.eval] at h
        cases b <;> cases want <;> simp only [cond, if_true, if_false, Bool.false_eq_true, Bool.true_eq_false] at h ⊢
        · exact run _ rfl h
        · exact skip _ rfl h
        · exact skip _ rfl h
        · exact run _ rfl h
      · rename_i hb
        simp only [hb]
        split at h
        · rename_i hda
          exact ⟨_, if_pos hda, after_q (r := .ok (.tup [], [])) (.refl _) rfl rfl h⟩
        · cases h
      · cases h
    · cases h

theorem stepE_congr {ops : Array Oper} {o : Oper} {nid : Nat} {r : Res} (ha : Agree D ops o st st2) (h : stepE D ops o nid st = some r) : stepE D ops o nid st2 = some r := by
  unfold stepE at h ⊢
  split at h
  · rename_i hg; exact carryE_congr ha h
  · rename_i j want hg
    split at h
    · rename_i d hd
      simp only [ha.slots d (looks_guard hg hd)]
      split at h
      · rename_i b hb
        split
        · rename_i hbw; rw [if_pos hbw] at h; exact carryE_congr ha h
        · rename_i hbw; rw [if_neg hbw] at h; exact h
      · exact h
      · cases h
    · cases h

theorem stepE_congrW {ops : Array Oper} {o : Oper} {nid : Nat} {r : Res} (ha : AgreeW D ops o st st2) (h : stepE D ops o nid st = some r) : stepE D ops o nid st2 = some r := by
  unfold stepE at h ⊢
  split at h
  · rename_i hg; exact carryE_congrW ha h
  · rename_i j want hg
    split at h
    · rename_i d hd
      simp only [ha.slots d (looks_guard hg hd)]
      split at h
      · rename_i b hb
        split
        · rename_i hbw; rw [if_pos hbw] at h; exact carryE_congrW ha h
        · rename_i hbw; rw [if_neg hbw] at h; exact h
      · exact h
      · cases h
    · cases h

theorem stepE_wp (T : Told P D M0 B0 w0 κ0 Out) {ops : Array Oper} {i : Nat} {o : Oper} (ho : ops[i]? = some o) {nid : Nat} {r : Res} {N : Act → World → Prop} (hr : RD D M0 B0 w0 κ0 st κ a w) (hf : Fresh (newIds nid) D.glob st) (h : stepE D ops o nid st = some r) :
    wpOpIn (FW ro) n P ops (PQ (OneOut D Out) (codeR st o.dst r) N) i (Left D M0 B0 w0 κ0 st o.dst r) a w := by
  unfold wpOpIn
  rw [ho]
  simp only
  unfold stepE at h
  split at h
  · rename_i hg
    have hw : Region.wanted o (yielded ops a.tmps) = true := by simp [Region.wanted, hg]
    rw [if_pos hw]
    exact carryE_wp T hr hf h
  · rename_i j want hg
    split at h
    · rename_i d hd
      split at h
      · rename_i b hb
        have hval := hr.slots d _ hb
        have hat : a.tmps[d]? = some (.bool b) := by
          have h1 := hval.1
          rw [Array.getD_eq_getD_getElem?] at h1
          cases hx : a.tmps[d]? with
          | none => rw [hx] at h1; simp [undef] at h1
          | some v => rw [hx] at h1; simp at h1; rw [h1]
        have hw : Region.wanted o (yielded ops a.tmps) = (some b == some want) := by
          simp only [Region.wanted, hg, yielded, hd, Option.bind_some, hat]
        rw [hw]
        split at h
        · rename_i hbw
          subst hbw
          rw [if_pos (by simp)]
          exact carryE_wp T hr hf h
        · rename_i hbw
          rw [if_neg (by simpa using hbw)]
          split at h
          · rename_i hda
            cases h
            exact ⟨fun _ _ => trivial, _, _, κ, rfl, hr.skip hda⟩
          · cases h
      · rename_i hb
        rw [hr.unwanted hg hd hb, if_neg (by simp)]
        split at h
        · rename_i hda
          cases h
          exact ⟨fun _ _ => trivial, _, _, κ, rfl, hr.skip hda⟩
        · cases h
      · cases h
    · cases h
end
end Go.AM
