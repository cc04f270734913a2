/-
  The abstract machine, a part.
-/
import Derived.Test.YtcihhhkmekdbnaaGreatDoorMDrive
/-
  The abstract machine, part 21: a function's end.
-/
namespace Go.AM
open Go RowKit
section
variable {P : Program} {Z : Type} {D : DEnv Z} {M0 B0 : Nat → Prop} {w0 w w' : World} {κ0 κ κ' : Nat → Value} {Out : Z → Ending → World → Prop} {st : ASt} {a : Act}

/-- Results as the model gives them. -/
def resU : List Value → Value
  | [v] => v
  | l => .tuple l.toArray

def resOne (tmps : Array Value) : ResultVar → Sem Value
  | .tmp t => pure (tmps.getD t undef)
  | .cell a t => do loadVar t (← asAddr (tmps.getD a undef))

theorem resList (T : Told P D M0 B0 w0 κ0 Out) (hr : RD D M0 B0 w0 κ0 st κ a w) : ∀ (rs : List ResultVar) (vs : List AV), resVals D.Θ st rs = some vs → ∃ us, RepL w (okB M0 κ st.objs) κ vs us ∧ (rs.mapM (resOne a.tmps)).run P w = .ok us w
  | [], vs, h => by
    simp only [resVals, Option.some.injEq] at h
    subst h
    exact ⟨[], rfl, by simp⟩
  | .tmp t :: rs, vs, h => by
    simp only [resVals] at h
    split at h
    · rename_i v vs' h1 h2
      cases h
      obtain ⟨us, h3, h4⟩ := resList T hr rs vs' h2
      exact ⟨_ :: us, ⟨_, _, rfl, hr.slots t v h1, h3⟩, by simp [List.mapM_cons, Sem.run_bind, resOne, h4]⟩
    · cases h
  | .cell t ty :: rs, vs, h => by
    simp only [resVals] at h
    split at h
    · rename_i id off h1
      split at h
      · rename_i c vs' h2 h3
        rw [Option.ite_none_right_eq_some] at h
        obtain ⟨hvc, h⟩ := h
        cases h
        obtain ⟨us, h4, h5⟩ := resList T hr rs vs' h3
        have hs : Sub (gather st.objs [id]) st.objs := gather_sub _ _
        have hp := hr.slots t _ h1
        have hl := load_pure (P := P) T.hΘ (fun i o ho => hr.mem.each i o (hs _ _ (assoc_mem ho))) h2 hp
        obtain ⟨vc, dst, rfl, hx⟩ := hl
        obtain ⟨x, h6, h7⟩ := hx hvc
        obtain ⟨b, _, hb⟩ := hp
        refine ⟨x :: us, ⟨_, _, rfl, h7, h4⟩, ?_⟩
        rw [hb] at h6
        have h8 : (loadVar ty ⟨b, off, none⟩).run P w = .ok x w := by simpa [Instr.loadAt, Instr.sureAddr, Sem.run_bind, asAddr] using h6
        simp [List.mapM_cons, Sem.run_bind, resOne, hb, asAddr, h8, h5]
      · cases h
    · cases h

theorem results_run (T : Told P D M0 B0 w0 κ0 Out) (hr : RD D M0 B0 w0 κ0 st κ a w) {fn : Func} (hfn : fn.results.toList = D.results) {vs : List AV} (h : resVals D.Θ st D.results = some vs) :
    ∃ us, RepL w (okB M0 κ st.objs) κ vs us ∧ (results fn a.tmps).run P w = .ok (resU us) w := by
  obtain ⟨us, h1, h2⟩ := resList T hr _ vs h
  refine ⟨us, h1, ?_⟩
  have hm : (fn.results.mapM (resOne a.tmps)).run P w = .ok us.toArray w := by
    rw [Array.mapM_eq_mapM_toList, hfn]
    simp [h2]
  have he : results fn a.tmps = (do let vs ← fn.results.mapM (resOne a.tmps); pure (if h : vs.size = 1 then vs[0] else .tuple vs)) := by
    unfold results
    congr 1
  rw [he, Sem.run_bind, hm]
  match us with
  | [] => rfl
  | [v] => rfl
  | v :: v' :: r => rfl
end
end Go.AM
