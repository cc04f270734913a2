/-
  The abstract machine, a part.
-/
import Derived.Test.YtcihhhkmekdbnaaGreatDoorMWalk
/-
  The abstract machine, part 20: regions in turn; a function's walk.
-/
namespace Go.AM
open Go RowKit
section
variable {P : Program} {Z : Type} {D : DEnv Z} {M0 B0 : Nat → Prop} {w0 w w' : World} {κ0 κ κ' : Nat → Value} {Out : Z → Ending → World → Prop} {st : ASt} {a : Act} {ro : Option Nat} {n : Nat}

def runEnd (ops : Array Oper) (K : ASt → Tr Z) (st : ASt) : Tr Z := K { st with nxt := st.nxt + 16 * ops.size }

theorem defer_wp (hro : D.rnd = false → ro = none) {ops : Array Oper} {i : Nat} {o : Oper} (ho : ops[i]? = some o) {K : ASt → Tr Z} {z : Z} {Q : Exit → Act → World → Prop} (hr : RD D M0 B0 w0 κ0 st κ a w) (h : (deferT D o st K).eval = some z) :
    wpOpIn (FW ro) n P ops Q i (Nx D M0 B0 w0 κ0 K z) a w := by
  unfold deferT at h
  split at h
  · rename_i fo ags ts hop
    split at h
    · rename_i g cap hg
      split at h
      · rename_i hc
        obtain ⟨h1, h2, h3, h4, h5⟩ := hc
        have := hro h5
        subst this
        obtain ⟨us, hu, hcap⟩ := opIn_rep hr hg
        unfold FnR at hu
        rw [if_pos h2] at hu
        unfold wpOpIn
        rw [ho]
        simp only
        have hw : Region.wanted o (yielded ops a.tmps) = true := by simp [Region.wanted, h4]
        rw [if_pos hw]
        refine ⟨fun _ _ => trivial, ?_⟩
        have hz : ags = #[] := Array.size_eq_zero_iff.1 h1
        subst hz
        have hrun : (o.semAt (FW none).round a.eval).run P w = .ok (.defer { target := .fn (.func g) us.toArray, args := #[] }) w := by
          show (execOp a.eval o).run P w = _
          unfold execOp
          rw [hop]
          simp [resolve, hu, Deferred.ofValue, Sem.run_bind]
        rw [hrun, Oper.uponIn_defer, h3]
        have hd : DfR w (okB M0 κ st.objs) κ (.fn g cap :: st.dfs) ({ target := .fn (.func g) us.toArray, args := #[] } :: a.defers) := ⟨us, a.defers, rfl, hcap, hr.defers⟩
        exact ⟨κ, { st with dfs := .fn g cap :: st.dfs }, ⟨⟨hr.mem, hr.slots, hd, hr.size, hr.old⟩, hr.par⟩, h⟩
      · cases h
    · cases h
  · cases h

theorem run_wp (T : Told P D M0 B0 w0 κ0 Out) (hro : D.rnd = false → ro = none) {ops : Array Oper} {K : ASt → Tr Z} {z : Z} : ∀ (l : List Nat) (st : ASt) (κ : Nat → Value) (a : Act) (w : World), (runT D ops l st K).eval = some z → RD D M0 B0 w0 κ0 st κ a w →
    wpOpsIn (FW ro) n P ops (PQ Out z (Nx D M0 B0 w0 κ0 (runEnd ops K) z)) l a w
  | [], st, κ, a, w, h, hr => ⟨κ, st, hr, h⟩
  | i :: l, st, κ, a, w, h, hr => by
    rw [wpOpsIn_cons]
    simp only [runT] at h
    cases ho : ops[i]? with
    | none =>
      rw [ho] at h
      unfold wpOpIn
      rw [ho]
      exact run_wp T hro l st κ a w h hr
    | some o =>
      rw [ho] at h
      simp only at h
      split at h
      · refine wpOpIn_mono (fun a' w' hn => ?_) (defer_wp hro ho hr h)
        obtain ⟨κ', st', hr', h'⟩ := hn
        exact run_wp T hro l st' κ' a' w' h' hr'
      · refine wpOpIn_mono (fun a' w' hn => ?_) (step_wp T ho hr h)
        obtain ⟨κ', st', hr', h'⟩ := hn
        exact run_wp T hro l st' κ' a' w' h' hr'

/-- From here the function comes to its outcome. -/
def Good (P : Program) (f : FuncId) (R : Ending → World → Prop) (k : List Item) (a : Act) (w : World) : Prop :=
  ∀ (b : Frame) (cs : List Frame), b.fn = f → b.kind = .normal → b.roundOf = none → ∃ e w' fr, R e w' ∧ Comes P (lone (b.at a k) cs w) (lone fr cs w') e ∧ fr.fn = f ∧ fr.leaving P w' e

theorem Good.step {f : FuncId} {R : Ending → World → Prop} {k k' : List Item} {a' : Act} (hs : ∀ (b : Frame) (cs : List Frame), step P (lone (b.at a k) cs w) = .next (lone (b.at a' k') cs w')) (h : Good P f R k' a' w') : Good P f R k a w := by
  intro b cs hf hk hro
  obtain ⟨e, w2, fr, h1, h2, h3⟩ := h b cs hf hk hro
  exact ⟨e, w2, fr, h1, Comes.of_steps (.one (hs b cs)) h2, h3⟩

/-- Operations in turn. -/
theorem good_ops {f : FuncId} {fn : Func} {ops : Array Oper} {l : List Nat} {k : List Item} {z : Z} {N : Act → World → Prop} (h : wpOpsIn (FW none) 0 P ops (PQ Out z N) l a w) (hk : ∀ a w, N a w → Good P f (Out z) k a w) (hfn : P.funcs[f]? = some fn) : Good P f (Out z) (.inRegion ops l :: k) a w := by
  intro b cs hf hkind hro
  obtain ⟨e, a', w', hq, harr⟩ := wp_opsIn l a w h b k cs hro trivial (FW.room _ _)
  rw [Frame.atR_of_none hro] at harr
  cases e with
  | normal =>
    obtain ⟨e, w2, fr, h1, h2, h3⟩ := hk a' w' hq b cs hf hkind hro
    have harr' : StepsIn (Machine.fenced P (FW none)) P (lone (b.at a (.inRegion ops l :: k)) cs w) (lone (b.atR a' k) cs w') := harr
    rw [Frame.atR_of_none hro] at harr'
    exact ⟨e, w2, fr, h1, Comes.of_steps harr'.steps h2, h3⟩
  | panic c =>
    obtain ⟨hd, ho⟩ := hq
    obtain ⟨todo, hs⟩ := harr
    rw [Frame.atR_of_none hro] at hs
    exact ⟨.panicked c, w', _, ho, hs.steps, hf, rfl, hd, fn, by simpa [Frame.at, hf] using hfn⟩
  | exit id => exact hq.elim
  | goto l => exact hq.elim
  | ret => exact hq.elim
  | outgrown => exact hq.elim

/-- A region in turn. -/
theorem good_region (T : Told P D M0 B0 w0 κ0 Out) {f : FuncId} {fn : Func} (hfn : P.funcs[f]? = some fn) {id : Nat} {ops : Array Oper} {k : List Item} {K : ASt → Tr Z} {z : Z} (h : (runT D ops (List.range ops.size) st K).eval = some z) (hr : RD D M0 B0 w0 κ0 st κ a w)
    (hk : ∀ st κ a w, RD D M0 B0 w0 κ0 st κ a w → (runEnd ops K st).eval = some z → Good P f (Out z) k a w) : Good P f (Out z) (.code (.region id ops false) :: k) a w := by
  refine Good.step (fun b cs => step_region) ?_
  exact good_ops (run_wp (ro := none) (n := 0) T (fun _ => rfl) _ st κ a w h hr) (fun a' w' hn => by
    obtain ⟨κ', st', hr', h'⟩ := hn
    exact hk st' κ' a' w' hr' h') hfn
end
end Go.AM
