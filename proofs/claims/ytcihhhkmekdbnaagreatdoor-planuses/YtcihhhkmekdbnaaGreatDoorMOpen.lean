/-
  From the given rows to the plain law: a part.
-/
import Derived.Test.YtcihhhkmekdbnaaGreatDoorMEntry
import Derived.Test.YtcihhhkmekdbnaaGreatDoorMp1
import Derived.OpenShut
import Derived.ChangeArms
import Derived.Carry
import Derived.SizedLaws
import Derived.Handed
/-
  Arguments, opened: what reads as data is as the abstract machine's lists say.
-/
namespace Go.AM
open Go Go.RowKit Go.Proofs
set_option maxRecDepth 100000
section
variable {H : Type} {enc : TypeId × Value → H} {P : Program} {w : World} {sp : Nat → Bool} {held : Bool} {ok : Nat → Prop}
/-- No string, slice or map in it is beyond reach. -/
def Wt (P : Program) (t : TypeId) (d : DataW H) : Prop := ∀ n ∈ d.weights P t, n ≤ reachBytes
theorem open_i {k : IntKind} {T : TypeId} (hu : P.underlying T = some (.int k)) {fuel : Nat} {cs : List Value} {d : DataW H} {p : List MemPlace} (h : DataW.trod enc P w 0 sp held fuel T cs = some (d, p)) : ∃ n : Int, cs = [.int k n] ∧ k.has n := by
  obtain ⟨n, h1, _, h2⟩ := DataW.trod_int hu h
  exact ⟨n, h1, by simpa [Lit.wf, IntKind.has] using h2⟩
theorem open_s {T : TypeId} (hu : P.underlying T = some .string) {fuel : Nat} {cs : List Value} {d : DataW H} {p : List MemPlace} (h : DataW.trod enc P w 0 sp held fuel T cs = some (d, p)) : ∃ s : ByteArray, cs = [.string s] ∧ s.size ≤ 9223372036854775807 := by
  obtain ⟨s, h1, _, h2⟩ := DataW.trod_string hu h
  exact ⟨s, h1, h2⟩
theorem cells_list {b : Addr} {n : Nat} {cs : List Value} (h : w.cells? 0 b n = some cs) : cs.length = n ∧ ∀ (i : Nat) (u : Value), cs[i]? = some u → w.cell? (b.add i) = some u := by
  unfold World.cells? at h
  rw [if_pos (Nat.zero_le _)] at h
  have key : ∀ (l : List Nat) (cs : List Value), (l.mapM fun i => w.cell? (b.add i)) = some cs → cs.length = l.length ∧ ∀ (i : Nat) (u : Value), cs[i]? = some u → ∃ j, l[i]? = some j ∧ w.cell? (b.add j) = some u := by
    intro l
    induction l with
    | nil => intro cs h; simp at h; subst h; exact ⟨rfl, fun i u hu => by simp at hu⟩
    | cons a l ih =>
      intro cs h
      rw [List.mapM_cons] at h
      cases h1 : w.cell? (b.add a) with
      | none => simp [h1] at h
      | some v =>
        cases h2 : (l.mapM fun i => w.cell? (b.add i)) with
        | none => simp [h1, h2] at h
        | some vs =>
          simp [h1, h2] at h
          subst h
          obtain ⟨r1, r2⟩ := ih vs h2
          refine ⟨by simp [r1], fun i u hu => ?_⟩
          cases i with
          | zero => simp at hu; subst hu; exact ⟨a, rfl, h1⟩
          | succ i => exact r2 i u (by simpa using hu)
  obtain ⟨r1, r2⟩ := key _ _ h
  refine ⟨by simpa using r1, fun i u hu => ?_⟩
  obtain ⟨j, hj, hc⟩ := r2 i u hu
  have hlt := (List.getElem?_eq_some_iff.1 hj).1
  rw [List.getElem?_range (by simpa using hlt)] at hj
  cases hj
  exact hc
theorem open_list {t : TC} {T e : TypeId} {Sz : Den t → Prop} (hu : P.underlying T = some (.slice e)) (hc : P.cellsOf e = csize t) (hb : 0 < P.bytesOf e) {fuel : Nat} {cs : List Value} {d : DataW H} {p : List MemPlace} (hok : ∀ b, ok b)
    (he : ∀ n, n < fuel → ∀ (cs : List Value) (d : DataW H) (p : List MemPlace), DataW.trod enc P w 0 sp held n e cs = some (d, p) → Wt P e d → ∃ x : Den t, RepC w ok t x cs ∧ Sz x)
    (h : DataW.trod enc P w 0 sp held fuel T cs = some (d, p)) (hw : Wt P T d) : ∃ (xs : List (Den t)) (v : Value), cs = [v] ∧ RepS w ok t xs v ∧ (∀ x ∈ xs, Sz x) ∧ xs.length * P.bytesOf e ≤ reachBytes := by
  rcases DataW.trod_slice hu h with ⟨rfl, hx⟩ | ⟨a, len, cap, elems, rest, n, hf, rfl, hx, _, hlc, _, hlen, hel, _, _⟩
  · exact ⟨[], _, rfl, RepS.nil w ok t none 0, (fun x hx => by cases hx), by simp [reachBytes]⟩
  have hd : d = .slice (elems.map (·.1)) (rest.map (·.1)) := (Prod.mk.inj hx).1
  subst hd
  have hbytes : (elems.length + rest.length) * P.bytesOf e ≤ reachBytes := by
    refine hw _ ?_
    unfold DataW.weights
    rw [hu]
    simp
  have hlb : elems.length * P.bytesOf e ≤ reachBytes := Nat.le_trans (Nat.mul_le_mul_right _ (Nat.le_add_right _ _)) hbytes
  have hl : elems.length ≤ reachBytes := Nat.le_trans (Nat.le_mul_of_pos_right _ hb) hlb
  have hwe : ∀ y ∈ elems, Wt P e y.1 := by
    intro y hy n hn
    refine hw _ ?_
    unfold DataW.weights
    rw [hu]
    simp only [List.mem_cons, List.mem_append]
    have : ∀ (l : List (DataW H)), y.1 ∈ l → n ∈ DataW.weightsAll P e l := by
      intro l
      induction l with
      | nil => intro h; cases h
      | cons z l ih =>
        intro h
        rw [DataW.weightsAll, List.mem_append]
        rcases List.mem_cons.1 h with rfl | h
        · exact .inl hn
        · exact .inr (ih h)
    exact .inr (.inl (this _ (List.mem_map.2 ⟨y, hy, rfl⟩)))
  have each : ∀ j, j < len → ∃ (x : Den t) (us : List Value), RepC w ok t x us ∧ Sz x ∧ us.length = csize t ∧ ∀ (i : Nat) (u : Value), us[i]? = some u → w.cell? ((a.add (j * csize t)).add i) = some u := by
    intro j hj
    have h1 := hel j hj
    rw [hc] at h1
    have hje : elems[j]? = some (elems[j]'(by omega)) := List.getElem?_eq_getElem _
    rw [hje] at h1
    cases hcs : w.cells? 0 (a.add (j * csize t)) (csize t) with
    | none => rw [hcs] at h1; cases h1
    | some us =>
      rw [hcs] at h1
      simp only [Option.bind_some] at h1
      obtain ⟨r1, r2⟩ := cells_list hcs
      obtain ⟨x, q1, q2⟩ := he n (by omega) us _ _ h1 (hwe _ (List.getElem_mem _))
      exact ⟨x, us, q1, q2, r1, r2⟩
  have hspot : 0 < len → a = ⟨a.block, a.off, none⟩ := by
    intro h0
    obtain ⟨x, us, q1, _, q3, q4⟩ := each 0 h0
    have hp := csize_pos t
    have := q4 0 _ (List.getElem?_eq_getElem (show 0 < us.length by omega))
    unfold World.cell? at this
    cases hs : a.spot with
    | none => cases a; simp_all
    | some s =>
      exfalso
      have hs' : (Addr.add (Addr.add a (0 * csize t)) 0).spot = some s := by simp [Addr.add, hs]
      rw [hs'] at this
      split at this <;> simp at this
  have pick : ∀ j : Fin len, ∃ x : Den t, Sz x ∧ ∃ us : List Value, RepC w ok t x us ∧ ∀ (i : Nat) (u : Value), us[i]? = some u → w.cell? ⟨a.block, a.off + (j.1 * csize t + i), none⟩ = some u := by
    intro j
    obtain ⟨x, us, q1, q2, q3, q4⟩ := each j.1 j.2
    refine ⟨x, q2, us, q1, fun i u hiu => ?_⟩
    have h5 := q4 i u hiu
    have h6 := hspot (by have := j.2; omega)
    rw [h6] at h5
    rw [addr_add, addr_add] at h5
    rw [← h5]
    congr 2
    omega
  obtain ⟨f, hf'⟩ := Classical.axiomOfChoice pick
  let xs : List (Den t) := (List.finRange len).map f
  have hxl : xs.length = len := by simp [xs]
  have hget : ∀ (j : Nat) (x : Den t), xs[j]? = some x → ∃ hj : j < len, x = f ⟨j, hj⟩ := by
    intro j x hx
    have hj : j < len := by have := (List.getElem?_eq_some_iff.1 hx).1; omega
    refine ⟨hj, ?_⟩
    simp only [xs, List.getElem?_map] at hx
    rw [List.getElem?_eq_getElem (by simpa using hj)] at hx
    simp at hx
    exact hx.symm
  refine ⟨xs, _, rfl, ?_, ?_, ?_⟩
  · rw [← hxl]
    refine RepS.of_row (b := a.block) (o := a.off) (by omega) (by rw [hxl, ← hlen]; unfold reachBytes at hl; omega) (fun h0 => by rw [← hspot (by omega)]) (fun j x hx => ?_)
    obtain ⟨hj, rfl⟩ := hget j x hx
    obtain ⟨_, us, q1, q2⟩ := hf' ⟨j, hj⟩
    exact ⟨hok _, us, q1, q2⟩
  · intro x hx
    obtain ⟨j, hj⟩ := List.mem_iff_getElem?.1 hx
    obtain ⟨hjl, rfl⟩ := hget j x hj
    exact (hf' ⟨j, hjl⟩).1
  · rw [hxl, ← hlen]; exact hlb
end
/-- A slice of ints. -/
theorem open_ints0 {H : Type} {enc : TypeId × Value → H} {w : World} {sp : Nat → Bool} {held : Bool} {ok : Nat → Prop} (hok : ∀ b, ok b) {fuel : Nat} {cs : List Value} {d : DataW H} {p : List MemPlace} (h : DataW.trod enc Tryz.prog w 0 sp held fuel 22 cs = some (d, p)) (hw : Wt Tryz.prog 22 d) :
    ∃ (xs : List Int) (v : Value), cs = [v] ∧ RepS w ok (.i .i64) xs v ∧ I64s xs := by
  obtain ⟨xs, v, h1, h2, h3, _⟩ := open_list (t := .i .i64) (Sz := I64) (e := 3) (show Tryz.prog.underlying 22 = some (.slice 3) by kernel_rfl) (by kernel_rfl) (of_decide_eq_true (by kernel_rfl)) hok (fun n _ cs d p h _ => by
    obtain ⟨n, rfl, hn⟩ := open_i (show Tryz.prog.underlying 3 = some (.int .i64) by kernel_rfl) h
    exact ⟨n, .i .i64 n hn, hn⟩) h hw
  exact ⟨xs, v, h1, h2, h3⟩
/-- A slice is one cell. -/
theorem cells_slice {P : Program} {w : World} {r : Reach} {base : Nat} {t e : TypeId} {v u : Value} (hu : P.underlying t = some (.slice e)) (h : Value.okWide P w r base t v) (he : v.cells.toList = [u]) : v = u := by
  unfold Value.okWide at h
  rw [hu] at h
  simp only at h
  unfold Cell.okWide Cell.ok at h
  rw [hu] at h
  cases v <;> simp_all [Value.cells]
theorem cells_string {P : Program} {w : World} {r : Reach} {base : Nat} {t : TypeId} {v u : Value} (hu : P.underlying t = some .string) (h : Value.okWide P w r base t v) (he : v.cells.toList = [u]) : v = u := by
  unfold Value.okWide at h
  rw [hu] at h
  simp only at h
  unfold Cell.okWide Cell.ok at h
  rw [hu] at h
  cases v <;> simp_all [Value.cells]
end Go.AM
