/-
  The abstract machine, a part.
-/
import Derived.Test.YtcihhhkmekdbnaaGreatDoorMDraw2
/-
  The abstract machine, part 25: a log of outcomes, put into a state in any order.
-/
namespace Go.AM
open Go RowKit
section
variable {P : Program} {Z : Type} {D : DEnv Z} {M0 B0 : Nat → Prop} {w0 w w' : World} {κ0 κ κ' : Nat → Value} {Out : Z → Ending → World → Prop} {st st2 : ASt} {a : Act} {ops : Array Oper} {A : List Nat} {n0 : Nat}

def app (st : ASt) (E : List Ent) : ASt := E.foldl (fun s e => s.upd e.o.dst e.val e.ws) st
theorem app_append (st : ASt) (E F : List Ent) : app st (E ++ F) = app (app st E) F := List.foldl_append
theorem app_cons (st : ASt) (e : Ent) (F : List Ent) : app st (e :: F) = app (st.upd e.o.dst e.val e.ws) F := rfl
theorem Eqv.app : ∀ (E : List Ent) {st st2 : ASt}, Eqv st st2 → Eqv (app st E) (app st2 E)
  | [], _, _, h => h
  | e :: E, _, _, h => Eqv.app E (h.upd _ _ _)
theorem app_dfs : ∀ (E : List Ent) (st : ASt), (app st E).dfs = st.dfs
  | [], _ => rfl
  | e :: E, st => app_dfs E _
theorem assoc_no {α : Type} {l : List (Nat × α)} {i : Nat} (h : i ∉ l.map (·.1)) : assoc l i = none := by
  cases hx : assoc l i with
  | none => rfl
  | some v => exact absurd (List.mem_map.2 ⟨_, assoc_mem hx, rfl⟩) h
theorem putO_out {objs ws : List (Nat × AObj)} {i : Nat} (h : i ∉ ws.map (·.1)) : assoc (putObjs objs ws) i = assoc objs i := by
  rw [assoc_putO, assoc_no (by simpa using h)]

theorem app_filter_slot {p : Ent → Bool} {t : Nat} : ∀ (E : List Ent) {st st2 : ASt}, assoc st.slots t = assoc st2.slots t → (∀ e ∈ E, p e = false → e.o.dst ≠ some t) → assoc (app st (E.filter p)).slots t = assoc (app st2 E).slots t
  | [], _, _, h, _ => h
  | e :: E, st, st2, h, hh => by
    have hE := fun e he => hh e (List.mem_cons_of_mem _ he)
    cases hp : p e with
    | true =>
      rw [List.filter_cons_of_pos hp, app_cons, app_cons]
      exact app_filter_slot E (by simp only [ASt.upd, assoc_put, h]) hE
    | false =>
      rw [List.filter_cons_of_neg (by simp [hp]), app_cons]
      exact app_filter_slot E (by simp only [ASt.upd, assoc_put, if_neg (hh e (by simp) hp), h]) hE
theorem app_filter_obj {p : Ent → Bool} {i : Nat} : ∀ (E : List Ent) {st st2 : ASt}, assoc st.objs i = assoc st2.objs i → (∀ e ∈ E, p e = false → i ∉ e.ws.map (·.1)) → assoc (app st (E.filter p)).objs i = assoc (app st2 E).objs i
  | [], _, _, h, _ => h
  | e :: E, st, st2, h, hh => by
    have hE := fun e he => hh e (List.mem_cons_of_mem _ he)
    cases hp : p e with
    | true =>
      rw [List.filter_cons_of_pos hp, app_cons, app_cons]
      exact app_filter_obj E (by simp only [ASt.upd, assoc_putO, h]) hE
    | false =>
      rw [List.filter_cons_of_neg (by simp [hp]), app_cons]
      exact app_filter_obj E (by simp only [ASt.upd]; rw [putO_out (hh e (by simp) hp), h]) hE
theorem app_slot {t : Nat} (E : List Ent) {st : ASt} (h : ∀ e ∈ E, e.o.dst ≠ some t) : assoc (app st E).slots t = assoc st.slots t := by
  have := app_filter_slot (p := fun _ => false) (t := t) E (st := st) (st2 := st) rfl (fun e he _ => h e he)
  rw [← this, List.filter_eq_nil_iff.2 (fun _ _ => by simp)]; rfl
theorem app_obj {i : Nat} (E : List Ent) {st : ASt} (h : ∀ e ∈ E, i ∉ e.ws.map (·.1)) : assoc (app st E).objs i = assoc st.objs i := by
  have := app_filter_obj (p := fun _ => false) (i := i) E (st := st) (st2 := st) rfl (fun e he _ => h e he)
  rw [← this, List.filter_eq_nil_iff.2 (fun _ _ => by simp)]; rfl

/-- Two entries that do not write the same. -/
def Off (e x : Ent) : Prop := (∀ d, e.o.dst = some d → x.o.dst ≠ some d) ∧ ∀ i, i ∈ e.ws.map (·.1) → i ∉ x.ws.map (·.1)
theorem upd_comm {e x : Ent} (h : Off e x) (s : ASt) : Eqv ((s.upd e.o.dst e.val e.ws).upd x.o.dst x.val x.ws) ((s.upd x.o.dst x.val x.ws).upd e.o.dst e.val e.ws) := by
  refine ⟨fun t => ?_, rfl, fun i => ?_⟩
  · simp only [ASt.upd, assoc_put]
    by_cases h1 : e.o.dst = some t
    · rw [if_pos h1, if_neg (h.1 t h1)]; simp [h1]
    · rw [if_neg h1]; simp [h1]
  · simp only [ASt.upd]
    by_cases h1 : i ∈ e.ws.map (·.1)
    · rw [putO_out (h.2 i h1)]
      rw [assoc_putO, assoc_putO]
      cases hx : assoc e.ws.reverse i with
      | some v => simp only [assoc_putO, hx]
      | none =>
        obtain ⟨p, hp, he⟩ := List.mem_map.1 h1
        obtain ⟨j, o⟩ := p
        simp only at he
        subst he
        exact absurd (List.mem_reverse.2 hp) (assoc_none hx o)
    · rw [putO_out h1]
      rw [assoc_putO, assoc_putO, putO_out h1]
theorem app_comm {e : Ent} : ∀ (E : List Ent) (s : ASt), (∀ x ∈ E, Off e x) → Eqv (app (s.upd e.o.dst e.val e.ws) E) ((app s E).upd e.o.dst e.val e.ws)
  | [], _, _ => .refl _
  | x :: E, s, h => by
    rw [app_cons, app_cons]
    exact (Eqv.app E (upd_comm (h x (by simp)) s)).trans (app_comm E _ (fun y hy => h y (List.mem_cons_of_mem _ hy)))

theorem live_eqv {objs objs2 : List (Nat × AObj)} (h : ∀ i, assoc objs2 i = assoc objs i) : live κ objs2 = live κ objs := by
  funext b; unfold live; simp only [h]
theorem Mem.eqv {glob : List (Nat × AV)} {objs objs2 : List (Nat × AObj)} (h : ∀ i, assoc objs2 i = assoc objs i) (hm : Mem glob M0 B0 w0 w κ objs) : Mem glob M0 B0 w0 w κ objs2 := by
  have ho : okB M0 κ objs2 = okB M0 κ objs := by funext b; unfold okB; rw [live_eqv h]
  refine ⟨fun id o hi => ?_, fun i j o p b hi hj => hm.sep i j o p b (by rw [← h]; exact hi) (by rw [← h]; exact hj), fun b hb => hm.off b (by rw [← live_eqv h]; exact hb), hm.keep, fun g v hg => ?_⟩
  · rw [ho]; exact hm.each id o (by rw [← h]; exact hi)
  · rw [ho]; exact hm.glob g v hg
theorem RR.eqv (hr : RD D M0 B0 w0 κ0 st κ a w) (h : Eqv st st2) : RD D M0 B0 w0 κ0 st2 κ a w := by
  have ho : okB M0 κ st2.objs = okB M0 κ st.objs := by funext b; unfold okB; rw [live_eqv h.objs]
  refine ⟨⟨hr.mem.eqv h.objs, fun i v hi => ?_, by rw [ho, h.dfs]; exact hr.defers, hr.size, hr.old⟩, fun i hi => ⟨(hr.par i hi).1, by rw [h.objs]; exact (hr.par i hi).2⟩⟩
  rw [ho]; exact hr.slots i v (by rw [← h.slots]; exact hi)

theorem Fresh.upd {N : Nat → Bool} {glob : List (Nat × AV)} {e : Ent} (hf : Fresh N glob st) (h : lacksE N e = true) : Fresh N glob (st.upd e.o.dst e.val e.ws) := by
  unfold lacksE at h
  simp only [Bool.and_eq_true, List.all_eq_true, Bool.not_eq_true'] at h
  have hws : ∀ i o, assoc (putObjs st.objs e.ws) i = some o → (i, o) ∈ e.ws ∨ assoc st.objs i = some o := by
    intro i o ho
    rw [assoc_putO] at ho
    split at ho
    · rename_i v hv; cases ho; exact .inl (List.mem_reverse.1 (assoc_mem hv))
    · exact .inr ho
  refine ⟨⟨fun i o ho => ?_, fun i o ho => ?_, hf.1.glob⟩, fun i v hi => ?_, hf.2.2⟩
  · rcases hws i o ho with h1 | h1
    · exact (h.2 _ h1).1
    · exact hf.1.ids i o h1
  · rcases hws i o ho with h1 | h1
    · exact (h.2 _ h1).2
    · exact hf.1.objs i o h1
  · simp only [ASt.upd, assoc_put] at hi
    split at hi
    · cases hi; exact h.1
    · exact hf.2.1 i v hi
theorem Fresh.app {N : Nat → Bool} {glob : List (Nat × AV)} : ∀ (E : List Ent) {st : ASt}, Fresh N glob st → (∀ e ∈ E, lacksE N e = true) → Fresh N glob (app st E)
  | [], _, hf, _ => hf
  | e :: E, _, hf, h => Fresh.app E (hf.upd (h e (by simp))) (fun x hx => h x (List.mem_cons_of_mem _ hx))

-- Sets of operations as numbers
theorem ancStep_bit {t : List Nat} {i : Nat} : ∀ (ps : List Nat), (ancStep t ps).testBit i = true → ∃ p ∈ ps, p = i ∨ (t.getD p 0).testBit i = true
  | [], h => by simp [ancStep] at h
  | p :: ps, h => by
    simp only [ancStep, Nat.testBit_or, Bool.or_eq_true] at h
    rcases h with h | h | h
    · obtain ⟨q, h1, h2⟩ := ancStep_bit ps h
      exact ⟨q, List.mem_cons_of_mem _ h1, h2⟩
    · rw [Nat.testBit_two_pow] at h
      exact ⟨p, by simp, .inl (by simpa using h)⟩
    · exact ⟨p, by simp, .inr h⟩
theorem ancTab_length (ops : Array Oper) : ∀ n, (ancTab ops n).length = n
  | 0 => rfl
  | n + 1 => by simp [ancTab, ancTab_length ops n]
theorem ancTab_get (ops : Array Oper) {j : Nat} : ∀ n, j < n → (ancTab ops n)[j]? = some (ancStep (ancTab ops j) ((ops[j]?).elim [] predsOf))
  | 0, h => by omega
  | n + 1, h => by
    simp only [ancTab]
    by_cases hj : j < n
    · rw [List.getElem?_append_left (by rw [ancTab_length]; exact hj)]
      exact ancTab_get ops n hj
    · have : j = n := by omega
      subst this
      rw [List.getElem?_append_right (by rw [ancTab_length]; exact Nat.le_refl _)]
      simp [ancTab_length]
theorem ancTab_getD (ops : Array Oper) {j : Nat} {n : Nat} (h : j < n) : (ancTab ops n).getD j 0 = ancStep (ancTab ops j) ((ops[j]?).elim [] predsOf) := by
  rw [List.getD_eq_getElem?_getD, ancTab_get ops n h]; rfl
theorem anc_closed {ops : Array Oper} {n i j : Nat} (h : isAnc (ancTab ops n) i j = true) : ∃ o, ops[j]? = some o ∧ ∃ p ∈ predsOf o, p = i ∨ (p < j ∧ isAnc (ancTab ops n) i p = true) := by
  unfold isAnc at h
  by_cases hj : j < n
  · rw [ancTab_getD ops hj] at h
    obtain ⟨p, h1, h2⟩ := ancStep_bit _ h
    cases ho : ops[j]? with
    | none => rw [ho] at h1; simp at h1
    | some o =>
      rw [ho] at h1
      refine ⟨o, rfl, p, h1, ?_⟩
      rcases h2 with h2 | h2
      · exact .inl h2
      · right
        by_cases hp : p < j
        · refine ⟨hp, ?_⟩
          unfold isAnc
          rw [ancTab_getD ops hp] at h2
          rw [ancTab_getD ops (by omega)]; exact h2
        · rw [List.getD_eq_getElem?_getD, List.getElem?_eq_none (by rw [ancTab_length]; omega)] at h2
          simp at h2
  · rw [List.getD_eq_getElem?_getD, List.getElem?_eq_none (by rw [ancTab_length]; omega)] at h
    simp at h
/-- What comes before an operation is listed before it is ready. -/
theorem anc_listed {ops : Array Oper} {n : Nat} {L : Nat → Prop} (hd : ∀ i o, L i → ops[i]? = some o → ∀ p ∈ predsOf o, L p) : ∀ (j i : Nat), isAnc (ancTab ops n) i j = true → (∀ o, ops[j]? = some o → ∀ p ∈ predsOf o, L p) → L i := by
  intro j
  induction j using Nat.strongRecOn with
  | _ j ih =>
    intro i h hp
    obtain ⟨o, h1, p, h2, h3⟩ := anc_closed h
    rcases h3 with rfl | ⟨h3, h4⟩
    · exact hp o h1 _ h2
    · exact ih p h3 i h4 (fun o' ho' q hq => hd p o' (hp o h1 p h2) ho' q hq)

theorem ord_spec {ops : Array Oper} : ∀ (l : List Nat) (m : Nat), ordOK ops l m = true → l.Nodup ∧ (∀ i ∈ l, m.testBit i = false ∧ i < ops.size) ∧ (∀ i, i < ops.size → m.testBit i = true ∨ i ∈ l)
  | [], m, h => by
    simp only [ordOK, beq_iff_eq] at h
    refine ⟨List.nodup_nil, by simp, fun i hi => .inl ?_⟩
    rw [h, Nat.testBit_two_pow_sub_one]; simpa using hi
  | i :: r, m, h => by
    simp only [ordOK, Bool.and_eq_true, Bool.not_eq_true', decide_eq_true_eq] at h
    obtain ⟨⟨⟨h1, h2⟩, h3⟩, h4⟩ := h
    obtain ⟨g1, g2, g3⟩ := ord_spec r _ h4
    refine ⟨List.nodup_cons.2 ⟨fun hi => ?_, g1⟩, fun j hj => ?_, fun j hj => ?_⟩
    · have := (g2 i hi).1
      simp [Nat.testBit_or, Nat.testBit_two_pow] at this
    · rcases List.mem_cons.1 hj with rfl | hj
      · exact ⟨h1, h2⟩
      · have := g2 j hj
        simp only [Nat.testBit_or, Bool.or_eq_false_iff] at this
        exact ⟨this.1.1, this.2⟩
    · rcases g3 j hj with h5 | h5
      · simp only [Nat.testBit_or, Bool.or_eq_true, Nat.testBit_two_pow, decide_eq_true_eq] at h5
        rcases h5 with h5 | h5
        · exact .inl h5
        · exact .inr (by simp [h5])
      · exact .inr (List.mem_cons_of_mem _ h5)
theorem ord_preds {ops : Array Oper} {i : Nat} {l2 : List Nat} : ∀ (l1 : List Nat) (m : Nat), ordOK ops (l1 ++ i :: l2) m = true → ∀ o, ops[i]? = some o → ∀ p ∈ predsOf o, m.testBit p = true ∨ p ∈ l1
  | [], m, h, o, ho, p, hp => by
    simp only [List.nil_append, ordOK, Bool.and_eq_true, ho, Option.elim, List.all_eq_true] at h
    exact .inl (h.1.2 p hp)
  | j :: l1, m, h, o, ho, p, hp => by
    simp only [List.cons_append, ordOK, Bool.and_eq_true] at h
    rcases ord_preds l1 _ h.2 o ho p hp with h5 | h5
    · simp only [Nat.testBit_or, Bool.or_eq_true, Nat.testBit_two_pow, decide_eq_true_eq] at h5
      rcases h5 with h5 | h5
      · exact .inl h5
      · exact .inr (by simp [h5])
    · exact .inr (List.mem_cons_of_mem _ h5)
end
end Go.AM
