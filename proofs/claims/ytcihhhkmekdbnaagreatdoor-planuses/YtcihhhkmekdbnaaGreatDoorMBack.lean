/-
  The abstract machine, a part.
-/
import Derived.Test.YtcihhhkmekdbnaaGreatDoorMCall
/-
  The abstract machine, part 18: back from a call.
-/
namespace Go.AM
open Go RowKit
section
variable {P : Program} {glob : List (Nat × AV)} {M0 B0 : Nat → Prop} {w0 w w' : World} {κ κ' : Nat → Value} {objs : List (Nat × AObj)} {ok ok1 : Nat → Prop}

/-- The caller's numbers behind a call. -/
def backK (κ κ' : Nat → Value) (np nid : Nat) (i : Nat) : Value := if newIds nid i = true then κ' (i - nid + np) else κ i

theorem assoc_nodup {α : Type} {l : List (Nat × α)} (h : (l.map (·.1)).Nodup) {i : Nat} {v : α} (hm : (i, v) ∈ l) : assoc l i = some v := by
  induction l with
  | nil => simp at hm
  | cons p l ih =>
    obtain ⟨k, x⟩ := p
    simp only [List.map_cons, List.nodup_cons] at h
    rw [assoc_cons]
    rcases List.mem_cons.1 hm with e | e
    · cases e; rw [if_pos rfl]
    · have : k ≠ i := fun hk => h.1 (hk ▸ List.mem_map.2 ⟨(i, v), e, rfl⟩)
      rw [if_neg this]; exact ih h.2 e

theorem mkO_keys : ∀ (l : List (Nat × OSh)) (x : El (tyO l)), (mkO l x).map (·.1) = l.map (·.1)
  | [], _ => rfl
  | (i, s) :: l, x => by simp [mkO, mkO_keys l]

theorem outObjs_mem {m : List (Nat × Nat)} {np nid : Nat} {os : List (Nat × AObj)} {i : Nat} {o : AObj} (h : (i, o) ∈ outObjs m np nid os) : ∃ j p, (j, p) ∈ os ∧ outMap m np nid j = some i ∧ o = renO (outMap m np nid) p := by
  unfold outObjs at h
  rw [List.mem_filterMap] at h
  obtain ⟨⟨j, p⟩, h1, h2⟩ := h
  simp only [Option.map_eq_some_iff, Prod.mk.injEq] at h2
  obtain ⟨i', h3, rfl, rfl⟩ := h2
  exact ⟨j, p, h1, h3, rfl⟩

theorem call_back (hm : Mem glob M0 B0 w0 w κ objs) (hM : ∀ b, M0 b → b < w.heap.size) {nid : Nat} (hl : Lack (newIds nid) glob objs) {b : Bnd} (hg : b.good = true) {inp : Pat} {x : inp.X} {us : List Value}
    (hf : Fitted w M0 κ objs b (inp.slots.map (·.2)) inp.objs x us) {np : Nat} (hbound : boundAll objs b.m np = true) {robjs : List (Nat × AObj)} (hnd : (robjs.map (·.1)).Nodup) (hsm : ∀ p ∈ robjs, p.1 < np + 16) (hall : ∀ i, i < np → ∃ o, (i, o) ∈ robjs)
    (hids : inp.objs.map (·.1) = List.range np) (hpar : ∀ i, i < np → κ' i = b.kap κ i) (hm' : Mem glob (calleeM M0 κ (b.kap κ) (freezeAll objs b.fz) (mkO inp.objs (snd' x))) (live (b.kap κ) (mkO inp.objs (snd' x))) w w' κ' robjs) {rv : AV} {v : Value}
    (hv : RepV w' (okB (calleeM M0 κ (b.kap κ) (freezeAll objs b.fz) (mkO inp.objs (snd' x))) κ' robjs) κ' rv v) {vc : Bool} :
    Done glob M0 B0 w0 (newIds nid) κ objs w ⟨vc, ren (outMap b.m np nid) rv, freezeIds objs b.fz ++ outObjs b.m np nid robjs⟩ (backK κ κ' np nid) v w' := by
  obtain ⟨n1, m1⟩ := hm.freezeAll hM b.fz
  have e0 : putObjs objs (freezeIds objs b.fz ++ outObjs b.m np nid robjs) = (outObjs b.m np nid robjs).reverse ++ freezeAll objs b.fz := by
    simp [putObjs, freezeAll, List.reverse_append, List.append_assoc]
  have hex : ∀ i j, i < np → assoc b.m i = some j → (assoc objs j).isSome = true := by
    intro i j hi hj
    have := List.all_eq_true.1 hbound i (List.mem_range.2 hi)
    rw [hj] at this
    exact this
  have hold : ∀ j, (assoc objs j).isSome = true → newIds nid j = false := by
    intro j hj
    obtain ⟨o, ho⟩ := Option.isSome_iff_exists.1 hj
    exact hl.ids j o ho
  have hfκ : ∀ i j, outMap b.m np nid i = some j → backK κ κ' np nid j = κ' i := by
    intro i j h
    unfold outMap at h
    split at h
    · rename_i hi
      rw [backK, hold j (hex i j hi h), hpar i hi]
      simp [Bnd.kap, h]
    · rw [Option.ite_none_right_eq_some] at h
      obtain ⟨h1, h2⟩ := h
      cases h2
      have : newIds nid (nid + (i - np)) = true := by simp [newIds]; omega
      rw [backK, if_pos this]
      congr 1; omega
  have hinj : ∀ i i' j, outMap b.m np nid i = some j → outMap b.m np nid i' = some j → i = i' := by
    intro i i' j h h'
    unfold outMap at h h'
    split at h <;> split at h'
    · exact (Bnd.good_spec hg).2.1 (i, j) (assoc_mem h) (i', j) (assoc_mem h') rfl
    · rename_i h1 h2
      rw [Option.ite_none_right_eq_some] at h'
      obtain ⟨h3, h4⟩ := h'
      cases h4
      have := hold _ (hex i _ h1 h)
      simp [newIds] at this; omega
    · rename_i h1 h2
      rw [Option.ite_none_right_eq_some] at h
      obtain ⟨h3, h4⟩ := h
      cases h4
      have := hold _ (hex i' _ h2 h')
      simp [newIds] at this; omega
    · rw [Option.ite_none_right_eq_some] at h h'
      obtain ⟨h3, h4⟩ := h
      obtain ⟨h5, h6⟩ := h'
      cases h4
      injection h6 with h6
      omega
  -- what the new state's objects are
  have hcase : ∀ i o, assoc ((outObjs b.m np nid robjs).reverse ++ freezeAll objs b.fz) i = some o →
      (∃ j p, assoc robjs j = some p ∧ outMap b.m np nid j = some i ∧ o = renO (outMap b.m np nid) p) ∨ (assoc (freezeAll objs b.fz) i = some o ∧ ∀ j, j < np → assoc b.m j ≠ some i) := by
    intro i o h
    rw [assoc_app] at h
    split at h
    · rename_i q hq
      cases h
      obtain ⟨j, p, h1, h2, h3⟩ := outObjs_mem (List.mem_reverse.1 (assoc_mem hq))
      exact .inl ⟨j, p, assoc_nodup hnd h1, h2, h3⟩
    · rename_i hq
      refine .inr ⟨h, fun j hj hji => ?_⟩
      obtain ⟨q, hq'⟩ := hall j hj
      have : (i, renO (outMap b.m np nid) q) ∈ (outObjs b.m np nid robjs).reverse := by
        rw [List.mem_reverse]
        unfold outObjs
        rw [List.mem_filterMap]
        exact ⟨(j, q), hq', by simp [outMap, hj, hji]⟩
      exact assoc_none hq _ this
  have hNP : ∀ i o k, assoc (freezeAll objs b.fz) i = some o → (∀ j, j < np → assoc b.m j ≠ some i) → mutO o = true → blkOf (κ i) = some k → live κ (freezeAll objs b.fz) k ∧ ¬ live (b.kap κ) (mkO inp.objs (snd' x)) k := by
    intro i o k h1 h2 h3 h4
    refine ⟨⟨i, o, h1, h3, h4⟩, fun ⟨j, p, h5, h6, h7⟩ => ?_⟩
    have hj : j < np := by
      have : j ∈ (mkO inp.objs (snd' x)).map (·.1) := List.mem_map.2 ⟨(j, p), assoc_mem h5, rfl⟩
      rw [mkO_keys, hids] at this
      exact List.mem_range.1 this
    rcases hf.muts j p h5 h6 with ⟨j', oj, e1, e2, e3⟩ | e
    · have h7' : blkOf (κ j') = some k := by simpa only [Bnd.kap, e1] using h7
      have := m1.sep i j' o oj k h1 e2 h3 e3 h4 h7'
      exact h2 j hj (by rw [this]; exact e1)
    · rw [e] at h7; cases h7
  have hlive : ∀ k, live (backK κ κ' np nid) ((outObjs b.m np nid robjs).reverse ++ freezeAll objs b.fz) k → live κ' robjs k ∨ (live κ (freezeAll objs b.fz) k ∧ ¬ live (b.kap κ) (mkO inp.objs (snd' x)) k) := by
    rintro k ⟨i, o, h1, h2, h3⟩
    rcases hcase i o h1 with ⟨j, p, h4, h5, rfl⟩ | ⟨h4, h5⟩
    · rw [hfκ j i h5] at h3
      rw [renO_mut] at h2
      exact .inl ⟨j, p, h4, h2, h3⟩
    · have : newIds nid i = false := hold i (freezeAll_some.1 (by rw [h4]; rfl))
      rw [backK, this] at h3
      exact .inr (hNP i o k h4 h5 h2 (by simpa using h3))
  have hok : Ext w' w' (okB (calleeM M0 κ (b.kap κ) (freezeAll objs b.fz) (mkO inp.objs (snd' x))) κ' robjs) (okB M0 (backK κ κ' np nid) ((outObjs b.m np nid robjs).reverse ++ freezeAll objs b.fz)) := by
    refine ⟨fun _ _ _ => rfl, fun k hk _ => ⟨fun h => hk.1 (.inl h), fun h => ?_⟩⟩
    rcases hlive k h with h | h
    · exact hk.2 h
    · exact hk.1 (.inr h)
  have hl1 : Lack (newIds nid) glob (freezeAll objs b.fz) := by
    refine ⟨fun i o h => hold i (freezeAll_some.1 (by rw [h]; rfl)), fun i o h => ?_, hl.glob⟩
    cases o with
    | var t cs => exact hl.objs i _ (freezeAll_back h rfl)
    | lp key busy cs => exact hl.objs i _ (freezeAll_back h rfl)
    | _ => rfl
  have n2 : Next M0 (newIds nid) κ (backK κ κ' np nid) (freezeAll objs b.fz) ((outObjs b.m np nid robjs).reverse ++ freezeAll objs b.fz) w w' := by
    refine ⟨fun i hi => by rw [backK, hi]; simp, fun k hk hn => ?_, fun k hk => ?_, hm'.keep.os, hm'.keep.tape, hm'.keep.output, hm'.keep.size⟩
    · exact hm'.keep.block k hk (fun h => hn (hf.live h))
    · rcases hlive k hk with h | h
      · rcases (hm'.off k h).2 with h1 | h1
        · exact .inr h1
        · exact .inl (hf.live h1)
      · exact .inl h.1
  have m2 : Mem glob M0 B0 w0 w' (backK κ κ' np nid) ((outObjs b.m np nid robjs).reverse ++ freezeAll objs b.fz) := by
    refine m1.next n2 hM (fun i o ho => ?_) (fun i j o p k hi hj hmo hmp hbi hbj => ?_) (fun g v hgv => hl.glob g v hgv)
    · rcases hcase i o ho with ⟨j, p, h4, h5, rfl⟩ | ⟨h4, h5⟩
      · refine .inr (renO_rep hfκ h5 ?_)
        exact ObjR.mono (N := fun _ => false) hok (fun _ _ => rfl) rfl (lacksOF p) (fun _ _ _ => rfl) (hm'.each j p h4)
      · refine .inl ⟨h4, hl1.ids i o h4, hl1.objs i o h4, fun hmu k hk => ?_⟩
        have := hNP i o k h4 h5 hmu hk
        exact hm'.keep.block k (m1.live_lt this.1) this.2
    · rcases hcase i o hi with ⟨i', oi, a1, a2, rfl⟩ | ⟨a1, a2⟩ <;> rcases hcase j p hj with ⟨j', oj, c1, c2, rfl⟩ | ⟨c1, c2⟩
      · rw [renO_mut] at hmo hmp
        rw [hfκ i' i a2] at hbi
        rw [hfκ j' j c2] at hbj
        have := hm'.sep i' j' oi oj k a1 c1 hmo hmp hbi hbj
        subst this
        rw [a2] at c2
        injection c2
      · rw [renO_mut] at hmo
        rw [hfκ i' i a2] at hbi
        rw [backK, hl1.ids j p c1] at hbj
        exact absurd (.inr (hNP j p k c1 c2 hmp (by simpa using hbj))) (hm'.off k ⟨i', oi, a1, hmo, hbi⟩).1
      · rw [renO_mut] at hmp
        rw [hfκ j' j c2] at hbj
        rw [backK, hl1.ids i o a1] at hbi
        exact absurd (.inr (hNP i o k a1 a2 hmo (by simpa using hbi))) (hm'.off k ⟨j', oj, c1, hmp, hbj⟩).1
      · rw [backK, hl1.ids i o a1] at hbi
        rw [backK, hl1.ids j p c1] at hbj
        exact m1.sep i j o p k a1 c1 hmo hmp (by simpa using hbi) (by simpa using hbj)
  refine ⟨?_, ?_, ?_⟩
  · rw [e0]; exact n1.trans0 n2
  · rw [e0]; exact m2
  · rw [e0]; exact ren_rep hfκ rv v (RepV.mono hok rv v hv)
end
end Go.AM
