/-
  The abstract machine, a part.
-/
import Derived.Test.YtcihhhkmekdbnaaGreatDoorMShape
/-
  The abstract machine, part 16: a state that is read against a shape is as the shape says.
-/
namespace Go.AM
open Go RowKit
section
variable {P : Program} {glob : List (Nat × AV)} {M0 B0 : Nat → Prop} {w0 w w' : World} {κ : Nat → Value} {objs objs1 : List (Nat × AObj)} {ok ok1 : Nat → Prop}

/-- Arrays that are read as lists: they are frozen. -/
def freezeAll (objs : List (Nat × AObj)) (ids : List Nat) : List (Nat × AObj) := (freezeIds objs ids).reverse ++ objs

theorem freezeIds_mem {ids : List Nat} {i : Nat} {o : AObj} (h : (i, o) ∈ freezeIds objs ids) : i ∈ ids ∧ ∃ e t xs, assoc objs i = some (.arr e t xs) ∧ o = .fz t xs := by
  unfold freezeIds at h
  rw [List.mem_filterMap] at h
  obtain ⟨j, h1, h2⟩ := h
  split at h2
  · rename_i e t xs ho
    simp only [Option.some.injEq, Prod.mk.injEq] at h2
    obtain ⟨rfl, rfl⟩ := h2
    exact ⟨h1, e, t, xs, ho, rfl⟩
  · cases h2

theorem freezeAll_in {ids : List Nat} {i : Nat} (h : i ∈ ids) {e : TypeId} {t : TC} {xs : List (Den t)} (ho : assoc objs i = some (.arr e t xs)) : assoc (freezeAll objs ids) i = some (.fz t xs) := by
  have key : (i, AObj.fz t xs) ∈ (freezeIds objs ids).reverse := by
    rw [List.mem_reverse]
    unfold freezeIds
    rw [List.mem_filterMap]
    exact ⟨i, h, by rw [ho]⟩
  unfold freezeAll
  rw [assoc_app]
  cases hx : assoc (freezeIds objs ids).reverse i with
  | none => exact absurd key (assoc_none hx _)
  | some o =>
    obtain ⟨_, e', t', xs', h1, rfl⟩ := freezeIds_mem (List.mem_reverse.1 (assoc_mem hx))
    rw [ho] at h1
    cases h1
    rfl
theorem freezeAll_out {ids : List Nat} {i : Nat} (h : i ∉ ids) : assoc (freezeAll objs ids) i = assoc objs i := by
  unfold freezeAll
  rw [assoc_app]
  cases hx : assoc (freezeIds objs ids).reverse i with
  | none => rfl
  | some o => exact absurd (freezeIds_mem (List.mem_reverse.1 (assoc_mem hx))).1 h
theorem freezeAll_not {ids : List Nat} {i : Nat} {o : AObj} (h : assoc objs i = some o) (hn : ∀ e t xs, o ≠ .arr e t xs) : assoc (freezeAll objs ids) i = some o := by
  unfold freezeAll
  rw [assoc_app]
  cases hx : assoc (freezeIds objs ids).reverse i with
  | none => exact h
  | some p =>
    obtain ⟨_, e', t', xs', h1, _⟩ := freezeIds_mem (List.mem_reverse.1 (assoc_mem hx))
    rw [h] at h1
    cases h1
    exact absurd rfl (hn _ _ _)
theorem freezeAll_back {ids : List Nat} {i : Nat} {o : AObj} (h : assoc (freezeAll objs ids) i = some o) (hm : mutO o = true) : assoc objs i = some o := by
  unfold freezeAll at h
  rw [assoc_app] at h
  split at h
  · rename_i p hp
    cases h
    obtain ⟨_, e', t', xs', h1, rfl⟩ := freezeIds_mem (List.mem_reverse.1 (assoc_mem hp))
    cases hm
  · exact h
theorem freezeAll_some {ids : List Nat} {i : Nat} : (assoc (freezeAll objs ids) i).isSome = true ↔ (assoc objs i).isSome = true := by
  unfold freezeAll
  rw [assoc_app]
  cases hx : assoc (freezeIds objs ids).reverse i with
  | none => rfl
  | some p =>
    obtain ⟨_, e', t', xs', h1, rfl⟩ := freezeIds_mem (List.mem_reverse.1 (assoc_mem hx))
    simp [h1]

theorem Mem.freezeAll (hm : Mem glob M0 B0 w0 w κ objs) (hM : ∀ b, M0 b → b < w.heap.size) (ids : List Nat) :
    Next M0 (fun _ => false) κ κ objs (freezeAll objs ids) w w ∧ Mem glob M0 B0 w0 w κ (freezeAll objs ids) :=
  hm.freezeL _ _ hM (fun i o h => by
    obtain ⟨_, e, t, xs, h1, rfl⟩ := freezeIds_mem h
    exact ⟨t, xs, rfl, .inl ⟨e, h1⟩⟩)

/-- The objects' own values, as a shape numbers them. -/
def Bnd.kap (b : Bnd) (κ : Nat → Value) (i : Nat) : Value := match assoc b.m i with
  | some j => κ j
  | none => .slice none 0 0

/-- What is bound in a part is bound in the whole. -/
structure Bnd.le (a b : Bnd) : Prop where
  m : ∀ p ∈ a.m, assoc b.m p.1 = some p.2
  nils : ∀ i ∈ a.nils, assoc b.m i = none
  fz : ∀ i ∈ a.fz, i ∈ b.fz

theorem Bnd.le_left {a a' b : Bnd} (h : (a.app a').le b) : a.le b := ⟨fun p hp => h.m p (by simp [Bnd.app, hp]), fun i hi => h.nils i (by simp [Bnd.app, hi]), fun i hi => h.fz i (by simp [Bnd.app, hi])⟩
theorem Bnd.le_right {a a' b : Bnd} (h : (a.app a').le b) : a'.le b := ⟨fun p hp => h.m p (by simp [Bnd.app, hp]), fun i hi => h.nils i (by simp [Bnd.app, hi]), fun i hi => h.fz i (by simp [Bnd.app, hi])⟩

theorem settle_filter (ob : List (Nat × AObj)) (v : AV) : settle (ob.filter fun p => (leanOn v).contains p.1) v = settle ob v := by
  have key : ∀ (l : List Nat) (i : Nat), l.contains i = true → assoc (ob.filter fun p => l.contains p.1) i = assoc ob i := by
    intro l i hi
    induction ob with
    | nil => rfl
    | cons p ob ih =>
      obtain ⟨k, o⟩ := p
      by_cases hk : k = i
      · subst hk
        rw [List.filter_cons_of_pos (by simpa using hi), assoc_cons, assoc_cons, if_pos rfl, if_pos rfl]
      · rw [assoc_cons, if_neg hk]
        by_cases hc : l.contains k = true
        · rw [List.filter_cons_of_pos (by simpa using hc), assoc_cons, if_neg hk, ih]
        · rw [List.filter_cons_of_neg (by simpa using hc), ih]
  cases v with
  | af id => simp only [settle]; rw [key _ _ (by simp [leanOn])]
  | as_ id lo len sz => simp only [settle]; rw [key _ _ (by simp [leanOn])]
  | _ => rfl

theorem settle_fit (hm : Mem glob M0 B0 w0 w κ objs) (hM : ∀ b, M0 b → b < w.heap.size) {ids : List Nat} {v : AV} {u : Value} (hfz : ∀ i ∈ leanOn v, i ∈ ids) (h : RepV w (okB M0 κ objs) κ v u) :
    RepV w (okB M0 κ (freezeAll objs ids)) κ (settle objs v) u := by
  obtain ⟨n1, m1⟩ := hm.freezeAll hM ids
  rw [← settle_filter]
  have hin : ∀ {i : Nat} {o : AObj}, assoc (objs.filter fun p => (leanOn v).contains p.1) i = some o → i ∈ leanOn v ∧ assoc objs i = some o := by
    intro i o ho
    have h1 := assoc_mem ho
    rw [List.mem_filter] at h1
    have hi : (leanOn v).contains i = true := h1.2
    refine ⟨by simpa using hi, ?_⟩
    have key : ∀ (ob : List (Nat × AObj)), assoc (ob.filter fun p => (leanOn v).contains p.1) i = some o → assoc ob i = some o := by
      intro ob
      induction ob with
      | nil => exact id
      | cons p ob ih =>
        obtain ⟨k, q⟩ := p
        intro hh
        by_cases hc : (leanOn v).contains k = true
        · rw [List.filter_cons_of_pos (by simpa using hc), assoc_cons] at hh
          rw [assoc_cons]
          split at hh
          · rename_i hk; rw [if_pos hk]; exact hh
          · rename_i hk; rw [if_neg hk]; exact ih hh
        · rw [List.filter_cons_of_neg (by simpa using hc)] at hh
          have hk : k ≠ i := fun hk => hc (hk ▸ hi)
          rw [assoc_cons, if_neg hk]; exact ih hh
    exact key objs ho
  refine settle_rep (objs1 := freezeAll objs ids) (fun id o ho => m1.each id o ho) (fun id e t xs ho => ?_) (fun id t xs ho => ?_) (fun id e t xs ho a n c hk hn => ?_) (RepV.mono n1.ext v u h)
  · obtain ⟨h1, h2⟩ := hin ho
    exact freezeAll_in (hfz _ h1) h2
  · obtain ⟨h1, h2⟩ := hin ho
    exact freezeAll_not h2 (fun e t xs h => by cases h)
  · obtain ⟨h1, h2⟩ := hin ho
    obtain ⟨a', c', hk', _, _, hb⟩ := arr_header (hm.each id _ h2)
    rw [hk] at hk'
    cases hk'
    exact hb hn

theorem settleL_fit (hm : Mem glob M0 B0 w0 w κ objs) (hM : ∀ b, M0 b → b < w.heap.size) {ids : List Nat} : ∀ (vs : List AV) (us : List Value), (∀ i ∈ vs.flatMap leanOn, i ∈ ids) → RepL w (okB M0 κ objs) κ vs us →
    RepL w (okB M0 κ (freezeAll objs ids)) κ (vs.map (settle objs)) us
  | [], us, _, h => h
  | v :: vs, us, hf, h => by
    obtain ⟨u, us', rfl, h1, h2⟩ := h
    exact ⟨u, us', rfl, settle_fit hm hM (fun i hi => hf i (by simp [hi])) h1, settleL_fit hm hM vs us' (fun i hi => hf i (by simp only [List.flatMap_cons, List.mem_append]; exact .inr hi)) h2⟩

theorem ptrIds_rep {b : Bnd} : ∀ (ids : List Nat) (vs : List AV) (us : List Value) (m : List (Nat × Nat)), ptrIds ids vs = some m → (∀ p ∈ m, assoc b.m p.1 = some p.2) → RepL w ok κ vs us → RepL w ok1 (b.kap κ) (ids.map (.ptr · 0)) us
  | [], [], us, m, _, _, h => h
  | [], _ :: _, us, m, h, _, _ => by simp [ptrIds] at h
  | i :: ids, [], us, m, h, _, _ => by simp [ptrIds] at h
  | i :: ids, v :: vs, us, m, h, hb, hr => by
    cases v with
    | ptr j off =>
      cases off with
      | zero =>
        simp only [ptrIds, Option.map_eq_some_iff] at h
        obtain ⟨m', h1, rfl⟩ := h
        obtain ⟨u, us', rfl, ⟨blk, e1, e2⟩, h3⟩ := hr
        refine ⟨u, us', rfl, ⟨blk, ?_, e2⟩, ptrIds_rep ids vs us' m' h1 (fun p hp => hb p (by simp [hp])) h3⟩
        have := hb (i, j) (by simp)
        simp only [Bnd.kap, this]
        exact e1
      | succ n => simp [ptrIds] at h
    | _ => simp [ptrIds] at h

theorem fit_rep (hm : Mem glob M0 B0 w0 w κ objs) (hM : ∀ b, M0 b → b < w.heap.size) {b : Bnd} : ∀ (s : Sh) (v : AV) (u : Value) (x : El s.ty) (a : Bnd), fit objs s v = some (x, a) → a.le b → RepV w (okB M0 κ objs) κ v u →
    RepV w (okB M0 κ (freezeAll objs b.fz)) (b.kap κ) (s.mk x) u := by
  have hx := (hm.freezeAll hM b.fz).1.ext
  intro s
  induction s with
  | int k =>
    intro v u x a h hb hr
    simp only [fit] at h
    split at h
    · rw [Option.ite_none_right_eq_some] at h
      obtain ⟨rfl, h⟩ := h
      cases h
      exact hr
    · cases h
  | bool =>
    intro v u x a h hb hr
    simp only [fit] at h
    split at h
    · cases h; exact hr
    · cases h
  | str =>
    intro v u x a h hb hr
    simp only [fit] at h
    split at h
    · cases h; exact hr
    · cases h
  | list t =>
    intro v u x a h hb hr
    simp only [fit] at h
    split at h
    · rename_i xs hxs
      cases h
      exact unS_rep hxs (settle_fit hm hM (fun i hi => hb.fz i hi) hr)
    · cases h
  | agg t =>
    intro v u x a h hb hr
    simp only [fit] at h
    split at h
    · rename_i cs
      split at h
      · rename_i y hy
        cases h
        obtain ⟨us, rfl, hl⟩ := hr
        exact ⟨us, rfl, embC_rep (unembC_rep hy (settleL_fit hm hM cs us (fun i hi => hb.fz i hi) hl))⟩
      · cases h
    · cases h
  | pp t off =>
    intro v u x a h hb hr
    simp only [fit] at h
    split at h
    · rename_i t' y off'
      split at h
      · rename_i ht
        subst ht
        rw [Option.ite_none_right_eq_some] at h
        obtain ⟨rfl, h⟩ := h
        cases h
        exact RepV.mono hx (.pp _ _ _) u hr
      · cases h
    · cases h
  | pr t =>
    intro v u x a h hb hr
    simp only [fit] at h
    split at h
    · split at h
      · rename_i ht
        subst ht
        cases h
        exact RepV.mono hx (.pr _ _) u hr
      · cases h
    · cases h
  | ptr id off =>
    intro v u x a h hb hr
    simp only [fit] at h
    split at h
    · rename_i id' off'
      rw [Option.ite_none_right_eq_some] at h
      obtain ⟨rfl, h⟩ := h
      cases h
      obtain ⟨blk, e1, e2⟩ := hr
      have := hb.m (id, id') (by simp)
      exact ⟨blk, by simp only [Bnd.kap, this]; exact e1, e2⟩
    · cases h
  | af id =>
    intro v u x a h hb hr
    simp only [fit] at h
    split at h
    · rename_i id'
      cases h
      have := hb.m (id, id') (by simp)
      exact ⟨by simp only [Bnd.kap, this]; exact hr.1, hr.2⟩
    · cases h
      have := hb.nils id (by simp)
      exact ⟨by simp only [Bnd.kap, this]; exact hr.1, _, _, _, hr.1⟩
    · cases h
  | fn f ids =>
    intro v u x a h hb hr
    simp only [fit] at h
    split at h
    · rename_i f' cap
      rw [Option.ite_none_right_eq_some] at h
      obtain ⟨rfl, h⟩ := h
      split at h
      · rename_i m hmm
        cases h
        obtain ⟨us, he, hl⟩ := hr
        exact ⟨us, he, ptrIds_rep ids cap us m hmm hb.m hl⟩
      · cases h
    · cases h
  | nilI =>
    intro v u x a h hb hr
    simp only [fit] at h
    split at h
    · cases h; exact hr
    · cases h
  | aggN t =>
    intro v u x a h hb hr
    simp only [fit] at h
    split at h
    · rename_i cs
      split at h
      · rename_i x' hn hx'
        rw [Option.ite_none_right_eq_some] at h
        obtain ⟨hlen, h⟩ := h
        cases h
        obtain ⟨us, rfl, hl⟩ := hr
        have h1 : RepL w (okB M0 κ (freezeAll objs b.fz)) (b.kap κ) (embC t x) (us.take (csize t)) := embC_rep (unembC_rep hx' (settleL_fit hm hM _ _ (fun i hi => hb.fz i hi) (hl.take (csize t))))
        have h2 : RepL w (okB M0 κ (freezeAll objs b.fz)) (b.kap κ) [nilS] (us.drop (csize t)) := by
          have hd := hl.drop (csize t)
          have e : cs.drop (csize t) = [nilS] := by
            have hlt : csize t < cs.length := by omega
            rw [List.drop_eq_getElem_cons hlt]
            have e1 := List.getElem?_eq_getElem hlt
            rw [hn] at e1
            injection e1 with e1
            rw [← e1, List.drop_eq_nil_of_le (by omega)]
          rw [e] at hd
          obtain ⟨u', us', e2, h3, h4⟩ := hd
          rw [e2]
          exact ⟨u', us', rfl, h3, h4⟩
        refine ⟨us, rfl, ?_⟩
        have := h1.append h2
        rwa [List.take_append_drop] at this
      · cases h
    · cases h
  | aggI k n =>
    intro v u x a h hb hr
    simp only [fit] at h
    split at h
    · rename_i cs
      split at h
      · rename_i xs hxs
        rw [Option.ite_none_right_eq_some] at h
        obtain ⟨_, h⟩ := h
        cases h
        have := intsOf_map hxs
        subst this
        obtain ⟨us, rfl, hl⟩ := hr
        have hc : ∀ y : List Int, lacksL (fun _ => true) (y.map fun n => AV.sc (.int k n)) = true := by
          intro y
          induction y with
          | nil => rfl
          | cons y r ih => simpa [lacksL, lacks] using ih
        exact ⟨us, rfl, RepL.kap (N := fun _ => true) (fun _ h => by cases h) _ _ (hc x) (RepL.mono hx _ _ hl)⟩
      · cases h
    · cases h
  | ifc T s ih =>
    intro v u x a h hb hr
    simp only [fit] at h
    split at h
    · rw [Option.ite_none_right_eq_some] at h
      obtain ⟨rfl, h⟩ := h
      obtain ⟨u', rfl, hv⟩ := hr
      exact ⟨u', rfl, ih _ u' x a h hb hv⟩
    · cases h

theorem fitL_rep (hm : Mem glob M0 B0 w0 w κ objs) (hM : ∀ b, M0 b → b < w.heap.size) {b : Bnd} : ∀ (l : List Sh) (vs : List AV) (us : List Value) (x : El (tyL l)) (a : Bnd), fitL objs l vs = some (x, a) → a.le b → RepL w (okB M0 κ objs) κ vs us →
    RepL w (okB M0 κ (freezeAll objs b.fz)) (b.kap κ) (mkL l x) us
  | [], [], us, x, a, h, hb, hr => hr
  | [], _ :: _, us, x, a, h, hb, hr => by simp [fitL] at h
  | s :: l, [], us, x, a, h, hb, hr => by simp [fitL] at h
  | s :: l, v :: vs, us, x, a, h, hb, hr => by
    simp only [fitL] at h
    split at h
    · rename_i y a1 z a2 h1 h2
      cases h
      obtain ⟨u, us', rfl, h3, h4⟩ := hr
      refine ⟨u, us', rfl, ?_, ?_⟩
      · rw [fst_mk]; exact fit_rep hm hM s v u y a1 h1 (Bnd.le_left hb) h3
      · rw [snd_mk]; exact fitL_rep hm hM l vs us' z a2 h2 (Bnd.le_right hb) h4
    · cases h

theorem Bnd.good_spec {b : Bnd} (h : b.good = true) : (∀ p ∈ b.m, assoc b.m p.1 = some p.2) ∧ (∀ p ∈ b.m, ∀ q ∈ b.m, p.2 = q.2 → p.1 = q.1) ∧ (∀ p ∈ b.m, p.2 ∉ b.fz) ∧ (∀ p ∈ b.m, p.1 ∉ b.nils) ∧ b.nils.Nodup := by
  unfold Bnd.good at h
  simp only [Bool.and_eq_true, List.all_eq_true, decide_eq_true_eq, beq_iff_eq, Bool.not_eq_true', Bool.or_eq_true, bne_iff_ne, ne_eq] at h
  obtain ⟨h1, h2⟩ := h
  refine ⟨fun p hp => (h1 p hp).1.1.1, fun p hp q hq he => ?_, fun p hp => ?_, fun p hp => ?_, h2⟩
  · rcases (h1 p hp).1.1.2 q hq with h | h
    · exact absurd he h
    · exact h
  · have := (h1 p hp).1.2
    simpa using this
  · have := (h1 p hp).2
    simpa using this
theorem Bnd.good_le {b : Bnd} (h : b.good = true) : b.le b := by
  obtain ⟨h1, h2, h3, h4, h5⟩ := Bnd.good_spec h
  refine ⟨h1, fun i hi => ?_, fun _ h => h⟩
  cases hx : assoc b.m i with
  | none => rfl
  | some j => exact absurd hi (h4 _ (assoc_mem hx))

theorem fitO1_rep (hm : Mem glob M0 B0 w0 w κ objs) (hM : ∀ b, M0 b → b < w.heap.size) {b : Bnd} {s : OSh} {o : AObj} {i j : Nat} {x : El s.ty} {a : Bnd} (h : fitO1 objs s o = some (x, a)) (hb : a.le b) (ho : assoc objs j = some o) (hk : b.kap κ i = κ j) :
    ObjR w (okB M0 κ (freezeAll objs b.fz)) (b.kap κ) i (s.mk x) ∧ (mutO (s.mk x) = true → mutO o = true) := by
  have hx := (hm.freezeAll hM b.fz).1.ext
  have hr := hm.each j o ho
  cases s with
  | var T cs =>
    simp only [fitO1] at h
    split at h
    · rename_i T' vs
      rw [Option.ite_none_right_eq_some] at h
      obtain ⟨rfl, h⟩ := h
      obtain ⟨blk, us, e1, e2, e3, e4⟩ := hr
      exact ⟨⟨blk, us, hk.trans e1, e2, fitL_rep hm hM cs vs us x a h hb e3, e4⟩, fun _ => rfl⟩
    · cases h
  | vagg T t =>
    simp only [fitO1] at h
    split at h
    · rename_i T' vs
      rw [Option.ite_none_right_eq_some] at h
      obtain ⟨rfl, h⟩ := h
      split at h
      · rename_i y hy
        cases h
        obtain ⟨blk, us, e1, e2, e3, e4⟩ := hr
        exact ⟨⟨blk, us, hk.trans e1, e2, embC_rep (unembC_rep hy (settleL_fit hm hM vs us (fun i hi => hb.fz i hi) e3)), e4⟩, fun _ => rfl⟩
      · cases h
    · cases h
  | arr e t =>
    simp only [fitO1] at h
    split at h
    · rename_i e' t' xs
      split at h
      · rename_i ht
        subst ht
        rw [Option.ite_none_right_eq_some] at h
        obtain ⟨rfl, h⟩ := h
        cases h
        obtain ⟨cells, e1, e2, e3, e4⟩ := hr
        exact ⟨⟨cells, by rw [hk]; exact e1, e2, e3, fun j x hj => (e4 j x hj).mono hx⟩, fun _ => rfl⟩
      · cases h
    · cases h
  | fz t =>
    simp only [fitO1] at h
    split at h
    · rename_i t' xs
      split at h
      · rename_i ht
        subst ht
        cases h
        have hr' : RepS w (okB M0 κ objs) t' xs (κ j) := hr
        have : RepS w (okB M0 κ (freezeAll objs b.fz)) t' xs (b.kap κ i) := by rw [hk]; exact hr'.mono hx
        exact ⟨this, fun h => by cases h⟩
      · cases h
    · cases h
  | iter =>
    simp only [fitO1] at h
    split at h
    · rename_i s pos
      cases h
      obtain ⟨blk, e1, e2, e3⟩ := hr
      exact ⟨⟨blk, hk.trans e1, e2, e3⟩, fun _ => rfl⟩
    · cases h
  | lp key cs =>
    simp only [fitO1] at h
    split at h
    · rename_i key' vs
      rw [Option.ite_none_right_eq_some] at h
      obtain ⟨rfl, h⟩ := h
      obtain ⟨blk, r, y, h1, h2, h3, h4, h5, h6, h7, h8, h9, h10, h11⟩ := hr
      exact ⟨⟨blk, r, y, hk.trans h1, h2, h3, h4, h5, h6, h7, h8, h9, h10, fitL_rep hm hM cs vs _ x a h hb h11⟩, fun _ => rfl⟩
    · cases h
  | gone => exact ⟨trivial, fun h => by cases h⟩

theorem fitO_rep (hm : Mem glob M0 B0 w0 w κ objs) (hM : ∀ b, M0 b → b < w.heap.size) {F : Bnd} : ∀ (l : List (Nat × OSh)) (b : Bnd) (y : El (tyO l)) (c : Bnd), fitO objs l b = some (y, c) → c.le F →
    b.le F ∧ ∀ i o, (i, o) ∈ mkO l y → ObjR w (okB M0 κ (freezeAll objs F.fz)) (F.kap κ) i o ∧ (mutO o = true → (∃ j oj, assoc F.m i = some j ∧ assoc objs j = some oj ∧ mutO oj = true) ∨ F.kap κ i = .slice none 0 0)
  | [], b, y, c, h, hc => by
    simp only [fitO, Option.some.injEq, Prod.mk.injEq] at h
    obtain ⟨_, rfl⟩ := h
    exact ⟨hc, fun i o h => by simp [mkO] at h⟩
  | (i, s) :: l, b, y, c, h, hc => by
    simp only [fitO] at h
    split at h
    · rename_i j hj
      split at h
      · rename_i o ho
        split at h
        · rename_i x a h1
          split at h
          · rename_i z c' h2
            cases h
            obtain ⟨hab, hrest⟩ := fitO_rep hm hM l (b.app a) z c h2 hc
            have hbF := Bnd.le_left hab
            have hkj : assoc F.m i = some j := hbF.m (i, j) (assoc_mem hj)
            refine ⟨hbF, fun k p hp => ?_⟩
            simp only [mkO, fst_mk, snd_mk, List.mem_cons, Prod.mk.injEq] at hp
            rcases hp with ⟨rfl, rfl⟩ | hp
            · have := fitO1_rep (i := k) hm hM h1 (Bnd.le_right hab) ho (by simp only [Bnd.kap, hkj])
              exact ⟨this.1, fun hmu => .inl ⟨j, o, hkj, ho, this.2 hmu⟩⟩
            · exact hrest k p hp
          · cases h
        · cases h
      · cases h
    · rename_i hj
      split at h
      · rename_i x hx
        split at h
        · rename_i z c' h2
          cases h
          obtain ⟨hbF, hrest⟩ := fitO_rep hm hM l b z c h2 hc
          refine ⟨hbF, fun k p hp => ?_⟩
          simp only [mkO, fst_mk, snd_mk, List.mem_cons, Prod.mk.injEq] at hp
          rcases hp with ⟨rfl, rfl⟩ | hp
          · cases s with
            | arr e t =>
              simp only [noneO] at hx
              rw [Option.ite_none_right_eq_some] at hx
              obtain ⟨hni, hx⟩ := hx
              cases hx
              have hk : F.kap κ k = .slice none 0 0 := by
                have := hbF.nils k (by simpa using hni)
                simp only [Bnd.kap, this]
              refine ⟨⟨[], ?_, by simp, by simp, fun j x hj => by simp at hj⟩, fun _ => .inr hk⟩
              rw [hk]
              exact ⟨by simp, .inl ⟨rfl, rfl⟩⟩
            | gone => exact ⟨trivial, fun h => by cases h⟩
            | _ => simp [noneO] at hx
          · exact hrest k p hp
        · cases h
      · cases h

/-- A state that was read against shapes. -/
structure Fitted (w : World) (M0 : Nat → Prop) (κ : Nat → Value) (objs : List (Nat × AObj)) (b : Bnd) (shs : List Sh) (os : List (Nat × OSh)) (x : El (cns (tyL shs) (tyO os))) (us : List Value) : Prop where
  vals : RepL w (okB M0 κ (freezeAll objs b.fz)) (b.kap κ) (mkL shs (fst' x)) us
  each : ∀ i o, assoc (mkO os (snd' x)) i = some o → ObjR w (okB M0 κ (freezeAll objs b.fz)) (b.kap κ) i o
  muts : ∀ i o, assoc (mkO os (snd' x)) i = some o → mutO o = true → (∃ j oj, assoc b.m i = some j ∧ assoc (freezeAll objs b.fz) j = some oj ∧ mutO oj = true) ∨ b.kap κ i = .slice none 0 0

theorem fitAll_fitted (hm : Mem glob M0 B0 w0 w κ objs) (hM : ∀ b, M0 b → b < w.heap.size) {b0 b : Bnd} {shs : List Sh} {os : List (Nat × OSh)} {vs : List AV} {us : List Value} {x : El (cns (tyL shs) (tyO os))} (h : fitAll b0 shs os vs objs = some (x, b))
    (hr : RepL w (okB M0 κ objs) κ vs us) : b.good = true ∧ b0.le b ∧ Fitted w M0 κ objs b shs os x us := by
  unfold fitAll at h
  split at h
  · rename_i y a h1
    split at h
    · rename_i z c h2
      rw [Option.ite_none_right_eq_some] at h
      obtain ⟨hg, h⟩ := h
      cases h
      have hgl := Bnd.good_le hg
      obtain ⟨hba, hobj⟩ := fitO_rep (F := b) hm hM os (b0.app a) z b h2 hgl
      refine ⟨hg, Bnd.le_left hba, ⟨?_, fun i o ho => ?_, fun i o ho hmu => ?_⟩⟩
      · rw [fst_mk]; exact fitL_rep hm hM shs vs us y a h1 (Bnd.le_right hba) hr
      · rw [snd_mk] at ho; exact (hobj i o (assoc_mem ho)).1
      · rw [snd_mk] at ho
        rcases (hobj i o (assoc_mem ho)).2 hmu with ⟨j, oj, h3, h4, h5⟩ | h3
        · refine .inl ⟨j, oj, h3, ?_, h5⟩
          rw [freezeAll_out ((Bnd.good_spec hg).2.2.1 _ (assoc_mem h3))]
          exact h4
        · exact .inr h3
    · cases h
  · cases h

theorem Fitted.live {b : Bnd} {shs : List Sh} {os : List (Nat × OSh)} {x : El (cns (tyL shs) (tyO os))} {us : List Value} (hf : Fitted w M0 κ objs b shs os x us) {k : Nat} (h : live (b.kap κ) (mkO os (snd' x)) k) : live κ (freezeAll objs b.fz) k := by
  obtain ⟨i, o, h1, h2, h3⟩ := h
  rcases hf.muts i o h1 h2 with ⟨j, oj, e1, e2, e3⟩ | e
  · refine ⟨j, oj, e2, e3, ?_⟩
    simpa only [Bnd.kap, e1] using h3
  · rw [e] at h3; cases h3

theorem Fitted.sep (hm : Mem glob M0 B0 w0 w κ objs) (hM : ∀ b, M0 b → b < w.heap.size) {b : Bnd} (hg : b.good = true) {shs : List Sh} {os : List (Nat × OSh)} {x : El (cns (tyL shs) (tyO os))} {us : List Value} (hf : Fitted w M0 κ objs b shs os x us)
    (i j : Nat) (o p : AObj) (k : Nat) (hi : assoc (mkO os (snd' x)) i = some o) (hj : assoc (mkO os (snd' x)) j = some p) (h1 : mutO o = true) (h2 : mutO p = true) (h3 : blkOf (b.kap κ i) = some k) (h4 : blkOf (b.kap κ j) = some k) : i = j := by
  obtain ⟨_, m1⟩ := hm.freezeAll hM b.fz
  rcases hf.muts i o hi h1 with ⟨i', oi, e1, e2, e3⟩ | e
  · rcases hf.muts j p hj h2 with ⟨j', oj, f1, f2, f3⟩ | f
    · have h3' : blkOf (κ i') = some k := by simpa only [Bnd.kap, e1] using h3
      have h4' : blkOf (κ j') = some k := by simpa only [Bnd.kap, f1] using h4
      have := m1.sep i' j' oi oj k e2 f2 e3 f3 h3' h4'
      exact (Bnd.good_spec hg).2.1 (i, i') (assoc_mem e1) (j, j') (assoc_mem f1) this
    · rw [f] at h4; cases h4
  · rw [e] at h3; cases h3

/-- The memory of a state that was read against shapes: what is not in it is let go. -/
theorem Fitted.mem (hm : Mem glob M0 B0 w0 w κ objs) (hM : ∀ b, M0 b → b < w.heap.size) (hgl : ∀ g v, assoc glob g = some v → lacks (fun _ => true) v = true) {b : Bnd} (hg : b.good = true) {shs : List Sh} {os : List (Nat × OSh)} {x : El (cns (tyL shs) (tyO os))} {us : List Value}
    (hf : Fitted w M0 κ objs b shs os x us) : Mem glob M0 B0 w0 w (b.kap κ) (mkO os (snd' x)) ∧ Ext w w (okB M0 κ (freezeAll objs b.fz)) (okB M0 (b.kap κ) (mkO os (snd' x))) := by
  obtain ⟨_, m1⟩ := hm.freezeAll hM b.fz
  have hx : Ext w w (okB M0 κ (freezeAll objs b.fz)) (okB M0 (b.kap κ) (mkO os (snd' x))) := ⟨fun _ _ _ => rfl, fun k hk _ => ⟨hk.1, fun hl => hk.2 (hf.live hl)⟩⟩
  refine ⟨⟨fun i o ho => ?_, fun i j o p k => hf.sep hm hM hg i j o p k, fun k hk => m1.off k (hf.live hk), m1.keep, fun g v hgv => ?_⟩, hx⟩
  · exact ObjR.mono (N := fun _ => false) hx (fun _ _ => rfl) rfl (lacksOF o) (fun _ _ _ => rfl) (hf.each i o ho)
  · exact RepV.kap (N := fun _ => true) (fun _ h => by cases h) v _ (hgl g v hgv) (RepV.mono hx v _ (m1.glob g v hgv))
end
end Go.AM
