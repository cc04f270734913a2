/-
  The abstract machine, a part.
-/
import Derived.Test.YtcihhhkmekdbnaaGreatDoorMDraw4
/-
  The abstract machine, part 27: the tree of a region that draws its order is its walk.
-/
namespace Go.AM
open Go RowKit
section
variable {P : Program} {Z : Type} {D : DEnv Z} {M0 B0 : Nat → Prop} {w0 w w' : World} {κ0 κ κ' : Nat → Value} {Out : Z → Ending → World → Prop} {st st2 : ASt} {a : Act} {ops : Array Oper} {A : List Nat} {n0 : Nat} {ro : Option Nat} {n : Nat}

theorem Trace.snoc {st0 : ASt} {e : Ent} : ∀ (E pre : List Ent), Trace D ops A n0 st0 pre E → Did D ops A n0 (app st0 (pre ++ E)) (pre ++ E) e → Trace D ops A n0 st0 pre (E ++ [e])
  | [], pre, _, h => ⟨by simpa using h, trivial⟩
  | y :: E, pre, hT, h => ⟨hT.1, Trace.snoc E _ hT.2 (by simpa [List.append_assoc] using h)⟩

theorem fitAll_eqv {b0 : Bnd} {shs : List Sh} {os : List (Nat × OSh)} {vs : List AV} {ob ob' : List (Nat × AObj)} (h : ∀ i, assoc ob' i = assoc ob i) : fitAll b0 shs os vs ob' = fitAll b0 shs os vs ob := by
  cases hx : fitAll b0 shs os vs ob with
  | some p => obtain ⟨x, b⟩ := p; exact fitAll_congr hx (fun p _ => (h p.2).symm) (fun i _ => (h i).symm)
  | none =>
    cases hy : fitAll b0 shs os vs ob' with
    | none => rfl
    | some p =>
      obtain ⟨x, b⟩ := p
      have := fitAll_congr (ob' := ob) hy (fun p _ => h p.2) (fun i _ => h i)
      rw [hx] at this; cases this
theorem tchOf_eqv {o : Oper} (h : Eqv st st2) : tchOf D o st2 = tchOf D o st := by
  unfold tchOf
  rw [vals_congr (ops := #[]) (o := o) (g := D.glob) (fun t _ => h.slots t)]
  simp only [fitAll_eqv h.objs]

theorem putO_ws (objs ws : List (Nat × AObj)) : ((putObjs objs ws).take ((putObjs objs ws).length - objs.length)).reverse = ws := by
  unfold putObjs
  rw [List.length_append, Nat.add_sub_cancel, List.take_left, List.reverse_reverse]

theorem lookOf_eqv {o : Oper} (h : Eqv st st2) : lookOf D o st2 = lookOf D o st := by
  unfold lookOf
  rw [vals_congr (ops := #[]) (o := o) (g := D.glob) (fun t _ => h.slots t)]
  simp only [h.objs]
theorem guardL_spec {ap : Bool} {l : Option Look} {w : Ent} {t : Tr Z} {z : Z} (h : (guardL ap l w t).eval = some z) : t.eval = some z ∧ (ap = true ∨ Kept l w) := by
  unfold guardL at h
  split at h
  · exact ⟨h, .inl rfl⟩
  · split at h
    · rename_i lk
      split at h
      · rename_i hany
        by_cases hk : holdsP (keepW lk (w.ws ++ w.old)) = true
        · have h' : t.eval = some z := by simpa [Tr.eval, hk] using h
          refine ⟨h', .inr ⟨lk, rfl, ?_, keepW_mem (holdsP_iff.1 hk)⟩⟩
          obtain ⟨p, hp, he⟩ := List.any_eq_true.1 hany
          obtain ⟨i, o⟩ := p
          have he' : i = lk.id := by simpa using he
          exact ⟨o, he' ▸ hp⟩
        · have hk' : holdsP (keepW lk (w.ws ++ w.old)) = false := by simpa using hk
          simp [Tr.eval, hk'] at h
      · cases h
    · cases h
theorem guardP_spec {a b : Ent} {t : Tr Z} {z : Z} (h : (guardP A a b t).eval = some z) : t.eval = some z ∧ (isAnc A a.i b.i = true ∨ ((apartIds (a.ws.map (·.1)) b.tch = true ∨ Kept b.look a) ∧ (apartIds (b.ws.map (·.1)) a.tch = true ∨ Kept a.look b))) := by
  unfold guardP at h
  split at h
  · rename_i hx; exact ⟨h, .inl hx⟩
  · obtain ⟨h1, h2⟩ := guardL_spec h
    obtain ⟨h3, h4⟩ := guardL_spec h1
    exact ⟨h3, .inr ⟨h4, h2⟩⟩
theorem guards_spec {e : Ent} {t : Tr Z} {z : Z} : ∀ {l : List Ent}, (guards A l e t).eval = some z → t.eval = some z ∧ ∀ a ∈ l, isAnc A a.i e.i = true ∨ ((apartIds (a.ws.map (·.1)) e.tch = true ∨ Kept e.look a) ∧ (apartIds (e.ws.map (·.1)) a.tch = true ∨ Kept a.look e))
  | [], h => ⟨h, fun a ha => by cases ha⟩
  | a :: l, h => by
    obtain ⟨h1, h2⟩ := guardP_spec h
    obtain ⟨h3, h4⟩ := guards_spec h1
    refine ⟨h3, fun b hb => ?_⟩
    rcases List.mem_cons.1 hb with rfl | hb
    · exact h2
    · exact h4 b hb
theorem pairS_of {x e : Ent} (h : pairO ops A n0 x e = true) (g : isAnc A x.i e.i = true ∨ ((apartIds (x.ws.map (·.1)) e.tch = true ∨ Kept e.look x) ∧ (apartIds (e.ws.map (·.1)) x.tch = true ∨ Kept x.look e))) : PairS ops A n0 x e := by
  unfold pairO apartIds at h
  simp only [Bool.and_eq_true, Bool.or_eq_true, List.all_eq_true, Bool.not_eq_true', List.contains_eq_mem, decide_eq_false_iff_not] at h
  obtain ⟨h1, h2⟩ := h
  have hap : ∀ l r : List Nat, apartIds l r = true → ∀ i ∈ l, i ∉ r := fun l r h i hi => by
    have := List.all_eq_true.1 h i hi
    simpa using this
  refine ⟨h1, ?_⟩
  rcases h2 with h2 | ⟨⟨h3, h4⟩, h5⟩
  · exact .inl h2
  · rcases g with g | ⟨g1, g2⟩
    · exact .inl g
    · exact .inr ⟨h3, h4, h5, g1.imp (hap _ _) id, g2.imp (hap _ _) id⟩
theorem oldOf_spec {objs ws : List (Nat × AObj)} {k : Nat} {ob : AObj} (h : (k, ob) ∈ oldOf objs ws) : assoc objs k = some ob := by
  unfold oldOf at h
  obtain ⟨p, _, hp⟩ := List.mem_filterMap.1 h
  cases hx : assoc objs p.1 with
  | none => rw [hx] at hp; cases hp
  | some o => rw [hx] at hp; cases hp; exact hx

theorem runD_eval {st0 : ASt} {K : ASt → Tr Z} {z : Z} : ∀ (r : List Nat) (st : ASt) (log : List Ent), (runD D ops A st0.nxt r st log K).eval = some z → Eqv (app st0 log.reverse) st → st.nxt = st0.nxt → Trace D ops A st0.nxt st0 [] log.reverse →
    ∃ E2 rest, r = E2.map (·.i) ++ rest ∧ Trace D ops A st0.nxt st0 [] (log.reverse ++ E2) ∧ (rest = [] → ∃ st', Eqv (app st0 (log.reverse ++ E2)) st' ∧ (K st').eval = some z) ∧
      ∀ i r', rest = i :: r' → Stop D ops A st0.nxt z (app st0 (log.reverse ++ E2)) (log.reverse ++ E2) i r'
  | [], st, log, h, he, hn, hT => ⟨[], [], rfl, by simpa using hT, fun _ => ⟨_, by simpa using (⟨he.slots, he.dfs, he.objs⟩ : Eqv (app st0 log.reverse) { st with nxt := st.nxt + 16 * ops.size }), h⟩, fun i r' hr => by cases hr⟩
  | i :: r, st, log, h, he, hn, hT => by
    simp only [runD] at h
    split at h
    · rename_i o ho
      obtain ⟨q, h1, h2⟩ := stepT_eval h
      have h1' : stepE D ops o (st0.nxt + 16 * i) st = some q := h1
      have h1'' : stepE D ops o (st0.nxt + 16 * i) (app st0 log.reverse) = some q := stepE_congr (he.symm.agree ops o) h1'
      cases q with
      | error v =>
        have h2' : (if (log.all fun a => pairOK ops A st0.nxt a ⟨i, o, .junk, [], tchOf D o st, [], none⟩) && (r.all fun j => isAnc A i j) then D.panK v else .fail : Tr Z).eval = some z := h2
        split at h2'
        · rename_i hc
          simp only [Bool.and_eq_true, List.all_eq_true] at hc
          refine ⟨[], i :: r, rfl, by simpa using hT, (fun hh => by cases hh), fun i' r' hh => ?_⟩
          cases hh
          rw [List.append_nil]
          exact ⟨⟨o, v, ho, h1'', h2', fun x hx => by rw [← tchOf_eqv (D := D) (o := o) he]; exact hc.1 x (List.mem_reverse.1 hx)⟩, hc.2⟩
        · cases h2'
      | ok p =>
        obtain ⟨v, ws⟩ := p
        obtain ⟨st', g1, g2, g3, g4, _, g5⟩ := h2
        simp only at g5
        split at g5
        · rename_i hc
          simp only [List.all_eq_true] at hc
          obtain ⟨g5, hgd⟩ := guards_spec g5
          have hws : (entOf i o (tchOf D o st) (lookOf D o st) st st').ws = ws := by
            show ((st'.objs.take (st'.objs.length - st.objs.length)).reverse) = ws
            rw [g3]; exact putO_ws _ _
          have hup : ∀ s' : ASt, s'.upd o.dst v ws = s'.upd o.dst (entOf i o (tchOf D o st) (lookOf D o st) st st').val ws := by
            intro s'
            cases hd : o.dst with
            | none => rfl
            | some d =>
              have : (entOf i o (tchOf D o st) (lookOf D o st) st st').val = v := by
                show (match o.dst with
                  | some d => (assoc st'.slots d).getD .junk
                  | none => .junk) = v
                rw [hd]; simp only; rw [g4 d hd]; rfl
              rw [this]
          have hdid : Did D ops A st0.nxt (app st0 log.reverse) log.reverse (entOf i o (tchOf D o st) (lookOf D o st) st st') := by
            refine ⟨ho, ⟨v, ?_, ?_⟩, ?_, fun x hx => pairS_of (hc x (List.mem_reverse.1 hx)) (hgd x (List.mem_reverse.1 hx)), lookOf_eqv (D := D) (o := o) he, fun k ob hko => ?_⟩
            · rw [hws]; exact h1''
            · rw [hws]; exact hup
            · exact (tchOf_eqv (D := D) (o := o) he).symm
            · rw [← he.objs k]; exact oldOf_spec hko
          have hrev : (entOf i o (tchOf D o st) (lookOf D o st) st st' :: log).reverse = log.reverse ++ [entOf i o (tchOf D o st) (lookOf D o st) st st'] := List.reverse_cons
          have he' : Eqv (app st0 (entOf i o (tchOf D o st) (lookOf D o st) st st' :: log).reverse) st' := by
            rw [hrev, app_append]
            refine Eqv.trans ?_ g1
            rw [hup]
            have : app (app st0 log.reverse) [entOf i o (tchOf D o st) (lookOf D o st) st st'] = (app st0 log.reverse).upd o.dst (entOf i o (tchOf D o st) (lookOf D o st) st st').val (entOf i o (tchOf D o st) (lookOf D o st) st st').ws := rfl
            rw [this, hws]
            exact he.upd _ _ _
          obtain ⟨E2, rest, k1, k2, k3, k4⟩ := runD_eval r st' _ g5 he' (g2.trans hn) (by rw [hrev]; exact Trace.snoc _ _ hT (by simpa using hdid))
          rw [hrev, List.append_assoc] at k2 k3 k4
          exact ⟨entOf i o (tchOf D o st) (lookOf D o st) st st' :: E2, rest, by rw [k1]; rfl, k2, k3, k4⟩
        · cases g5
    · cases h

theorem drew_next (w : World) (objs : List (Nat × AObj)) : Next M0 (fun _ => false) κ κ objs objs w { w with drawn := w.drawn + 1 } :=
  ⟨fun _ _ => rfl, fun _ _ _ => rfl, fun _ h => .inl h, rfl, rfl, rfl, Nat.le_refl _⟩
theorem RR.drew (hr : RD D M0 B0 w0 κ0 st κ a w) : RD D M0 B0 w0 κ0 st κ a { w with drawn := w.drawn + 1 } := by
  have hm : Mem D.glob M0 B0 w0 { w with drawn := w.drawn + 1 } κ st.objs := by
    refine hr.mem.next (drew_next w st.objs) hr.M (fun i o ho => .inl ⟨ho, rfl, lacksOF o, fun _ _ _ => rfl⟩) hr.mem.sep (fun g v _ => lacksF v)
  exact ⟨⟨hm, fun i v hi => RepV.mono (drew_next w st.objs : Next M0 _ κ κ _ _ _ _).ext _ _ (hr.slots i v hi), DfR.next (drew_next w st.objs : Next M0 _ κ κ _ _ _ _).ext (fun _ _ => rfl) st.dfs a.defers (fun d _ => lacksDF d) hr.defers, hr.size, hr.old⟩, hr.par⟩

mutual
theorem lacks_sub {N N' : Nat → Bool} (h : ∀ i, N' i = true → N i = true) : ∀ v, lacks N v = true → lacks N' v = true
  | .sc _, _ => rfl
  | .gd _ v, hl => lacks_sub h v hl
  | .sl _ _, _ => rfl
  | .agg cs, hl => lacksL_sub h cs hl
  | .tup cs, hl => lacksL_sub h cs hl
  | .ptr id _, hl => not_sub h id hl
  | .pp _ _ _, _ => rfl
  | .pr _ _, _ => rfl
  | .af id, hl => not_sub h id hl
  | .as_ id _ _ _, hl => not_sub h id hl
  | .ap id _ _ _, hl => not_sub h id hl
  | .fn _ cap, hl => lacksL_sub h cap hl
  | .ifc _ v, hl => lacks_sub h v hl
  | .junk, _ => rfl
theorem lacksL_sub {N N' : Nat → Bool} (h : ∀ i, N' i = true → N i = true) : ∀ cs, lacksL N cs = true → lacksL N' cs = true
  | [], _ => rfl
  | c :: cs, hl => by
    simp only [lacksL, Bool.and_eq_true] at hl ⊢
    exact ⟨lacks_sub h c hl.1, lacksL_sub h cs hl.2⟩
theorem not_sub {N N' : Nat → Bool} (h : ∀ i, N' i = true → N i = true) (i : Nat) (hl : (!N i) = true) : (!N' i) = true := by
  cases hx : N' i with
  | false => rfl
  | true => rw [h i hx] at hl; cases hl
end
theorem lacksO_sub {N N' : Nat → Bool} (h : ∀ i, N' i = true → N i = true) (o : AObj) (hl : lacksO N o = true) : lacksO N' o = true := by
  cases o with
  | var t cs => exact lacksL_sub h cs hl
  | lp _ _ cs => exact lacksL_sub h cs hl
  | _ => rfl

theorem lacksD_sub {N N' : Nat → Bool} (h : ∀ i, N' i = true → N i = true) (d : ADf) (hl : lacksD N d = true) : lacksD N' d = true := by
  cases d with
  | mark id => exact not_sub h id hl
  | fn f cap => exact lacksL_sub h cap hl

/-- A region that draws its order, in every order. -/
theorem draw_any (T : Told P D M0 B0 w0 κ0 Out) {id : Nat} {K : ASt → Tr Z} {z : Z} {N : Act → World → Prop} (h : (drawT D id ops st K).eval = some z) (hr : RD D M0 B0 w0 κ0 st κ a w)
    (hk : ∀ st κ a w, RD D M0 B0 w0 κ0 st κ a w → (K st).eval = some z → N a w) : wpAnyIn (FW ro) n P .any ops (PQ Out z N) ops.size (Array.replicate ops.size false) a { w with drawn := w.drawn + 1 } := by
  unfold drawT at h
  split at h
  rotate_left
  · cases h
  rename_i hc
  simp only [Bool.and_eq_true] at hc
  obtain ⟨E, rest, h1, h2, h3, h4⟩ := runD_eval (st0 := st) (orderOf D id ops) st [] h (.refl _) rfl trivial
  simp only [List.reverse_nil, List.nil_append] at h2 h3 h4
  have hf0 : ∀ i, i < ops.size → Fresh (newIds (st.nxt + 16 * i)) D.glob st := by
    intro i hi
    obtain ⟨⟨g1, g2, g3⟩, g4, g5⟩ := fresh_lack hc.2
    have sub : ∀ j, newIds (st.nxt + 16 * i) j = true → (decide (st.nxt ≤ j) && decide (j < st.nxt + 16 * ops.size)) = true := by
      intro j hj
      simp only [newIds, Bool.and_eq_true, decide_eq_true_eq] at hj ⊢
      omega
    refine ⟨⟨fun i o ho => ?_, fun i o ho => lacksO_sub sub o (g2 i o ho), fun g v hg => lacks_sub sub v (g3 g v hg)⟩, fun i v hi => lacks_sub sub v (g4 i v hi), fun d hd => lacksD_sub sub d (g5 d hd)⟩
    have := g1 i o ho
    cases hx : newIds (st.nxt + 16 * _) i with
    | false => rfl
    | true => have h5 := sub _ hx; rw [this] at h5; cases h5
  have hN : rest = [] → ∀ κ a w, RD D M0 B0 w0 κ0 (app st E) κ a w → N a w := by
    intro hrest κ a w hr
    obtain ⟨st', g1, g2⟩ := h3 hrest
    exact hk st' κ a w (hr.eqv g1) g2
  have hrep : ∀ i, (Array.replicate ops.size false).getD i false = false := by
    intro i
    by_cases hi : i < ops.size <;> simp [Array.getD, hi]
  refine wpAny_log T h2 (by rw [← h1]; exact hc.1) hf0 h4 hN ops.size _ a _ (by simp) ?_ (fun i o hi => by rw [hrep] at hi; cases hi) (fun i hi => by rw [hrep] at hi; cases hi) ⟨κ, ?_⟩
  · refine Nat.le_trans (List.length_filter_le _ _) ?_
    obtain ⟨hnd, hlt, _⟩ := ord_spec _ _ (h1 ▸ hc.1 : ordOK ops (E.map (·.i) ++ rest) 0 = true)
    have := List.Nodup.length_le_of_subset hnd (fun i hi => List.mem_range.2 (hlt i hi).2)
    simpa using this
  · have : (E.filter fun e => (Array.replicate ops.size false).getD e.i false) = [] := List.filter_eq_nil_iff.2 (fun e _ => by rw [hrep]; simp)
    rw [this]
    exact hr.drew

/-- A region that draws its order. -/
theorem good_draw (T : Told P D M0 B0 w0 κ0 Out) (hmix : P.follows .mixedOrders = true) {f : FuncId} {fn : Func} (hfn : P.funcs[f]? = some fn) {id : Nat} {k : List Item} {K : ASt → Tr Z} {z : Z} (h : (drawT D id ops st K).eval = some z) (hr : RD D M0 B0 w0 κ0 st κ a w)
    (hk : ∀ st κ a w, RD D M0 B0 w0 κ0 st κ a w → (K st).eval = some z → Good P f (Out z) k a w) : Good P f (Out z) (.code (.region id ops true) :: k) a w := by
  have hany := draw_any (ro := none) (n := 0) T h hr hk
  intro b cs hf hkind hro
  have hops : wpOpsIn (FW none) 0 P ops (PQ Out z (Good P f (Out z) k)) (Region.schedule (P.follows .mixedOrders) ops (w.tape w.drawn (.order b.fn id))) a { w with drawn := w.drawn + 1 } := by
    simp only [Region.schedule, hmix, Bool.true_or, if_true]
    exact wpAnyIn_sound ops.size _ _ a _ hany
  have hstep : step P (lone (b.at a (.code (.region id ops true) :: k)) cs w) = .next (lone (b.at a (.inRegion ops (Region.schedule (P.follows .mixedOrders) ops (w.tape w.drawn (.order b.fn id))) :: k)) cs { w with drawn := w.drawn + 1 }) := step_region_draw
  obtain ⟨e, w2, fr, h1, h2, h3⟩ := good_ops hops (fun _ _ h => h) hfn b cs hf hkind hro
  exact ⟨e, w2, fr, h1, Comes.of_steps (.one hstep) h2, h3⟩
end
end Go.AM
