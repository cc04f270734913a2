/-
  The abstract machine, a part.
-/
import Derived.Test.YtcihhhkmekdbnaaGreatDoorMa
/-
  The abstract machine, part 15: every operation of the machine is the model's.
-/
namespace Go.AM
open Go RowKit
section
variable {P : Program} {Θ : Tab} {glob : List (Nat × AV)} {M0 B0 : Nat → Prop} {w0 w w' : World} {κ : Nat → Value} {objs : List (Nat × AObj)} {ok : Nat → Prop}

theorem gather_sub (objs : List (Nat × AObj)) (ids : List Nat) : Sub (gather objs ids) objs := by
  intro id o h
  unfold gather at h
  rw [List.mem_filterMap] at h
  obtain ⟨i, _, h⟩ := h
  simp only [Option.map_eq_some_iff, Prod.mk.injEq] at h
  obtain ⟨o', h1, rfl, rfl⟩ := h
  exact h1

/-- What an operation comes to. -/
def Carried (P : Program) (glob : List (Nat × AV)) (M0 B0 : Nat → Prop) (w0 : World) (N : Nat → Bool) (κ : Nat → Value) (objs : List (Nat × AObj)) (w : World) (s : Sem _root_.Go.Next) (c : COut) : Prop :=
  ∃ κ' u w', Done glob M0 B0 w0 N κ objs w c κ' u w' ∧ (s.run P w = .ok (.value u) w' ∨ (s.run P w = .ok .skip w' ∧ u = undef))

theorem Carried.of_pure (hm : Mem glob M0 B0 w0 w κ objs) {N : Nat → Bool} {s : Sem Value} {c : COut} (h : Pure1 P w (okB M0 κ objs) κ s c) (hvc : c.vc = true) : Carried P glob M0 B0 w0 N κ objs w (do pure (_root_.Go.Next.value (← s))) c := by
  obtain ⟨vc, dst, rfl, h⟩ := h
  obtain ⟨x, h1, h2⟩ := h hvc
  exact ⟨κ, x, w, done_pure hm h2, .inl (by simp [Sem.run_bind, h1])⟩
theorem Carried.of_run (hm : Mem glob M0 B0 w0 w κ objs) {N : Nat → Bool} {s : Sem Value} {c : COut} (h : ∃ r w' κ', s.run P w = .ok r w' ∧ Done glob M0 B0 w0 N κ objs w c κ' r w') : Carried P glob M0 B0 w0 N κ objs w (do pure (_root_.Go.Next.value (← s))) c := by
  obtain ⟨r, w', κ', h1, h2⟩ := h
  exact ⟨κ', r, w', h2, .inl (by simp [Sem.run_bind, h1])⟩

theorem list1 {α : Type} {f : Operand → α} {x : Operand} : (#[x] : Array Operand).toList.map f = [f x] := rfl
theorem list2 {α : Type} {f : Operand → α} {x y : Operand} : (#[x, y] : Array Operand).toList.map f = [f x, f y] := rfl

theorem pick_pure {c a b : AV} {uc u v : Value} {r : COut} (h : corePick c a b = some r) (hc : RepV w ok κ c uc) (ha : RepV w ok κ a u) (hb : RepV w ok κ b v) : ∃ cb dst, uc = .bool cb ∧ r = ⟨true, dst, []⟩ ∧ RepV w ok κ dst (if cb then u else v) := by
  unfold corePick at h
  split at h
  · rename_i cb x y
    cases h
    obtain ⟨rfl, _⟩ := hc
    obtain ⟨rfl, _⟩ := ha
    obtain ⟨rfl, _⟩ := hb
    refine ⟨cb, _, rfl, rfl, ?_, trivial⟩
    cases cb <;> rfl
  · rename_i cb _
    obtain ⟨rfl, _⟩ := hc
    cases cb
    · cases h; exact ⟨false, _, rfl, rfl, hb⟩
    · cases h; exact ⟨true, _, rfl, rfl, ha⟩
  · cases h

theorem field_pure' (hΘ : TabOK P Θ) {S f : Nat} {cs : List AV} {u : Value} {r : COut} (h : coreField Θ S f cs = some r) (ha : RepV w ok κ (.agg cs) u) : Pure1 P w ok κ (Instr.field S u f) r := by
  unfold coreField at h
  split at h
  · rename_i ti h1
    split at h
    · rename_i fs h2
      split at h
      · rename_i off ft h3
        split at h
        · rename_i tf h4
          exact field_pure hΘ h1 h2 h3 h4 h ha
        · cases h
      · cases h
    · cases h
  · cases h
theorem fieldAddr_pure' (hΘ : TabOK P Θ) {S f : Nat} {a : AV} {u : Value} {r : COut} (h : coreFieldAddr Θ S f a = some r) (ha : RepV w ok κ a u) : Pure1 P w ok κ (Instr.fieldAt S u f) r := by
  unfold coreFieldAddr at h
  split at h
  · rename_i ti h1
    split at h
    · rename_i fs h2
      split at h
      · rename_i off ft h3
        split at h
        · rename_i tf h4
          rw [Option.ite_none_right_eq_some] at h
          exact fieldAddr_pure hΘ h1 h2 h3 h4 h.1 h.2 ha
        · cases h
      · cases h
    · cases h
  · cases h

theorem nil_pure {a : AV} {r : COut} {u : Value} (h : coreNil a = some r) (ha : RepV w ok κ a u) : r = ⟨true, a, []⟩ ∧ ∃ ad, u = .pointer (some ad) := by
  unfold coreNil at h
  split at h
  · cases h; obtain ⟨b, _, rfl⟩ := ha; exact ⟨rfl, _, rfl⟩
  · cases h; obtain ⟨b, o, cs, rfl, _⟩ := ha; exact ⟨rfl, _, rfl⟩
  · cases h; obtain ⟨b, o, rfl, _⟩ := ha; exact ⟨rfl, _, rfl⟩
  · cases h; obtain ⟨b, n, c, _, rfl⟩ := ha; exact ⟨rfl, _, rfl⟩
  · cases h

theorem store_carried (hm : Mem glob M0 B0 w0 w κ objs) (hM : ∀ b, M0 b → b < w.heap.size) (hΘ : TabOK P Θ) {N : Nat → Bool} {T : TypeId} {obs : List (Nat × AObj)} (hs : Sub obs objs) {a v : AV} {ua u : Value} {c : COut}
    (h : coreStore Θ T obs a v = some c) (hvc : c.vc = true) (ha : RepV w (okB M0 κ objs) κ a ua) (hv : RepV w (okB M0 κ objs) κ v u) :
    ∃ w', (Instr.storeAt T ua u).run P w = .ok () w' ∧ Done glob M0 B0 w0 N κ objs w c κ undef w' := by
  unfold coreStore at h
  split at h
  · cases h
  · rename_i ti hti
    rw [Option.ite_none_right_eq_some] at h
    obtain ⟨⟨hl, hc⟩, h⟩ := h
    split at h
    · rename_i id off
      split at h
      · rename_i t cs ho
        rw [Option.ite_none_right_eq_some] at h
        obtain ⟨hf, h⟩ := h
        cases h
        exact storeVar_done (a := .junk) hm hM hΘ hti (hs _ _ (assoc_mem ho)) ha hv rfl hl hc hf
      · cases h
    · rename_i id idx off sz
      split at h
      · rename_i e t xs ho
        rw [Option.ite_none_right_eq_some] at h
        obtain ⟨⟨rfl, hf⟩, h⟩ := h
        split at h
        · rename_i y hy
          cases h
          simp only [decide_eq_true_eq] at hvc
          exact storeAp_done hm hM hΘ hti hs ho ha hv hl hc hf hy hvc
        · cases h
      · cases h
    · cases h

theorem lacks_scs {N : Nat → Bool} (l : List Value) : lacksL N (scs l) = true := by
  induction l with
  | nil => rfl
  | cons v l ih => simpa [scs, lacksL, lacks] using ih

theorem len_ok (hΘ : TabOK P Θ) {obs : List (Nat × AObj)} (hobs : Obs w ok κ obs) {T ty : TypeId} {ti : TI} (h1 : assoc Θ T = some ti) {x : AV} {u : Value} {n : Nat} (hl : lenAV obs x = some n) (htd : ti.td = .str ∨ ∃ e, ti.td = .slice e) (hx : RepV w ok κ x u) (hp : lenOK ti.td x = true) :
    (Builtin.len_ #[T] ty #[u]).run P w = .ok (.int .i64 n) w ∧ IntKind.i64.has n := by
  refine len_pure hΘ hobs h1 hl htd (fun t xs h => ?_) hx (fun h => ?_) (fun e h => ?_)
  · subst h
    rcases htd with h | ⟨e, h⟩ <;> rw [h] at hp <;> simp [lenOK] at hp
  · rw [h] at hp
    cases x with
    | sc v => cases v <;> simp [lenOK] at hp; exact ⟨_, hx.1⟩
    | _ => simp [lenOK] at hp
  · rw [h] at hp
    cases x with
    | sc v => cases v with
      | slice a n c => exact ⟨a, n, c, hx.1⟩
      | _ => simp [lenOK] at hp
    | sl t xs => obtain ⟨a, c, b, o, h, _⟩ := RepS.row hx; exact ⟨_, _, _, h⟩
    | af id => obtain ⟨_, a, n, c, h⟩ := hx; exact ⟨a, n, c, h⟩
    | as_ id lo len sz => obtain ⟨a, n, c, a', c', _, _, _, _, h, _⟩ := hx; exact ⟨_, _, _, h⟩
    | _ => simp [lenOK] at hp

theorem builtin_ok (hm : Mem glob M0 B0 w0 w κ objs) (hM : ∀ b, M0 b → b < w.heap.size) (hΘ : TabOK P Θ) {nid : Nat} (hl : Lack (newIds nid) glob objs) {obs : List (Nat × AObj)} (hs : Sub obs objs) {b : Builtin} {ts : Array TypeId} {ty : TypeId} {cs : Array Bool} {vals : List AV} {us : List Value} {c : COut}
    (h : coreBuiltin Θ b ts.toList nid obs vals = some c) (hvc : c.vc = true) (hv : RepL w (okB M0 κ objs) κ vals us) : Carried P glob M0 B0 w0 (newIds nid) κ objs w (builtin b ts ty cs us.toArray) c := by
  have hobs : Obs w (okB M0 κ objs) κ obs := fun id o ho => hm.each id o (hs _ _ (assoc_mem ho))
  have hN : newIds nid nid = true := by simp [newIds]
  unfold coreBuiltin at h
  split at h
  · rename_i T x hts
    obtain ⟨u, us', rfl, h2, h3⟩ := hv
    have : us' = [] := h3
    subst this
    have ht : ts = #[T] := by
      apply Array.toList_inj.1; exact hts
    subst ht
    split at h
    · rename_i ti hti
      rw [Option.ite_none_right_eq_some] at h
      obtain ⟨hlk, h⟩ := h
      split at h
      · rename_i n h4 h5
        have := len_ok (ty := ty) hΘ hobs hti h5 (.inl h4) h2 hlk
        exact Carried.of_pure (s := Builtin.len_ #[T] ty #[u]) hm (ret_pure h ⟨_, this.1, rfl, this.2⟩) hvc
      · rename_i e n h4 h5
        have := len_ok (ty := ty) hΘ hobs hti h5 (.inr ⟨e, h4⟩) h2 hlk
        exact Carried.of_pure (s := Builtin.len_ #[T] ty #[u]) hm (ret_pure h ⟨_, this.1, rfl, this.2⟩) hvc
      · cases h
    · cases h
  · rename_i T T2 v x hts
    obtain ⟨u, us', rfl, h2, u2, us2, rfl, h3, h4⟩ := hv
    have : us2 = [] := h4
    subst this
    have ht : ts = #[T, T2] := by
      apply Array.toList_inj.1; exact hts
    subst ht
    exact Carried.of_run (s := Builtin.append_ #[T, T2] ty #[u, u2]) hm (append_done hm hM hΘ hN hl hs h h2 h3 hvc)
  · rename_i T T2 k a k' b' hts
    obtain ⟨u, us', rfl, ⟨rfl, h2⟩, u2, us2, rfl, ⟨rfl, h3⟩, h4⟩ := hv
    have : us2 = [] := h4
    subst this
    rw [Option.ite_none_right_eq_some] at h
    obtain ⟨rfl, h⟩ := h
    have hr : (Builtin.min_ ts ty #[.int k a, .int k b']).run P w = .ok (.int k (intMin a b')) w := by
      simp [Builtin.min_, Builtin.min2, intMin]
    refine Carried.of_pure (s := Builtin.min_ ts ty #[.int k a, .int k b']) hm (ret_pure h ⟨_, hr, rfl, ?_⟩) hvc
    have ha : k.has a := h2
    have hb : k.has b' := h3
    unfold intMin
    split
    · exact hb
    · exact ha
  · rename_i T T2 k a k' b' hts
    obtain ⟨u, us', rfl, ⟨rfl, h2⟩, u2, us2, rfl, ⟨rfl, h3⟩, h4⟩ := hv
    have : us2 = [] := h4
    subst this
    rw [Option.ite_none_right_eq_some] at h
    obtain ⟨rfl, h⟩ := h
    have hr : (Builtin.max_ ts ty #[.int k a, .int k b']).run P w = .ok (.int k (intMax a b')) w := by
      simp [Builtin.max_, Builtin.max2, intMax]
    refine Carried.of_pure (s := Builtin.max_ ts ty #[.int k a, .int k b']) hm (ret_pure h ⟨_, hr, rfl, ?_⟩) hvc
    have ha : k.has a := h2
    have hb : k.has b' := h3
    unfold intMax
    split
    · exact hb
    · exact ha
  · cases h

theorem parts_map {α : Type} (ps : Array (Nat × Operand)) (ρ : Operand → α) : (ps.toList.map (·.2)).toArray.toList.map ρ = ps.toList.map fun p => ρ p.2 := by simp [Function.comp_def]
theorem convert_ok (hm : Mem glob M0 B0 w0 w κ objs) (hM : ∀ b, M0 b → b < w.heap.size) (hΘ : TabOK P Θ) {N : Nat → Bool} {src dst' : TypeId} {obs : List (Nat × AObj)} (hobs : Obs w (okB M0 κ objs) κ obs) {v : AV} {u : Value} {c : COut}
    (h : coreConvert Θ src dst' obs v = some c) (hvc : c.vc = true) (hx : RepV w (okB M0 κ objs) κ v u) : Carried P glob M0 B0 w0 N κ objs w (do pure (_root_.Go.Next.value (← convert src dst' u))) c := by
  by_cases hno : ∃ s e te, v = .sc (.string s) ∧ (assoc Θ dst').map (·.td) = some (.slice e) ∧ assoc Θ e = some te
  · obtain ⟨s, e, te, rfl, hd, hte⟩ := hno
    obtain ⟨hx1, hx2⟩ := hx
    unfold coreConvert at h
    split at h
    · rename_i ts td hts htd
      rw [htd] at hd
      simp only [Option.map_some, Option.some.injEq] at hd
      split at h
      · rename_i h1 h2 h3; cases h3
      · rename_i h0 h1 h2 h3; rw [hd] at h2; cases h2
      · rename_i e' s' h1 h2 h3
        cases h3
        rw [hd] at h2
        cases h2
        split at h
        · rename_i te' hte'
          rw [hte] at hte'
          cases hte'
          split at h
          · rename_i h4
            cases h
            have a1 := (hΘ src ts hts).td
            rw [h1] at a1
            have a2 := (hΘ dst' td htd).td
            rw [hd] at a2
            have a3 := (hΘ e te hte).td
            rw [h4] at a3
            obtain ⟨r, w', b1, b2⟩ := bytes_done (P := P) (N := N) (vc := decide (s.size ≤ 140737488355328)) hm hM a1 a2 a3 (of_decide_eq_true hvc)
            refine Carried.of_run (s := convert src dst' u) hm ⟨r, w', κ, ?_, b2⟩
            rw [hx1]; exact b1
          · cases h
        · cases h
      · rename_i h1 h2; rw [hd] at h2; cases h2
      · cases h
    · cases h
  · exact Carried.of_pure (s := convert src dst' u) hm (convert_pure hΘ hm hobs h hx (fun s e te a b c => hno ⟨s, e, te, a, b, c⟩)) hvc

theorem iface_ok (hm : Mem glob M0 B0 w0 w κ objs) (hΘ : TabOK P Θ) {N : Nat → Bool} {T : TypeId} {v : AV} {u : Value} {c : COut} (h : coreIface Θ T v = some c) (hvc : c.vc = true) (hx : RepV w (okB M0 κ objs) κ v u) :
    Carried P glob M0 B0 w0 N κ objs w (do pure (_root_.Go.Next.value (← Instr.makeInterface T u))) c := by
  unfold coreIface at h
  split at h
  · rename_i ti hti
    have ht := (hΘ T ti hti).td
    have hd : ∃ d, P.underlying T = some d ∧ (∀ ms, d ≠ .interface ms) ∧ ret (.ifc T v) = some c := by
      cases htd : ti.td <;> rw [htd] at ht h
      · exact ⟨_, ht, fun ms => by simp, h⟩
      · exact ⟨_, ht, fun ms => by simp, h⟩
      · exact ⟨_, ht, fun ms => by simp, h⟩
      · exact ⟨_, ht, fun ms => by simp, h⟩
      · exact ⟨_, ht, fun ms => by simp, h⟩
      · obtain ⟨fl, h1, _⟩ := ht; exact ⟨_, h1, fun ms => by simp, h⟩
      · cases h
    obtain ⟨d, h1, h2, h3⟩ := hd
    refine Carried.of_pure (s := Instr.makeInterface T u) hm (ret_pure h3 ⟨.iface T u, ?_, u, rfl, hx⟩) hvc
    unfold Instr.makeInterface
    rw [Sem.run_bind, run_underlying h1]
    cases d <;> first | rfl | exact absurd rfl (h2 _)
  · cases h

theorem eq_ok (hm : Mem glob M0 B0 w0 w κ objs) {eqs : List (Nat × List Nat)} (hE : ∀ T, eqs.contains T = true → EqSem P T) {N : Nat → Bool} {b : BinOp} {T : TypeId} {x y : Operand} {cs ds : List AV} {u v : Value} {c : COut}
    (h : coreEq eqs b T cs ds = some c) (hvc : c.vc = true) (hx : RepV w (okB M0 κ objs) κ (.agg cs) u) (hy : RepV w (okB M0 κ objs) κ (.agg ds) v) : Carried P glob M0 B0 w0 N κ objs w (do pure (_root_.Go.Next.value (← binSem b T x y u v))) c := by
  obtain ⟨us, e1, h1⟩ := hx
  obtain ⟨vs, e2, h2⟩ := hy
  unfold coreEq at h
  split at h
  · rename_i l hl'
    rw [Option.ite_none_right_eq_some] at h
    obtain ⟨hT, h⟩ := h
    have hE' := hE _ hT w x y cs ds l _ _ us vs rfl hl' h1 h2
    have go : ∀ (r : Bool), (binSem b T x y (.agg us.toArray) (.agg vs.toArray)).run P w = .ok (.bool r) w → ret (.sc (.bool r)) = some c → Carried P glob M0 B0 w0 (N) κ objs w (do pure (_root_.Go.Next.value (← binSem b T x y u v))) c := by
      intro r hr hc
      refine Carried.of_pure (s := binSem b T x y u v) hm (ret_pure hc ⟨.bool r, ?_, rfl, trivial⟩) hvc
      rw [e1, e2]; exact hr
    split at h
    · exact go _ hE'.1 h
    · exact go _ hE'.2 h
    · cases h
  · cases h

theorem makeSlice_ok (hm : Mem glob M0 B0 w0 w κ objs) (hM : ∀ b, M0 b → b < w.heap.size) (hΘ : TabOK P Θ) {N : Nat → Bool} {nid : Nat} (hN : N nid = true) (hl : Lack N glob objs) {T : TypeId} {k k' : IntKind} {l l' : Int} {c : COut}
    (h : coreMakeSlice Θ T nid l l' = some c) (hvc : c.vc = true) : ∃ r w' κ', (Instr.makeSlice T (.int k l) (.int k' l')).run P w = .ok r w' ∧ Done glob M0 B0 w0 N κ objs w c κ' r w' := by
  unfold coreMakeSlice at h
  split at h
  · rename_i ti hti
    split at h
    · rename_i e htd
      split at h
      · rename_i te hte
        split at h
        · rename_i t htc
          split at h
          · rename_i z hz
            rw [Option.ite_none_right_eq_some] at h
            obtain ⟨⟨a1, a2, a3⟩, h⟩ := h
            cases h
            simp only [decide_eq_true_eq] at hvc
            obtain ⟨rfl, b2, b3⟩ := hvc
            have := makeSlice_done (P := P) (k := k) (k' := k') (vc := decide (l = l ∧ 0 ≤ l ∧ l * te.bytes ≤ 140737488355328)) hm hM hΘ hN hl hti htd hte hz a1 a2 a3 b2 b3
            exact this
            
          · cases h
        · cases h
      · cases h
    · cases h
  · cases h

theorem rep1 {v : AV} {x : Operand} {ρ : Operand → Value} (h : RepL w ok κ [v] [ρ x]) : RepV w ok κ v (ρ x) := by
  obtain ⟨u, us', h1, h2, h3⟩ := h
  injection h1 with h1 _
  rw [h1]; exact h2
theorem rep2 {v v' : AV} {x y : Operand} {ρ : Operand → Value} (h : RepL w ok κ [v, v'] [ρ x, ρ y]) : RepV w ok κ v (ρ x) ∧ RepV w ok κ v' (ρ y) := by
  obtain ⟨u, us', h1, h2, u2, us2, h3, h4, _⟩ := h
  rw [h3] at h1
  injection h1 with h1 h5
  injection h5 with h5 _
  rw [h1, h5]; exact ⟨h2, h4⟩
theorem rep3 {v v' v'' : AV} {x y z : Operand} {ρ : Operand → Value} (h : RepL w ok κ [v, v', v''] [ρ x, ρ y, ρ z]) : RepV w ok κ v (ρ x) ∧ RepV w ok κ v' (ρ y) ∧ RepV w ok κ v'' (ρ z) := by
  obtain ⟨u, us', h1, h2, u2, us2, h3, h4, u3, us3, h6, h7, _⟩ := h
  rw [h6] at h3
  rw [h3] at h1
  injection h1 with h1 h5
  injection h5 with h5 h8
  injection h8 with h8 _
  rw [h1, h5, h8]; exact ⟨h2, h4, h7⟩

/-- One operation's place: the operation, its operation's number, its operands' values. -/
structure Set_ (P : Program) (Θ : Tab) (glob : List (Nat × AV)) (M0 B0 : Nat → Prop) (w0 w : World) (κ : Nat → Value) (objs : List (Nat × AObj)) (eqs : List (Nat × List Nat)) (nid : Nat) (obs : List (Nat × AObj)) : Prop where
  hm : Mem glob M0 B0 w0 w κ objs
  hM : ∀ b, M0 b → b < w.heap.size
  hΘ : TabOK P Θ
  hE : ∀ T, eqs.contains T = true → EqSem P T
  hl : Lack (newIds nid) glob objs
  hs : Sub obs objs
theorem Set_.hobs {eqs : List (Nat × List Nat)} {nid : Nat} {obs : List (Nat × AObj)} (S : Set_ P Θ glob M0 B0 w0 w κ objs eqs nid obs) : Obs w (okB M0 κ objs) κ obs := fun id o ho => S.hm.each id o (S.hs _ _ (assoc_mem ho))
theorem newIds_self (nid : Nat) : newIds nid nid = true := by simp [newIds]

section
variable {eqs : List (Nat × List Nat)} {nid : Nat} {obs : List (Nat × AObj)} {c : COut} {ρ : Operand → Value} {type : TypeId} {pos : String} {after : Array Edge} {guard : Option (Nat × Bool)} {dst : Option Tmp} {vals : List AV}

theorem ok_pick (S : Set_ P Θ glob M0 B0 w0 w κ objs eqs nid obs) (hvc : c.vc = true) {x y z : Operand} {cv a b : AV} (h : corePick cv a b = some c) (hv : RepL w (okB M0 κ objs) κ [cv, a, b] [ρ x, ρ y, ρ z]) :
    Carried P glob M0 B0 w0 (newIds nid) κ objs w (do pure (_root_.Go.Next.value (if ← asBool (ρ x) then ρ y else ρ z))) c := by
  obtain ⟨h1, h2, h3⟩ := rep3 hv
  obtain ⟨cb, dst', e1, rfl, hd⟩ := pick_pure h h1 h2 h3
  refine ⟨κ, _, w, done_pure S.hm hd, .inl ?_⟩
  rw [e1]
  cases cb <;> simp [asBool]

theorem ok_alloc (S : Set_ P Θ glob M0 B0 w0 w κ objs eqs nid obs) {T : TypeId} (h : coreAlloc Θ T nid = some c) : Carried P glob M0 B0 w0 (newIds nid) κ objs w (do pure (_root_.Go.Next.value (← Instr.alloc T true (.tuple #[])))) c := by
  unfold coreAlloc at h
  split at h
  · rename_i ti hti
    cases h
    exact Carried.of_run (s := Instr.alloc T true (.tuple #[])) S.hm ⟨_, _, _, alloc_run S.hΘ hti, done_var S.hm S.hM (newIds_self nid) S.hl (scs_rep (S.hΘ T ti hti).zero) (zero_one (S.hΘ T ti hti).zero) (lacks_scs _)⟩
  · cases h

theorem ok_box (S : Set_ P Θ glob M0 B0 w0 w κ objs eqs nid obs) {T : TypeId} {v : AV} {u : Value} (h : coreBox T nid v = some c) (hv : RepV w (okB M0 κ objs) κ v u) : Carried P glob M0 B0 w0 (newIds nid) κ objs w (do pure (_root_.Go.Next.value (← Instr.box T u))) c := by
  unfold coreBox at h
  rw [Option.ite_none_right_eq_some] at h
  obtain ⟨⟨hc, hlk⟩, h⟩ := h
  cases h
  obtain ⟨h1, h2⟩ := cellsAV_rep hv hc
  have := done_var (T := T) (vc := true) S.hm S.hM (newIds_self nid) S.hl h1 h2 hlk
  exact Carried.of_run (s := Instr.box T u) S.hm ⟨_, _, _, box_run T u, by simpa using this⟩

theorem ok_nil (S : Set_ P Θ glob M0 B0 w0 w κ objs eqs nid obs) {x : Operand} {a : AV} (h : coreNil a = some c) (hv : RepV w (okB M0 κ objs) κ a (ρ x)) : Carried P glob M0 B0 w0 (newIds nid) κ objs w (execOp ρ ⟨dst, .nilCheck x, type, pos, after, guard⟩) c := by
  obtain ⟨rfl, ad, hu⟩ := nil_pure h hv
  refine ⟨κ, ρ x, w, done_pure S.hm hv, .inl ?_⟩
  unfold execOp
  simp only
  rw [hu]
  rfl

theorem ok_un (S : Set_ P Θ glob M0 B0 w0 w κ objs eqs nid obs) (hvc : c.vc = true) {op : UnOp} {a : AV} {u : Value} (h : coreUn op a = some c) (hv : RepV w (okB M0 κ objs) κ a u) : Carried P glob M0 B0 w0 (newIds nid) κ objs w (do pure (_root_.Go.Next.value (← Op.unary op u))) c := by
  unfold coreUn at h
  split at h
  · obtain ⟨rfl, _⟩ := hv
    exact Carried.of_pure (s := Op.unary .neg _) S.hm (ret_pure h ⟨_, unary_int, rfl, has_wrap _ _⟩) hvc
  · obtain ⟨rfl, _⟩ := hv
    exact Carried.of_pure (s := Op.unary .not _) S.hm (ret_pure h ⟨_, unary_not, rfl, trivial⟩) hvc
  · cases h

theorem ok_func (S : Set_ P Θ glob M0 B0 w0 w κ objs eqs nid obs) (hvc : c.vc = true) {fn : Fn} {first cap : Array Operand} (h : coreFunc fn first cap vals = some c) (hv : RepL w (okB M0 κ objs) κ vals ((first ++ cap).toList.map ρ)) :
    Carried P glob M0 B0 w0 (newIds nid) κ objs w (do pure (_root_.Go.Next.value (← Instr.makeFunc fn (first.map ρ) (cap.map ρ)))) c := by
  unfold coreFunc at h
  have arr : ∀ l : Array Operand, l.map ρ = (l.toList.map ρ).toArray := fun l => by apply Array.toList_inj.1; simp
  split at h
  · rename_i f
    rw [Option.ite_none_right_eq_some] at h
    obtain ⟨hf, h⟩ := h
    split at h
    · rename_i h1
      have : first = #[] := Array.size_eq_zero_iff.1 h1
      subst this
      refine Carried.of_pure (s := Instr.makeFunc (.func f) (#[].map ρ) (cap.map ρ)) S.hm (ret_pure h ⟨_, rfl, cap.toList.map ρ, ?_, by simpa using hv⟩) hvc
      unfold FnR
      rw [if_pos hf, arr cap]
      simp
    · rw [Option.ite_none_right_eq_some] at h
      obtain ⟨h1, h⟩ := h
      have : cap = #[] := Array.size_eq_zero_iff.1 h1
      subst this
      refine Carried.of_pure (s := Instr.makeFunc (.func f) (first.map ρ) (#[].map ρ)) S.hm (ret_pure h ⟨_, rfl, first.toList.map ρ, ?_, by simpa using hv⟩) hvc
      have hf' : (show Nat from f) < 1000000 := hf
      have e1 : ¬ ((show Nat from f) + 1000000 < 1000000) := by omega
      have e2 : (show Nat from f) + 1000000 < 2000000 := by omega
      unfold FnR
      rw [if_neg e1, if_pos e2, arr first]
      simp
  · cases h

/-- A walk over a string's letters begins. -/
theorem ok_range (S : Set_ P Θ glob M0 B0 w0 w κ objs eqs nid obs) {T : TypeId} {v : AV} {u : Value} (h : coreRange Θ T nid v = some c) (hv : RepV w (okB M0 κ objs) κ v u) : Carried P glob M0 B0 w0 (newIds nid) κ objs w (do pure (_root_.Go.Next.value (← Instr.range T u))) c := by
  unfold coreRange at h
  split at h
  · rename_i s
    obtain ⟨rfl, hs⟩ := hv
    split at h
    · rename_i ti hti
      split at h
      · rename_i htd
        cases h
        have hu : P.underlying T = some .string := by have := (S.hΘ T ti hti).td; rw [htd] at this; exact this
        refine Carried.of_run (s := Instr.range T (.string s)) S.hm ⟨.pointer (some ⟨w.heap.size, 0, none⟩), w.alloc (.stringIter s 0), upd κ nid (.pointer (some ⟨w.heap.size, 0, none⟩)), ?_, ?_⟩
        · unfold Instr.range
          simp only [Sem.run_bind, run_underlying hu, Result.andThen_ok]
          rfl
        · have h := S.hm.add S.hM (below_alloc1 w (.stringIter s 0)) (v := .pointer (some ⟨w.heap.size, 0, none⟩)) (o := .iter s 0) (newIds_self nid) S.hl (fun b _ hb => by simp [blkOf] at hb; omega)
            (fun ok' _ hx => ⟨w.heap.size, upd_same _ _ _, heap_alloc_new w _, hs⟩)
          exact ⟨h.1, h.2, ⟨w.heap.size, upd_same _ _ _, rfl⟩⟩
      · cases h
    · cases h
  · cases h

theorem ok_extract (S : Set_ P Θ glob M0 B0 w0 w κ objs eqs nid obs) (hvc : c.vc = true) {k : Nat} {a : AV} {u : Value} (h : coreExtract k a = some c) (hv : RepV w (okB M0 κ objs) κ a u) : Carried P glob M0 B0 w0 (newIds nid) κ objs w (do pure (_root_.Go.Next.value (← Instr.extract u k))) c := by
  unfold coreExtract at h
  split at h
  · rename_i cs
    obtain ⟨us, rfl, hr⟩ := hv
    split at h
    · rename_i v hk
      obtain ⟨u, hu2, hv2⟩ := RepL.get _ _ hr k v hk
      refine Carried.of_pure (s := Instr.extract (.tuple us.toArray) k) S.hm (ret_pure h ⟨u, ?_, hv2⟩) hvc
      simp [Instr.extract, hu2]
    · cases h
  · cases h

theorem ok_call (S : Set_ P Θ glob M0 B0 w0 w κ objs eqs nid obs) (hvc : c.vc = true) {cl : Call} (h : coreCall Θ cl nid obs vals = some c) (hv : RepL w (okB M0 κ objs) κ vals (cl.operands.toList.map ρ)) :
    Carried P glob M0 B0 w0 (newIds nid) κ objs w (execOp ρ ⟨dst, .call cl, type, pos, after, guard⟩) c := by
  unfold coreCall at h
  split at h
  · rename_i b hb
    have hb2 := builtin_ok (P := P) (ty := type) (cs := cl.args.map fun | .const _ => true | _ => false) S.hm S.hM S.hΘ S.hl S.hs h hvc hv
    obtain ⟨κ', u, w', d1, d2⟩ := hb2
    have hex : (execOp ρ ⟨dst, .call cl, type, pos, after, guard⟩).run P w = (builtin b cl.argTypes type (cl.args.map fun | .const _ => true | _ => false) ((cl.operands.toList.map ρ).toArray)).run P w := by
      have ha : (cl.operands.toList.map ρ).toArray = cl.args.map ρ := by
        apply Array.toList_inj.1
        simp [Call.operands, hb]
      rw [ha]
      unfold execOp
      simp only [resolve, hb]
      simp only [Sem.run_bind, Sem.run_pure, Result.andThen_ok, invoke]
      rfl
    exact ⟨κ', u, w', d1, by rw [hex]; exact d2⟩
  · cases h

theorem ok_bin (S : Set_ P Θ glob M0 B0 w0 w κ objs eqs nid obs) (hvc : c.vc = true) {b : BinOp} {T : TypeId} {x y : Operand} {a a' : AV} {u v : Value} (h : coreBin2 Θ eqs b T a a' = some c) (hx : RepV w (okB M0 κ objs) κ a u) (hy : RepV w (okB M0 κ objs) κ a' v) :
    Carried P glob M0 B0 w0 (newIds nid) κ objs w (do pure (_root_.Go.Next.value (← binSem b T x y u v))) c := by
  unfold coreBin2 at h
  split at h
  · exact eq_ok S.hm S.hE h hvc hx hy
  · exact Carried.of_pure (s := binSem b T x y u v) S.hm (bin_pure S.hΘ h hx hy x y) hvc

theorem ok_mk (S : Set_ P Θ glob M0 B0 w0 w κ objs eqs nid obs) (hvc : c.vc = true) {T : TypeId} {a a' : AV} {u v : Value} (h : coreMk Θ T nid a a' = some c) (hx : RepV w (okB M0 κ objs) κ a u) (hy : RepV w (okB M0 κ objs) κ a' v) :
    Carried P glob M0 B0 w0 (newIds nid) κ objs w (do pure (_root_.Go.Next.value (← Instr.makeSlice T u v))) c := by
  unfold coreMk at h
  split at h
  · obtain ⟨rfl, _⟩ := hx
    obtain ⟨rfl, _⟩ := hy
    exact Carried.of_run S.hm (makeSlice_ok S.hm S.hM S.hΘ (newIds_self nid) S.hl h hvc)
  · cases h

theorem ok_field (S : Set_ P Θ glob M0 B0 w0 w κ objs eqs nid obs) (hvc : c.vc = true) {T f : Nat} {a : AV} {u : Value} (h : coreFieldV Θ T f a = some c) (hv : RepV w (okB M0 κ objs) κ a u) :
    Carried P glob M0 B0 w0 (newIds nid) κ objs w (do pure (_root_.Go.Next.value (← Instr.field T u f))) c := by
  unfold coreFieldV at h
  split at h
  · exact Carried.of_pure S.hm (field_pure' S.hΘ h hv) hvc
  · cases h

theorem ok_slice (S : Set_ P Θ glob M0 B0 w0 w κ objs eqs nid obs) (hvc : c.vc = true) {T : TypeId} {x : Operand} {lo hi mx : Option Operand} {v : AV} {bs : List AV} (h : coreSlice Θ T obs lo hi mx v bs = some c) (hv : RepL w (okB M0 κ objs) κ (v :: bs) ((Op.slice T x lo hi mx).operands.toList.map ρ)) :
    Carried P glob M0 B0 w0 (newIds nid) κ objs w (do pure (_root_.Go.Next.value (← Instr.sliceAt T (ρ x) (lo.map ρ) (hi.map ρ) (mx.map ρ)))) c := by
  obtain ⟨u, us, h1, h2, h3⟩ := hv
  have he : (Op.slice T x lo hi mx).operands.toList.map ρ = ρ x :: ((lo.map ρ).toList ++ (hi.map ρ).toList ++ (mx.map ρ).toList) := by
    cases lo <;> cases hi <;> cases mx <;> rfl
  rw [he] at h1
  injection h1 with h1 h4
  exact Carried.of_pure (s := Instr.sliceAt T (ρ x) (lo.map ρ) (hi.map ρ) (mx.map ρ)) S.hm (slice_pure S.hΘ S.hobs h ρ (by rw [h1]; exact h2) h3 h4.symm) hvc

theorem ok_store (S : Set_ P Θ glob M0 B0 w0 w κ objs eqs nid obs) (hvc : c.vc = true) {T : TypeId} {a v : AV} {ua u : Value} (h : coreStore Θ T obs a v = some c) (ha : RepV w (okB M0 κ objs) κ a ua) (hv : RepV w (okB M0 κ objs) κ v u) :
    Carried P glob M0 B0 w0 (newIds nid) κ objs w (do Instr.storeAt T ua u; pure _root_.Go.Next.skip) c := by
  obtain ⟨w', h1, h2⟩ := store_carried (P := P) (N := newIds nid) S.hm S.hM S.hΘ S.hs h hvc ha hv
  exact ⟨κ, undef, w', h2, .inr ⟨by simp [Sem.run_bind, h1], rfl⟩⟩
end

theorem one_val {vs : List AV} {x : Value} (h : RepL w ok κ vs [x]) : ∃ v, vs = [v] := by
  have := RepL.length _ _ h
  match vs, this with
  | [v], _ => exact ⟨v, rfl⟩
theorem two_val {vs : List AV} {x y : Value} (h : RepL w ok κ vs [x, y]) : ∃ v v', vs = [v, v'] := by
  have := RepL.length _ _ h
  match vs, this with
  | [v, v'], _ => exact ⟨v, v', rfl⟩
theorem three_val {vs : List AV} {x y z : Value} (h : RepL w ok κ vs [x, y, z]) : ∃ v v' v'', vs = [v, v', v''] := by
  have := RepL.length _ _ h
  match vs, this with
  | [v, v', v''], _ => exact ⟨v, v', v'', rfl⟩
theorem more_val {vs : List AV} {T : TypeId} {x : Operand} {lo hi mx : Option Operand} {ρ : Operand → Value} (h : RepL w ok κ vs ((Op.slice T x lo hi mx).operands.toList.map ρ)) : ∃ v vs', vs = v :: vs' := by
  cases vs with
  | nil =>
    have := RepL.length _ _ h
    cases lo <;> cases hi <;> cases mx <;> simp [Op.operands] at this
  | cons v vs => exact ⟨v, vs, rfl⟩

theorem core_ok {eqs : List (Nat × List Nat)} {nid : Nat} {o : Oper} {vals : List AV} {c : COut} (S : Set_ P Θ glob M0 B0 w0 w κ objs eqs nid (gather objs (touch o.op vals)))
    (h : core Θ eqs o.op nid (gather objs (touch o.op vals)) vals = some c) (hvc : c.vc = true) (ρ : Operand → Value) (hv : RepL w (okB M0 κ objs) κ vals (o.op.operands.toList.map ρ)) :
    Carried P glob M0 B0 w0 (newIds nid) κ objs w (execOp ρ o) c := by
  obtain ⟨dst, op, type, pos, after, guard⟩ := o
  simp only at h hv S
  generalize gather objs (touch op vals) = obs at h S
  cases op
  case move x => obtain ⟨v1, rfl⟩ := one_val hv; exact Carried.of_pure (s := pure _) S.hm (ret_pure h ⟨_, rfl, rep1 hv⟩) hvc
  case assign x => obtain ⟨v1, rfl⟩ := one_val hv; exact Carried.of_pure (s := pure _) S.hm (ret_pure h ⟨_, rfl, rep1 hv⟩) hvc
  case pick x y z => obtain ⟨v1, v2, v3, rfl⟩ := three_val hv; exact ok_pick S hvc h hv
  case alloc T => exact ok_alloc S h
  case box T x => obtain ⟨v1, rfl⟩ := one_val hv; exact ok_box S h (rep1 hv)
  case build T ps => exact Carried.of_pure S.hm (build_pure S.hΘ h ρ (by rw [← parts_map]; exact hv)) hvc
  case buildSlice T len ps => exact Carried.of_run S.hm (buildSlice_done S.hm S.hM S.hΘ (newIds_self nid) S.hl S.hs h ρ (by rw [← parts_map]; exact hv))
  case load T x => obtain ⟨v1, rfl⟩ := one_val hv; exact Carried.of_pure S.hm (load_pure S.hΘ S.hobs h (rep1 hv)) hvc
  case store T x y => obtain ⟨v1, v2, rfl⟩ := two_val hv; exact ok_store S hvc h (rep2 hv).1 (rep2 hv).2
  case nilCheck x => obtain ⟨v1, rfl⟩ := one_val hv; exact ok_nil S h (rep1 hv)
  case binOp b T x y yt => obtain ⟨v1, v2, rfl⟩ := two_val hv; exact ok_bin S hvc h (rep2 hv).1 (rep2 hv).2
  case unOp u T x => obtain ⟨v1, rfl⟩ := one_val hv; exact ok_un S hvc h (rep1 hv)
  case convert a b x => obtain ⟨v1, rfl⟩ := one_val hv; exact convert_ok S.hm S.hM S.hΘ S.hobs h hvc (rep1 hv)
  case makeInterface T x => obtain ⟨v1, rfl⟩ := one_val hv; exact iface_ok S.hm S.hΘ h hvc (rep1 hv)
  case makeFunc fn a b => exact ok_func S hvc h hv
  case makeSlice T a b => obtain ⟨v1, v2, rfl⟩ := two_val hv; exact ok_mk S hvc h (rep2 hv).1 (rep2 hv).2
  case slice T x lo hi mx => obtain ⟨v1, vs, rfl⟩ := more_val hv; exact ok_slice S hvc h hv
  case fieldAddr T x f => obtain ⟨v1, rfl⟩ := one_val hv; exact Carried.of_pure S.hm (fieldAddr_pure' S.hΘ h (rep1 hv)) hvc
  case field T x f => obtain ⟨v1, rfl⟩ := one_val hv; exact ok_field S hvc h (rep1 hv)
  case indexAddr T x i => obtain ⟨v1, v2, rfl⟩ := two_val hv; exact Carried.of_pure S.hm (indexAddr_pure S.hΘ S.hobs h (rep2 hv).1 (rep2 hv).2) hvc
  case index T x i => obtain ⟨v1, v2, rfl⟩ := two_val hv; exact Carried.of_pure S.hm (index_pure S.hΘ h (rep2 hv).1 (rep2 hv).2) hvc
  case extract x k => obtain ⟨v1, rfl⟩ := one_val hv; exact ok_extract S hvc h (rep1 hv)
  case range T x => obtain ⟨v1, rfl⟩ := one_val hv; exact ok_range S h (rep1 hv)
  case call cl => exact ok_call S hvc h hv
  all_goals cases h
end
end Go.AM
