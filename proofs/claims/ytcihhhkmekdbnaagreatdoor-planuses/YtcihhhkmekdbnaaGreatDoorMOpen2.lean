/-
  From the given rows to the plain law: a part.
-/
import Derived.Test.YtcihhhkmekdbnaaGreatDoorMOpen
/-
  Instructions and trees among the arguments, opened.
-/
namespace Go.AM
open Go Go.RowKit Go.Proofs
set_option maxRecDepth 100000
section
variable {H : Type} {enc : TypeId × Value → H} {P : Program} {w : World} {sp : Nat → Bool} {held : Bool} {ok : Nat → Prop}
theorem open_field {T : TypeId} {fs : Array Field} (hu : P.underlying T = some (.struct fs)) {fuel : Nat} {cs : List Value} {d : DataW H} {p : List MemPlace} (h : DataW.trod enc P w 0 sp held fuel T cs = some (d, p)) (hw : Wt P T d) {i o : Nat} {t : TypeId} (hf : (fs[i]?).map (fun f => (f.offset, f.type)) = some (o, t)) :
    ∃ n d' p', n < fuel ∧ DataW.trod enc P w 0 sp held n t ((cs.drop o).take (P.cellsOf t)) = some (d', p') ∧ Wt P t d' := by
  obtain ⟨xs, n, rfl, hx, _, hl, hel⟩ := DataW.trod_struct hu h
  cases hfi : fs[i]? with
  | none => rw [hfi] at hf; cases hf
  | some f =>
    rw [hfi] at hf
    simp only [Option.map_some, Option.some.injEq, Prod.mk.injEq] at hf
    obtain ⟨rfl, rfl⟩ := hf
    have h1 := hel i f hfi
    have hi : i < xs.length := by rw [hl]; exact (Array.getElem?_eq_some_iff.1 hfi).1
    have hxi : xs[i]? = some (xs[i]'hi) := List.getElem?_eq_getElem _
    rw [hxi] at h1
    refine ⟨n, _, _, Nat.lt_succ_self n, h1, ?_⟩
    have hd : d = .agg (xs.map (·.1)) := (Prod.mk.inj hx).1
    subst hd
    intro m hm
    refine hw m ?_
    unfold DataW.weights
    rw [hu]
    refine DataW.weights_mem_each (j := i) (t := f.type) (d := (xs[i]'hi).1) ?_ ?_ m hm
    · rw [List.getElem?_map, Array.getElem?_toList, hfi]; rfl
    · rw [List.getElem?_map, hxi]; rfl
theorem struct_len {T : TypeId} {fs : Array Field} (hu : P.underlying T = some (.struct fs)) {fuel : Nat} {cs : List Value} {d : DataW H} {p : List MemPlace} (h : DataW.trod enc P w 0 sp held fuel T cs = some (d, p)) : cs.length = P.cellsOf T := by
  obtain ⟨_, _, _, _, hl, _⟩ := DataW.trod_struct hu h
  exact hl
end
section
variable {H : Type} {enc : TypeId × Value → H} {w : World} {sp : Nat → Bool} {held : Bool} {ok : Nat → Prop}
theorem cI : Tryz.prog.cellsOf 3 = 1 := by kernel_rfl
theorem cS : Tryz.prog.cellsOf 9 = 1 := by kernel_rfl
theorem cF : Tryz.prog.cellsOf 24 = 2 := by kernel_rfl
theorem uI : Tryz.prog.underlying 3 = some (.int .i64) := by kernel_rfl
theorem uS : Tryz.prog.underlying 9 = some .string := by kernel_rfl
theorem uM : Tryz.prog.underlying 80 = some (.struct (fieldsOf (Tryz.prog.underlying 80))) := by kernel_rfl
theorem uF : Tryz.prog.underlying 24 = some (.struct (fieldsOf (Tryz.prog.underlying 24))) := by kernel_rfl
theorem uN : Tryz.prog.underlying 45 = some (.struct (fieldsOf (Tryz.prog.underlying 45))) := by kernel_rfl
theorem open_matcher {fuel : Nat} {cs : List Value} {d : DataW H} {p : List MemPlace} (h : DataW.trod enc Tryz.prog w 0 sp held fuel 80 cs = some (d, p)) (hw : Wt Tryz.prog 80 d) : ∃ x : DMatcher, RepC w ok .matcher x cs := by
  have hl := (struct_len uM h).trans (show Tryz.prog.cellsOf 80 = 3 by kernel_rfl)
  obtain ⟨n0, d0, p0, _, h0, _⟩ := open_field uM h hw (i := 0) (o := 0) (t := 9) (by kernel_rfl)
  obtain ⟨n1, d1, p1, _, h1, _⟩ := open_field uM h hw (i := 1) (o := 1) (t := 3) (by kernel_rfl)
  obtain ⟨n2, d2, p2, _, h2, _⟩ := open_field uM h hw (i := 2) (o := 2) (t := 9) (by kernel_rfl)
  match cs, hl with
  | [a, b, c], _ =>
    rw [cS] at h0 h2
    rw [cI] at h1
    obtain ⟨s, e0, z0⟩ := open_s uS h0
    obtain ⟨k, e1, z1⟩ := open_i uI h1
    obtain ⟨v, e2, z2⟩ := open_s uS h2
    simp at e0 e1 e2
    subst e0 e1 e2
    exact ⟨⟨s, k, v⟩, .matcher ⟨s, k, v⟩ z0 z1 z2⟩
theorem open_frac {fuel : Nat} {cs : List Value} {d : DataW H} {p : List MemPlace} (h : DataW.trod enc Tryz.prog w 0 sp held fuel 24 cs = some (d, p)) (hw : Wt Tryz.prog 24 d) : ∃ a b : Int, cs = [.int .i64 a, .int .i64 b] ∧ I64 a ∧ I64 b := by
  have hl := (struct_len uF h).trans cF
  obtain ⟨n0, d0, p0, _, h0, _⟩ := open_field uF h hw (i := 0) (o := 0) (t := 3) (by kernel_rfl)
  obtain ⟨n1, d1, p1, _, h1, _⟩ := open_field uF h hw (i := 1) (o := 1) (t := 3) (by kernel_rfl)
  match cs, hl with
  | [a, b], _ =>
    rw [cI] at h0 h1
    obtain ⟨k, e0, z0⟩ := open_i uI h0
    obtain ⟨m, e1, z1⟩ := open_i uI h1
    simp at e0 e1
    subst e0 e1
    exact ⟨k, m, rfl, z0, z1⟩
theorem open_matchers (hok : ∀ b, ok b) {fuel : Nat} {cs : List Value} {d : DataW H} {p : List MemPlace} (h : DataW.trod enc Tryz.prog w 0 sp held fuel 25 cs = some (d, p)) (hw : Wt Tryz.prog 25 d) : ∃ (xs : List DMatcher) (v : Value), cs = [v] ∧ RepS w ok .matcher xs v ∧ xs.length * 40 ≤ reachBytes := by
  obtain ⟨xs, v, h1, h2, _, h4⟩ := open_list (t := .matcher) (Sz := fun _ => True) (e := 80) (show Tryz.prog.underlying 25 = some (.slice 80) by kernel_rfl) (by kernel_rfl) (of_decide_eq_true (by kernel_rfl)) hok (fun n _ cs d p h hw => by
    obtain ⟨x, hx⟩ := open_matcher h hw
    exact ⟨x, hx, trivial⟩) h hw
  rw [show Tryz.prog.bytesOf 80 = 40 by kernel_rfl] at h4
  exact ⟨xs, v, h1, h2, h4⟩
theorem open_texts (hok : ∀ b, ok b) {fuel : Nat} {cs : List Value} {d : DataW H} {p : List MemPlace} (h : DataW.trod enc Tryz.prog w 0 sp held fuel 26 cs = some (d, p)) (hw : Wt Tryz.prog 26 d) : ∃ (xs : List ByteArray) (v : Value), cs = [v] ∧ RepS w ok .str xs v ∧ xs.length * 16 ≤ reachBytes := by
  obtain ⟨xs, v, h1, h2, _, h4⟩ := open_list (t := .str) (Sz := fun _ => True) (e := 9) (show Tryz.prog.underlying 26 = some (.slice 9) by kernel_rfl) (by kernel_rfl) (of_decide_eq_true (by kernel_rfl)) hok (fun n _ cs d p h _ => by
    obtain ⟨s, rfl, hs⟩ := open_s uS h
    exact ⟨s, .str s hs, trivial⟩) h hw
  rw [show Tryz.prog.bytesOf 9 = 16 by kernel_rfl] at h4
  exact ⟨xs, v, h1, h2, h4⟩
theorem reach_big : reachBytes ≤ big := by unfold reachBytes big; omega
theorem open_ins (hok : ∀ b, ok b) {fuel : Nat} {cs : List Value} {d : DataW H} {p : List MemPlace} (h : DataW.trod enc Tryz.prog w 0 sp held fuel 45 cs = some (d, p)) (hw : Wt Tryz.prog 45 d) : ∃ x : DIns, RepC w ok .ins x cs ∧ WfI x := by
  have hl := (struct_len uN h).trans (show Tryz.prog.cellsOf 45 = 10 by kernel_rfl)
  obtain ⟨n0, d0, p0, _, h0, _⟩ := open_field uN h hw (i := 0) (o := 0) (t := 3) (by kernel_rfl)
  obtain ⟨n1, d1, p1, _, h1, _⟩ := open_field uN h hw (i := 1) (o := 1) (t := 3) (by kernel_rfl)
  obtain ⟨n2, d2, p2, _, h2, _⟩ := open_field uN h hw (i := 2) (o := 2) (t := 3) (by kernel_rfl)
  obtain ⟨n3, d3, p3, _, h3, _⟩ := open_field uN h hw (i := 3) (o := 3) (t := 3) (by kernel_rfl)
  obtain ⟨n4, d4, p4, _, h4, _⟩ := open_field uN h hw (i := 4) (o := 4) (t := 3) (by kernel_rfl)
  obtain ⟨n5, d5, p5, _, h5, w5⟩ := open_field uN h hw (i := 5) (o := 5) (t := 24) (by kernel_rfl)
  obtain ⟨n6, d6, p6, _, h6, _⟩ := open_field uN h hw (i := 6) (o := 7) (t := 9) (by kernel_rfl)
  obtain ⟨n7, d7, p7, _, h7, w7⟩ := open_field uN h hw (i := 7) (o := 8) (t := 25) (by kernel_rfl)
  obtain ⟨n8, d8, p8, _, h8, w8⟩ := open_field uN h hw (i := 8) (o := 9) (t := 26) (by kernel_rfl)
  match cs, hl with
  | [c0, c1, c2, c3, c4, c5, c6, c7, c8, c9], _ =>
    rw [cI] at h0 h1 h2 h3 h4
    rw [cF] at h5
    rw [cS] at h6
    rw [show Tryz.prog.cellsOf 25 = 1 by kernel_rfl] at h7
    rw [show Tryz.prog.cellsOf 26 = 1 by kernel_rfl] at h8
    obtain ⟨k0, e0, z0⟩ := open_i uI h0
    obtain ⟨k1, e1, z1⟩ := open_i uI h1
    obtain ⟨k2, e2, z2⟩ := open_i uI h2
    obtain ⟨k3, e3, z3⟩ := open_i uI h3
    obtain ⟨k4, e4, z4⟩ := open_i uI h4
    obtain ⟨k5, k6, e5, z5, z6⟩ := open_frac h5 w5
    obtain ⟨s, e6, z7⟩ := open_s uS h6
    obtain ⟨ms, v7, e7, r7, b7⟩ := open_matchers hok h7 w7
    obtain ⟨bs, v8, e8, r8, b8⟩ := open_texts hok h8 w8
    simp at e0 e1 e2 e3 e4 e5 e6 e7 e8
    obtain ⟨e5, e5'⟩ := e5
    subst e0 e1 e2 e3 e4 e5 e5' e6 e7 e8
    have hb := reach_big
    exact ⟨⟨k0, k1, k2, k3, k4, ⟨k5, k6⟩, s, ms, bs⟩, .ins ⟨k0, k1, k2, k3, k4, ⟨k5, k6⟩, s, ms, bs⟩ _ _ z0 z1 z2 z3 z4 z5 z6 z7 r7 r8, ⟨z0, z5, z6, Nat.le_trans b7 hb, Nat.le_trans b8 hb⟩⟩
theorem open_inss0 (hok : ∀ b, ok b) {fuel : Nat} {cs : List Value} {d : DataW H} {p : List MemPlace} (h : DataW.trod enc Tryz.prog w 0 sp held fuel 36 cs = some (d, p)) (hw : Wt Tryz.prog 36 d) :
    ∃ (xs : List DIns) (v : Value), cs = [v] ∧ RepS w ok .ins xs v ∧ WfP xs := by
  obtain ⟨xs, v, h1, h2, h3, _⟩ := open_list (t := .ins) (Sz := WfI) (e := 45) (show Tryz.prog.underlying 36 = some (.slice 45) by kernel_rfl) (by kernel_rfl) (of_decide_eq_true (by kernel_rfl)) hok (fun n _ cs d p h hw => open_ins hok h hw) h hw
  exact ⟨xs, v, h1, h2, h3⟩
end
end Go.AM
