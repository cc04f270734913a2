/-
  The plain law: what the functions compute, part 1.
-/
import Derived.Test.YtcihhhkmekdbnaaGreatDoorMp0
/-
  Expressions made from numbers: they are made, and they are valid.
-/
namespace Go.AM
open Go
set_option maxRecDepth 100000
def pickC (l : List Int) (i : Nat) (m : Int) : Int := if i ≥ l.length then 0 else aroundC (l.getD i 0) m
def I64s (l : List Int) : Prop := ∀ n ∈ l, I64 n
theorem pick_range {l : List Int} {i : Nat} {m : Int} (hm : 0 < m) : 0 ≤ pickC l i m ∧ pickC l i m < m := by
  unfold pickC
  split
  · omega
  · exact around_range hm
theorem Pick_ok {l : List Int} (hl : I64s l) (i : Nat) {m : Int} (hm : 0 < m) : S_ref01_Pick L0 (l, ((i : Int), m)) = some (pickC l i m) := by
  refine go_ref01_Pick _ _ _ ?_
  unfold B_ref01_Pick pickC
  have h0 : ¬ (i : Int) < 0 := by omega
  by_cases h : i ≥ l.length
  · have : (i : Int) ≥ ((l.length : Nat) : Int) := by omega
    simp [h0, h, this]
  · have h1 : ¬ (i : Int) ≥ ((l.length : Nat) : Int) := by omega
    have h2 : (0 : Int) ≤ (i : Int) ∧ (i : Int) < ((l.length : Nat) : Int) := by omega
    have hr : rdx (.i .i64) l (i : Int) = l.getD i 0 := by simp [rdx]; rfl
    have hmem : I64 (l.getD i 0) := by
      have hlt : i < l.length := by omega
      rw [List.getD_eq_getElem?_getD, List.getElem?_eq_getElem hlt]
      exact hl _ (List.getElem_mem hlt)
    simp only [h0, h1, h, decide_eq_true h2, decide_false, Bool.false_eq_true, if_false, if_true, hr, Around_ok hmem hm, Option.bind_some]
theorem next_ok {l : List Int} (hl : I64s l) {i : Nat} (hi : i ≤ 1000000000) {m : Int} (hm : 0 < m) (names : List ByteArray) (most : Int) : S_ref07_G_next L0 (m, (l, ((i : Int), (names, most)))) = some (pickC l i m, (l, (((i + 1 : Nat) : Int), (names, most)))) := by
  refine go_ref07_G_next _ _ _ _ _ ?_
  unfold B_ref07_G_next
  have w1 : IntKind.wrap .i64 ((i : Int) + 1) = ((i + 1 : Nat) : Int) := by rw [wrap64 (by omega) (by omega)]; omega
  have w2 : IntKind.wrap .i64 (((i + 1 : Nat) : Int) - 1) = (i : Int) := by rw [wrap64 (by omega) (by omega)]; omega
  rw [w1, w2, Pick_ok hl i hm]
  rfl
def names0 : List ByteArray := [⟨#[97]⟩, ⟨#[97, 98]⟩, ⟨#[98]⟩, ⟨#[106, 111, 98]⟩, ⟨#[120, 95, 49]⟩, ⟨#[122, 111, 110, 101]⟩]
def values0 : List ByteArray := [⟨#[97]⟩, ⟨#[97, 98]⟩, ⟨#[98]⟩, ⟨#[120, 49]⟩, ⟨#[126, 33]⟩, ⟨#[48]⟩]
def values1 : List ByteArray := values0 ++ [zeroS, ⟨#[120]⟩]
theorem Names_ok : S_ref05_Names L0 () = some names0 := by
  refine go_ref05_Names ?_
  rfl
theorem values_ok : S_ref05_values L0 () = some values0 := by
  refine go_ref05_values ?_
  rfl
theorem rdx_all {t : TC} {p : Den t → Prop} {xs : List (Den t)} (h : ∀ x ∈ xs, p x) {i : Int} (h0 : 0 ≤ i) (h1 : i < (xs.length : Int)) : p (rdx t xs i) := by
  obtain ⟨n, rfl⟩ := Int.eq_ofNat_of_zero_le h0
  have hn : n < xs.length := by omega
  unfold rdx
  rw [Int.toNat_natCast, List.getD_eq_getElem?_getD, List.getElem?_eq_getElem hn]
  exact h _ (List.getElem_mem hn)
theorem names0_all : ∀ s ∈ names0, nameB s = true := by
  have : names0.all nameB = true := by decide
  exact List.all_eq_true.1 this
theorem values1_all : ∀ s ∈ values1, valueB s = true := by
  have : values1.all valueB = true := by decide
  exact List.all_eq_true.1 this
theorem Matchers_loop {l : List Int} (hl : I64s l) : ∀ (k : Nat) (i : Nat) (ms : List DMatcher), ((i + k : Nat) : Int) = pickC l 0 4 → ms.length = i → (∀ m ∈ ms, matcherB m = true) →
    ∃ r, P_ref05_Matchers_0 L0 ((l, (names0, (i : Int))), (values1, ms)) = some r ∧ r.length ≤ 3 ∧ ∀ m ∈ r, matcherB m = true := by
  intro k
  induction k with
  | zero =>
    intro i ms hk hm ha
    have hr := pick_range (l := l) (i := 0) (m := 4) (by omega)
    refine ⟨ms, ?_, by omega, ha⟩
    refine go_ref05_Matchers_0 _ _ _ _ _ ?_
    unfold B_ref05_Matchers_0
    have hp := Pick_ok hl 0 (m := 4) (by omega)
    replace hp : S_ref01_Pick L0 (l, ((0 : Int), (4 : Int))) = some (pickC l 0 4) := hp
    rw [hp]
    simp only [Option.bind_some]
    rw [if_neg (by simp; omega)]
  | succ k ih =>
    intro i ms hk hm ha
    have hr := pick_range (l := l) (i := 0) (m := 4) (by omega)
    have r1 := pick_range (l := l) (i := 3 * i + 1) (m := 6) (by omega)
    have r2 := pick_range (l := l) (i := 3 * i + 2) (m := 3) (by omega)
    have r3 := pick_range (l := l) (i := 3 * i + 3) (m := 8) (by omega)
    have hn1 := rdx_all (t := .str) names0_all r1.1 (by have : (names0.length : Int) = 6 := rfl; omega)
    have hv1 := rdx_all (t := .str) values1_all r3.1 (by have : (values1.length : Int) = 8 := rfl; omega)
    have hnew : matcherB ⟨rdx .str names0 (pickC l (3 * i + 1) 6), pickC l (3 * i + 2) 3, rdx .str values1 (pickC l (3 * i + 3) 8)⟩ = true := by
      unfold matcherB
      simp only [hn1, hv1, Bool.true_and, Bool.and_true, Bool.and_eq_true, decide_eq_true_eq]
      omega
    obtain ⟨r, h1, h2, h3⟩ := ih (i + 1) (ms ++ [⟨rdx .str names0 (pickC l (3 * i + 1) 6), pickC l (3 * i + 2) 3, rdx .str values1 (pickC l (3 * i + 3) 8)⟩]) (by rw [← hk]; omega) (by simp [hm]) (fun m hm' => by
      rcases List.mem_append.1 hm' with h | h
      · exact ha m h
      · rw [List.mem_singleton.1 h]; exact hnew)
    refine ⟨r, ?_, h2, h3⟩
    refine go_ref05_Matchers_0 _ _ _ _ _ ?_
    unfold B_ref05_Matchers_0
    have hp := Pick_ok hl 0 (m := 4) (by omega)
    replace hp : S_ref01_Pick L0 (l, ((0 : Int), (4 : Int))) = some (pickC l 0 4) := hp
    have w0 : IntKind.wrap .i64 (3 * (i : Int)) = 3 * (i : Int) := wrap64 (by omega) (by omega)
    have w1 : IntKind.wrap .i64 (3 * (i : Int) + 1) = ((3 * i + 1 : Nat) : Int) := by rw [wrap64 (by omega) (by omega)]; omega
    have w2 : IntKind.wrap .i64 (3 * (i : Int) + 2) = ((3 * i + 2 : Nat) : Int) := by rw [wrap64 (by omega) (by omega)]; omega
    have w3 : IntKind.wrap .i64 (3 * (i : Int) + 3) = ((3 * i + 3 : Nat) : Int) := by rw [wrap64 (by omega) (by omega)]; omega
    have w4 : IntKind.wrap .i64 ((i : Int) + 1) = ((i + 1 : Nat) : Int) := by rw [wrap64 (by omega) (by omega)]; omega
    rw [hp]
    simp only [Option.bind_some]
    rw [if_pos (by simp; omega), w0, w1, w2, w3, w4, Pick_ok hl _ (by omega), Pick_ok hl _ (by omega), Pick_ok hl _ (by omega)]
    simp only [Option.bind_some]
    have ln : ((names0.length : Nat) : Int) = 6 := rfl
    have lv : ((values1.length : Nat) : Int) = 8 := rfl
    have lv' : values1.length = 8 := rfl
    rw [if_pos (decide_eq_true (by rw [ln]; omega)), if_pos (decide_eq_true (by rw [lv]; omega)), if_pos (decide_eq_true (by rw [lv']; omega)), if_pos (by simp only [Bool.true_and, decide_eq_true_eq, List.length_cons, List.length_nil]; omega)]
    exact h1
theorem Matchers_ok {l : List Int} (hl : I64s l) : ∃ r, S_ref05_Matchers L0 l = some r ∧ r.length ≤ 3 ∧ ∀ m ∈ r, matcherB m = true := by
  have hr := pick_range (l := l) (i := 0) (m := 4) (by omega)
  obtain ⟨k, hk⟩ := Int.eq_ofNat_of_zero_le hr.1
  obtain ⟨r, h1, h2⟩ := Matchers_loop hl k 0 [] (by rw [hk]; simp) rfl (fun m hm => by cases hm)
  refine ⟨r, ?_, h2⟩
  refine go_ref05_Matchers _ ?_
  unfold B_ref05_Matchers
  rw [Names_ok, values_ok]
  exact h1
/-- Offsets up to a bound. -/
inductive OffB (M : Int) : DExpr → Prop
  | mk (e : DExpr) : e.offset ≤ M → (∀ k ∈ e.kids, OffB M k) → OffB M e
theorem OffB.off {M : Int} {e : DExpr} (h : OffB M e) : e.offset ≤ M := by cases h; assumption
theorem OffB.kid {M : Int} {e k : DExpr} (h : OffB M e) (hk : k ∈ e.kids) : OffB M k := by cases h; rename_i h; exact h k hk
/-- A tree as the generator makes it. -/
structure Gd (M : Int) (d : Nat) (e : DExpr) : Prop where
  offs : OffB M e
  valid : validC e = 0
  nodes : nodes e + 1 ≤ 2 ^ d
  depth : depth e ≤ d
  wf : Wf e
structure GP (l : List Int) (names : List ByteArray) (most : Int) : Prop where
  l64 : I64s l
  good : ∀ s ∈ names, nameB s = true ∧ hasS wGroups s = false
  pos : 0 < names.length
  few : names.length ≤ 1000
  lo : 1 ≤ most
  hi : most ≤ 4096
theorem sel_good {M : Int} {f w o k : Int} {s : ByteArray} {ms : List DMatcher} (hf0 : 0 ≤ f) (hf7 : f ≤ 7) (ho : 0 ≤ o ∧ o ≤ 4096 ∧ o ≤ M) (hw : if f = 0 then w = 0 ∧ k = 0 else 1 ≤ w ∧ w ≤ 4096 ∧ (if f = 7 then 1 ≤ k ∧ k ≤ w else k = 0)) (hs : nameB s = true ∧ hasS wGroups s = false) (hm : ms.length ≤ 3) (hma : ∀ m ∈ ms, matcherB m = true) {d : Nat} (hd : 1 ≤ d) :
    Gd M d ⟨1, f, w, o, k, ⟨0, 0⟩, s, ms, [], []⟩ := by
  have h1 : shapedB ⟨1, f, w, o, k, ⟨0, 0⟩, s, ms, [], []⟩ = true := by unfold shapedB; simp [hf0, hf7]
  have h2 : namedB ⟨1, f, w, o, k, ⟨0, 0⟩, s, ms, [], []⟩ = true := by
    unfold namedB
    simp [hs.1, hs.2, bysB, bysFrom]
    exact hma
  have h3 : rangedB ⟨1, f, w, o, k, ⟨0, 0⟩, s, ms, [], []⟩ = true := by
    unfold rangedB
    simp only [if_true, ho.1, ho.2.1, decide_true, Bool.true_and]
    by_cases f0 : f = 0
    · rw [if_pos f0] at hw ⊢; simp [hw.1, hw.2]
    · rw [if_neg f0] at hw ⊢
      by_cases f7 : f = 7
      · rw [if_pos f7] at hw ⊢; simp [hw.1, hw.2.1, hw.2.2.1, hw.2.2.2]
      · rw [if_neg f7] at hw ⊢; simp [hw.1, hw.2.1, hw.2.2]
  have hp : 2 ≤ 2 ^ d := by
    calc 2 = 2 ^ 1 := rfl
      _ ≤ 2 ^ d := Nat.pow_le_pow_right (by omega) hd
  refine ⟨.mk _ ho.2.2 (fun k hk => by cases hk), ?_, ?_, ?_, ?_⟩
  · rw [validC_eq, h1, h2, h3]; simp [validL]; omega
  · rw [nodes_eq]; simp [nodesL]; omega
  · rw [depth_eq]; simp [depthL]; omega
  · exact .mk _ (by unfold I64; simp) (by unfold I64; simp) (by unfold I64; simp) (by show ms.length ≤ big; unfold big; omega) (by show ([] : List ByteArray).length ≤ big; simp) (fun k hk => by cases hk)
theorem selection_loop {l : List Int} {names : List ByteArray} {most : Int} (g : GP l names most) (z5 z6 z7 z8 z9 z10 z11 : Int) (z12 : ByteArray) (kd f w o k n1 n2 : Int) (s : ByteArray) (z21 : List DMatcher) (z22 : List ByteArray) (z23 : List DExpr) (z24 : List DMatcher) (z25 : List ByteArray) (z26 : List DExpr) : ∀ (m : Nat) (j i : Nat) (acc : List Int), j + m = 10 → i + m ≤ 100000000 → acc.length = j → I64s acc →
    ∃ ms, P_ref07_G_selection_0 L0 ((j : Int), ((l, ((i : Int), (names, most))), ((z5, (z6, (z7, (z8, (z9, (z10, (z11, z12))))))), ((kd, (f, (w, (o, (k, (n1, (n2, s))))))), (z21, (z22, (z23, (z24, (z25, (z26, acc)))))))))) = some (⟨kd, f, w, o, k, ⟨n1, n2⟩, s, ms, z25, z26⟩, (l, (((i + m : Nat) : Int), (names, most)))) ∧ ms.length ≤ 3 ∧ ∀ x ∈ ms, matcherB x = true := by
  intro m
  induction m with
  | zero =>
    intro j i acc hj hi ha hacc
    obtain ⟨ms, h1, h2, h3⟩ := Matchers_ok hacc
    refine ⟨ms, ?_, h2, h3⟩
    refine go_ref07_G_selection_0 _ _ _ _ _ _ _ _ _ _ _ _ _ _ _ _ _ _ _ _ _ _ _ _ _ _ _ _ ?_
    unfold B_ref07_G_selection_0
    rw [if_neg (by simp; omega), h1]
    rfl
  | succ m ih =>
    intro j i acc hj hi ha hacc
    have hr := pick_range (l := l) (i := i) (m := 1000) (by omega)
    obtain ⟨ms, h1, h2⟩ := ih (j + 1) (i + 1) (acc ++ [pickC l i 1000]) (by omega) (by omega) (by simp; omega) (fun n hn => by
        rcases List.mem_append.1 hn with h | h
        · exact hacc n h
        · rw [List.mem_singleton.1 h]; unfold I64; omega)
    refine ⟨ms, ?_, h2⟩
    refine go_ref07_G_selection_0 _ _ _ _ _ _ _ _ _ _ _ _ _ _ _ _ _ _ _ _ _ _ _ _ _ _ _ _ ?_
    unfold B_ref07_G_selection_0
    rw [if_pos (by simp; omega), next_ok g.l64 (by omega) (by omega)]
    simp only [Option.bind_some]
    have w4 : IntKind.wrap .i64 ((j : Int) + 1) = ((j + 1 : Nat) : Int) := by rw [wrap64 (by omega) (by omega)]; omega
    rw [if_pos (by simp only [Bool.true_and, decide_eq_true_eq, List.length_cons, List.length_nil]; omega), w4, h1]
    rw [show i + 1 + m = i + (m + 1) by omega]
/-- From the numbers, an expression with at most a depth. -/
def Makes (d : Nat) (l : List Int) (i : Nat) (names : List ByteArray) (most : Int) (c : Nat) (r : Option (DExpr × (List Int × (Int × (List ByteArray × Int))))) : Prop :=
  ∃ e i', r = some (e, (l, (((i' : Nat) : Int), (names, most)))) ∧ i' ≤ i + c ∧ Gd most d e
theorem selection_ok {l : List Int} {names : List ByteArray} {most : Int} (g : GP l names most) {i : Nat} (hi : i ≤ 1000000) {d : Nat} (hd : 1 ≤ d) : Makes d l i names most 40 (S_ref07_G_selection L0 (l, ((i : Int), (names, most)))) := by
  have hbody : ∀ z, B_ref07_G_selection L0 l (i : Int) names most = some z → S_ref07_G_selection L0 (l, ((i : Int), (names, most))) = some z := fun z h => go_ref07_G_selection _ _ _ _ h
  have hpos := g.pos
  have hfew := g.few
  have hlo := g.lo
  have hhi := g.hi
  have rf := pick_range (l := l) (i := i) (m := 8) (by omega)
  have rn := pick_range (l := l) (i := i + 1) (m := (names.length : Int)) (by omega)
  have hname := rdx_all (t := .str) g.good rn.1 rn.2
  unfold B_ref07_G_selection at hbody
  rw [next_ok g.l64 (by omega) (by omega)] at hbody
  simp only [Option.bind_some, and_true, and_self, holdsP_iff, if_true] at hbody
  rw [next_ok g.l64 (by omega) (by omega)] at hbody
  simp only [Option.bind_some, and_true, and_self, holdsP_iff, if_true, decide_eq_true (show (0 : Int) ≤ pickC l (i + 1) (names.length : Int) ∧ pickC l (i + 1) (names.length : Int) < (names.length : Int) from rn)] at hbody
  generalize pickC l i 8 = f at *
  generalize rdx .str names (pickC l (i + 1) (names.length : Int)) = s at *
  -- the end: the offset, the matchers
  have fin : ∀ (j : Nat) (w k : Int), j ≤ i + 4 → (if f = 0 then w = 0 ∧ k = 0 else 1 ≤ w ∧ w ≤ 4096 ∧ (if f = 7 then 1 ≤ k ∧ k ≤ w else k = 0)) → ∀ R : Option (DExpr × (List Int × (Int × (List ByteArray × Int)))),
      (((S_ref07_G_next L0 (2, (l, ((j : Int), (names, most))))).bind fun y => if (y.1 == 1) = true then
          (S_ref07_G_next L0 (IntKind.wrap .i64 (y.2.2.2.2 + 1), (y.2.1, (y.2.2.1, (y.2.2.2.1, y.2.2.2.2))))).bind fun q =>
            (S_ref07_G_next L0 (2, (q.2.1, (q.2.2.1, (q.2.2.2.1, q.2.2.2.2))))).bind fun r => if (r.1 == 1) = true then
              P_ref07_G_selection_0 L0 (0, ((r.2.1, (r.2.2.1, (r.2.2.2.1, r.2.2.2.2))), ((0, (0, (0, (0, (0, (0, (0, zeroS))))))), ((1, (f, (w, (q.1, (k, (0, (0, s))))))), ([], ([], ([], ([], ([], ([], []))))))))))
            else some (⟨1, f, w, q.1, k, ⟨0, 0⟩, s, [], [], []⟩, (r.2.1, (r.2.2.1, (r.2.2.2.1, r.2.2.2.2))))
        else (S_ref07_G_next L0 (2, (y.2.1, (y.2.2.1, (y.2.2.2.1, y.2.2.2.2))))).bind fun r => if (r.1 == 1) = true then
              P_ref07_G_selection_0 L0 (0, ((r.2.1, (r.2.2.1, (r.2.2.2.1, r.2.2.2.2))), ((0, (0, (0, (0, (0, (0, (0, zeroS))))))), ((1, (f, (w, (0, (k, (0, (0, s))))))), ([], ([], ([], ([], ([], ([], []))))))))))
            else some (⟨1, f, w, 0, k, ⟨0, 0⟩, s, [], [], []⟩, (r.2.1, (r.2.2.1, (r.2.2.2.1, r.2.2.2.2)))))) = R → Makes d l i names most 40 R := by
    intro j w k hj hw R hR
    have ro := pick_range (l := l) (i := j + 1) (m := most + 1) (by omega)
    rw [next_ok g.l64 (by omega) (by omega)] at hR
    have ww : IntKind.wrap .i64 (most + 1) = most + 1 := wrap64 (by omega) (by omega)
    simp only [Option.bind_some, ww] at hR
    by_cases c1 : pickC l j 2 = 1
    · rw [c1] at hR
      simp only [beq_self_eq_true, if_true] at hR
      rw [next_ok g.l64 (by omega) (by omega)] at hR
      simp only [Option.bind_some] at hR
      rw [next_ok g.l64 (by omega) (by omega)] at hR
      simp only [Option.bind_some] at hR
      by_cases c2 : pickC l (j + 1 + 1) 2 = 1
      · rw [c2] at hR
        simp only [beq_self_eq_true, if_true] at hR
        obtain ⟨ms, h1, h2, h3⟩ := selection_loop g 0 0 0 0 0 0 0 zeroS 1 f w (pickC l (j + 1) (most + 1)) k 0 0 s [] [] [] [] [] [] 10 0 (j + 1 + 1 + 1) [] (by omega) (by omega) rfl (fun n hn => by cases hn)
        have h1' := h1.symm.trans hR
        exact ⟨_, _, h1'.symm, by omega, sel_good rf.1 (by omega) ⟨ro.1, by omega, by omega⟩ hw hname h2 h3 hd⟩
      · have : (pickC l (j + 1 + 1) 2 == 1) = false := by simpa using c2
        rw [this] at hR
        simp only [Bool.false_eq_true, if_false] at hR
        exact ⟨_, _, hR.symm, by omega, sel_good rf.1 (by omega) ⟨ro.1, by omega, by omega⟩ hw hname (by simp) (fun m hm => by cases hm) hd⟩
    · have : (pickC l j 2 == 1) = false := by simpa using c1
      rw [this] at hR
      simp only [Bool.false_eq_true, if_false] at hR
      rw [next_ok g.l64 (by omega) (by omega)] at hR
      simp only [Option.bind_some] at hR
      by_cases c2 : pickC l (j + 1) 2 = 1
      · rw [c2] at hR
        simp only [beq_self_eq_true, if_true] at hR
        obtain ⟨ms, h1, h2, h3⟩ := selection_loop g 0 0 0 0 0 0 0 zeroS 1 f w 0 k 0 0 s [] [] [] [] [] [] 10 0 (j + 1 + 1) [] (by omega) (by omega) rfl (fun n hn => by cases hn)
        have h1' := h1.symm.trans hR
        exact ⟨_, _, h1'.symm, by omega, sel_good rf.1 (by omega) ⟨by omega, by omega, by omega⟩ hw hname h2 h3 hd⟩
      · have : (pickC l (j + 1) 2 == 1) = false := by simpa using c2
        rw [this] at hR
        simp only [Bool.false_eq_true, if_false] at hR
        exact ⟨_, _, hR.symm, by omega, sel_good rf.1 (by omega) ⟨by omega, by omega, by omega⟩ hw hname (by simp) (fun m hm => by cases hm) hd⟩
  have lift : ∀ R, Makes d l i names most 40 R → (∀ z, R = some z → S_ref07_G_selection L0 (l, ((i : Int), (names, most))) = some z) → Makes d l i names most 40 (S_ref07_G_selection L0 (l, ((i : Int), (names, most)))) := by
    rintro R ⟨e, i', h1, h2, h3⟩ h
    exact ⟨e, i', h _ h1, h2, h3⟩
  by_cases f0 : f = 0
  · subst f0
    have e7 : ((0 : Int) == 7) = false := rfl
    have e0 : ((0 : Int) != 0) = false := rfl
    simp only [e0, e7, Bool.false_eq_true, if_false] at hbody
    exact lift _ (fin (i + 2) 0 0 (by omega) (by simp) _ rfl) hbody
  · have e0 : (f != 0) = true := by simpa using f0
    simp only [e0, if_true] at hbody
    have rw' := pick_range (l := l) (i := i + 2) (m := most) (by omega)
    rw [next_ok g.l64 (by omega) (by omega)] at hbody
    have w1 : IntKind.wrap .i64 (1 + pickC l (i + 2) most) = 1 + pickC l (i + 2) most := wrap64 (by omega) (by omega)
    simp only [Option.bind_some, w1] at hbody
    by_cases f7 : f = 7
    · subst f7
      simp only [beq_self_eq_true, if_true] at hbody
      have rk := pick_range (l := l) (i := i + 3) (m := 1 + pickC l (i + 2) most) (by omega)
      rw [next_ok g.l64 (by omega) (by omega)] at hbody
      have w2 : IntKind.wrap .i64 (1 + pickC l (i + 3) (1 + pickC l (i + 2) most)) = 1 + pickC l (i + 3) (1 + pickC l (i + 2) most) := wrap64 (by omega) (by omega)
      simp only [Option.bind_some, w2] at hbody
      exact lift _ (fin (i + 4) (1 + pickC l (i + 2) most) (1 + pickC l (i + 3) (1 + pickC l (i + 2) most)) (by omega) (by rw [if_neg (by omega)]; exact ⟨by omega, by omega, by rw [if_pos rfl]; exact ⟨by omega, by omega⟩⟩) _ rfl) hbody
    · have e7 : (f == 7) = false := by simpa using f7
      simp only [e7, Bool.false_eq_true, if_false] at hbody
      exact lift _ (fin (i + 3) (1 + pickC l (i + 2) most) 0 (by omega) (by rw [if_neg f0]; exact ⟨by omega, by omega, by rw [if_neg f7]⟩) _ rfl) hbody
/-- The names whose digits are set. -/
def byC : List ByteArray → Int → List ByteArray
  | [], _ => []
  | s :: r, w => (if Int.tmod w 4 = 1 then [s] else []) ++ byC r (Int.tdiv w 2)
def bysD : Option ByteArray → List ByteArray → Bool
  | _, [] => true
  | o, s :: r => nameB s && (match o with | none => true | some p => !(Op.bytesLess s.data.toList p.data.toList || s.data.toList == p.data.toList)) && bysD (some s) r
theorem bysFrom_dec : ∀ (l : List ByteArray) (o : Option ByteArray), bysFrom o l = bysD o l
  | [], _ => rfl
  | s :: r, o => by
    have ih := bysFrom_dec r (some s)
    cases o with
    | none => simp only [bysFrom, bysD, ih]
    | some p => simp only [bysFrom, bysD, ih, ByteArray.toList_eq]
theorem byC_good : ∀ w : Nat, w < 64 → bysB (byC names0 (w : Int)) = true ∧ (byC names0 (w : Int)).length ≤ 6 := by
  intro w hw
  unfold bysB
  rw [bysFrom_dec]
  have : ((List.range 64).all fun w => bysD none (byC names0 (w : Int)) && decide ((byC names0 (w : Int)).length ≤ 6)) = true := by decide +kernel
  have := List.all_eq_true.1 this w (List.mem_range.2 hw)
  simpa using this
theorem Makes.mono {d c c' : Nat} {l : List Int} {i : Nat} {names : List ByteArray} {most : Int} {r : Option (DExpr × (List Int × (Int × (List ByteArray × Int))))} (h : Makes d l i names most c r) (hc : c ≤ c') : Makes d l i names most c' r := by
  obtain ⟨e, i', h1, h2, h3⟩ := h
  exact ⟨e, i', h1, by omega, h3⟩
theorem pow_two {d : Nat} (hd : 2 ≤ d) : 2 ^ d = 2 * 2 ^ (d - 1) ∧ 2 ≤ 2 ^ (d - 1) := by
  obtain ⟨n, rfl⟩ : ∃ n, d = n + 2 := ⟨d - 2, by omega⟩
  have h1 : 2 ^ (n + 2) = 2 * 2 ^ (n + 1) := by rw [Nat.pow_succ]; omega
  have h2 : 2 ^ (n + 1) = 2 * 2 ^ n := by rw [Nat.pow_succ]; omega
  have h3 : 0 < 2 ^ n := Nat.pos_of_ne_zero (by simp)
  simp only [Nat.add_sub_cancel, show n + 2 - 1 = n + 1 by omega]
  omega
theorem group_good {M : Int} (hM : 0 ≤ M) {d : Nat} (hd : 2 ≤ d) {f k : Int} {bys : List ByteArray} {e : DExpr} (he : Gd M (d - 1) e) (hf : 0 ≤ f ∧ f ≤ 4) (hk : if f = 4 then 1 ≤ k ∧ k ≤ 4096 else k = 0) (hb : bysB bys = true ∧ bys.length ≤ 6) :
    Gd M d ⟨2, f, 0, 0, k, ⟨0, 0⟩, zeroS, [], bys, [e]⟩ := by
  have h1 : shapedB ⟨2, f, 0, 0, k, ⟨0, 0⟩, zeroS, [], bys, [e]⟩ = true := by unfold shapedB; simp [hf.1, hf.2, same_self]
  have h2 : namedB ⟨2, f, 0, 0, k, ⟨0, 0⟩, zeroS, [], bys, [e]⟩ = true := by
    unfold namedB
    simp [hb.1]
  have h3 : rangedB ⟨2, f, 0, 0, k, ⟨0, 0⟩, zeroS, [], bys, [e]⟩ = true := by
    unfold rangedB
    by_cases f4 : f = 4
    · rw [if_pos f4] at hk; simp [f4, hk.1, hk.2]
    · rw [if_neg f4] at hk; simp [f4, hk]
  obtain ⟨p1, p2⟩ := pow_two hd
  have hn := he.nodes
  have hdp := he.depth
  refine ⟨.mk _ hM (fun k hk => by rw [List.mem_singleton.1 hk]; exact he.offs), ?_, ?_, ?_, ?_⟩
  · rw [validC_eq, h1, h2, h3]; simp [validL, he.valid]; omega
  · rw [nodes_eq]; simp only [nodesL]; omega
  · rw [depth_eq]; simp only [depthL]; omega
  · refine .mk _ (by unfold I64; simp) (by unfold I64; simp) (by unfold I64; simp) (by show ([] : List DMatcher).length ≤ big; simp) (by show bys.length ≤ big; unfold big; omega) (fun k hk => ?_)
    rw [List.mem_singleton.1 hk]; exact he.wf
theorem num_good {M : Int} (hM : 0 ≤ M) {d : Nat} (hd : 1 ≤ d) {n : Int} (hn : 0 ≤ n ∧ n ≤ 1073741824) : Gd M d ⟨0, 0, 0, 0, 0, ⟨n, 1⟩, zeroS, [], [], []⟩ := by
  have hf : fracB ⟨n, 1⟩ = true := by
    unfold fracB
    simp only [Bool.and_eq_true, decide_eq_true_eq]
    refine ⟨⟨⟨by omega, by omega⟩, by omega⟩, ?_⟩
    simp
  have h1 : shapedB ⟨0, 0, 0, 0, 0, ⟨n, 1⟩, zeroS, [], [], []⟩ = true := by unfold shapedB; simp [hf, same_self]
  have h2 : namedB ⟨0, 0, 0, 0, 0, ⟨n, 1⟩, zeroS, [], [], []⟩ = true := by unfold namedB; simp [bysB, bysFrom]
  have h3 : rangedB ⟨0, 0, 0, 0, 0, ⟨n, 1⟩, zeroS, [], [], []⟩ = true := by unfold rangedB; simp
  have hp : 2 ≤ 2 ^ d := by
    calc 2 = 2 ^ 1 := rfl
      _ ≤ 2 ^ d := Nat.pow_le_pow_right (by omega) hd
  refine ⟨.mk _ hM (fun k hk => by cases hk), ?_, ?_, ?_, ?_⟩
  · rw [validC_eq, h1, h2, h3]; simp [validL]
  · rw [nodes_eq]; simp [nodesL]; omega
  · rw [depth_eq]; simp [depthL]; omega
  · exact .mk _ (by unfold I64; simp) (by unfold I64; show _ ≤ n ∧ n ≤ _; omega) (by unfold I64; simp) (by show ([] : List DMatcher).length ≤ big; simp) (by show ([] : List ByteArray).length ≤ big; simp) (fun k hk => by cases hk)
theorem bin_good {M : Int} (hM : 0 ≤ M) {d : Nat} (hd : 2 ≤ d) {f : Int} {a b : DExpr} (ha : Gd M (d - 1) a) (hb : Gd M (d - 1) b) (hf : 0 ≤ f ∧ f < 4) : Gd M d ⟨3, f, 0, 0, 0, ⟨0, 0⟩, zeroS, [], [], [a, b]⟩ := by
  have hf' : f ≤ 3 := by omega
  have h1 : shapedB ⟨3, f, 0, 0, 0, ⟨0, 0⟩, zeroS, [], [], [a, b]⟩ = true := by unfold shapedB; simp [hf.1, hf', same_self]
  have h2 : namedB ⟨3, f, 0, 0, 0, ⟨0, 0⟩, zeroS, [], [], [a, b]⟩ = true := by unfold namedB; simp [bysB, bysFrom]
  have h3 : rangedB ⟨3, f, 0, 0, 0, ⟨0, 0⟩, zeroS, [], [], [a, b]⟩ = true := by unfold rangedB; simp
  obtain ⟨p1, p2⟩ := pow_two hd
  have n1 := ha.nodes
  have n2 := hb.nodes
  have d1 := ha.depth
  have d2 := hb.depth
  refine ⟨.mk _ hM (fun k hk => ?_), ?_, ?_, ?_, ?_⟩
  · have hk : k ∈ [a, b] := hk
    simp only [List.mem_cons, List.not_mem_nil, or_false] at hk
    rcases hk with rfl | rfl
    · exact ha.offs
    · exact hb.offs
  · rw [validC_eq, h1, h2, h3]; simp [validL, ha.valid, hb.valid]
  · rw [nodes_eq]; simp only [nodesL]; omega
  · rw [depth_eq]; simp only [depthL]; omega
  · refine .mk _ (by unfold I64; simp) (by unfold I64; simp) (by unfold I64; simp) (by show ([] : List DMatcher).length ≤ big; simp) (by show ([] : List ByteArray).length ≤ big; simp) (fun k hk => ?_)
    have hk : k ∈ [a, b] := hk
    simp only [List.mem_cons, List.not_mem_nil, or_false] at hk
    rcases hk with rfl | rfl
    · exact ha.wf
    · exact hb.wf
theorem group_loop {l : List Int} {names : List ByteArray} {most : Int} {d : Nat} (hd : 2 ≤ d) (hd4 : d ≤ 1000) {c : Nat} {j : Nat} (ih : Makes (d - 1) l j names most c (S_ref07_G_expr L0 (((d - 1 : Nat) : Int), (l, ((j : Int), (names, most)))))) (z8 z9 z10 z11 z12 z13 z14 : Int) (z15 : ByteArray) (kd f w o k n1 n2 : Int) (s : ByteArray) (z24 : List DMatcher) (z25 : List ByteArray) (z26 : List DExpr) (z27 : List DMatcher) (z29 : List DExpr) : ∀ (suf pre : List ByteArray) (q : Nat) (acc : List ByteArray), names0 = pre ++ suf → q < 64 → acc.length ≤ pre.length →
    ∃ e j', P_ref07_G_group_0 L0 (((d : Int), (names0, ((q : Int), (pre.length : Int)))), ((l, ((j : Int), (names, most))), ((z8, (z9, (z10, (z11, (z12, (z13, (z14, z15))))))), ((kd, (f, (w, (o, (k, (n1, (n2, s))))))), (z24, (z25, (z26, (z27, (acc, z29))))))))) = some (⟨kd, f, w, o, k, ⟨n1, n2⟩, s, z27, acc ++ byC suf (q : Int), [e]⟩, (l, (((j' : Nat) : Int), (names, most)))) ∧ j' ≤ j + c ∧ Gd most (d - 1) e := by
  intro suf
  induction suf with
  | nil =>
    intro pre q acc he hq ha
    obtain ⟨e, j', h1, h2, h3⟩ := ih
    refine ⟨e, j', ?_, h2, h3⟩
    refine go_ref07_G_group_0 _ _ _ _ _ _ _ _ _ _ _ _ _ _ _ _ _ _ _ _ _ _ _ _ _ _ _ _ _ _ ?_
    unfold B_ref07_G_group_0
    have hl : ¬ (pre.length : Int) < (names0.length : Int) := by rw [he]; simp
    have w1 : IntKind.wrap .i64 ((d : Int) - 1) = ((d - 1 : Nat) : Int) := by rw [wrap64 (by omega) (by omega)]; omega
    rw [if_neg (by simpa using hl), w1, h1]
    simp [byC]
  | cons x suf ihs =>
    intro pre q acc he hq ha
    have hlen : names0.length = 6 := rfl
    have hpl : pre.length < 6 := by rw [← hlen, he]; simp
    have wq : IntKind.wrap .i64 (Int.tdiv (q : Int) 2) = ((q / 2 : Nat) : Int) := by
      have : Int.tdiv (q : Int) 2 = ((q / 2 : Nat) : Int) := rfl
      rw [this, wrap64 (by omega) (by omega)]
    have wi : IntKind.wrap .i64 ((pre.length : Int) + 1) = ((pre ++ [x]).length : Int) := by
      rw [wrap64 (by omega) (by omega)]; simp
    have td : Int.tdiv (q : Int) 2 = ((q / 2 : Nat) : Int) := rfl
    by_cases hm : Int.tmod (q : Int) 4 = 1
    · obtain ⟨e, j', h1, h2⟩ := ihs (pre ++ [x]) (q / 2) (acc ++ [x]) (by simp [he]) (by omega) (by simp; omega)
      refine ⟨e, j', ?_, h2⟩
      refine go_ref07_G_group_0 _ _ _ _ _ _ _ _ _ _ _ _ _ _ _ _ _ _ _ _ _ _ _ _ _ _ _ _ _ _ ?_
      unfold B_ref07_G_group_0
      rw [if_pos (decide_eq_true (show (pre.length : Int) < (names0.length : Int) by rw [hlen]; omega)), if_pos (by rw [hm]; rfl), if_pos (decide_eq_true (show (0 : Int) ≤ (pre.length : Int) ∧ (pre.length : Int) < (names0.length : Int) by rw [hlen]; omega))]
      have hr : rdx .str names0 (pre.length : Int) = x := by rw [he]; exact rdx_mid .str pre x suf
      rw [hr, wq, wi, if_pos (by simp only [Bool.true_and, decide_eq_true_eq, List.length_cons, List.length_nil]; omega), h1, byC, if_pos hm, td]
      simp
    · obtain ⟨e, j', h1, h2⟩ := ihs (pre ++ [x]) (q / 2) acc (by simp [he]) (by omega) (by simp; omega)
      refine ⟨e, j', ?_, h2⟩
      refine go_ref07_G_group_0 _ _ _ _ _ _ _ _ _ _ _ _ _ _ _ _ _ _ _ _ _ _ _ _ _ _ _ _ _ _ ?_
      unfold B_ref07_G_group_0
      rw [if_pos (decide_eq_true (show (pre.length : Int) < (names0.length : Int) by rw [hlen]; omega)), if_neg (by simpa using hm), wq, wi, h1, byC, if_neg hm, td]
      simp
theorem group_ok {l : List Int} {names : List ByteArray} {most : Int} (g : GP l names most) {d : Nat} (hd : 2 ≤ d) (hd4 : d ≤ 1000) {c : Nat} {i : Nat} (hi : i ≤ 1000000) (ih : ∀ j, j ≤ i + 10 → Makes (d - 1) l j names most c (S_ref07_G_expr L0 (((d - 1 : Nat) : Int), (l, ((j : Int), (names, most)))))) :
    Makes d l i names most (c + 10) (S_ref07_G_group L0 ((d : Int), (l, ((i : Int), (names, most))))) := by
  have hbody : ∀ z, B_ref07_G_group L0 (d : Int) l (i : Int) names most = some z → S_ref07_G_group L0 ((d : Int), (l, ((i : Int), (names, most)))) = some z := fun z h => go_ref07_G_group _ _ _ _ _ h
  unfold B_ref07_G_group at hbody
  have rf := pick_range (l := l) (i := i) (m := 5) (by omega)
  rw [next_ok g.l64 (by omega) (by omega)] at hbody
  simp only [Option.bind_some] at hbody
  by_cases f4 : pickC l i 5 = 4
  · rw [f4] at hbody
    simp only [beq_self_eq_true, if_true] at hbody
    have rk := pick_range (l := l) (i := i + 1) (m := 3) (by omega)
    have rq := pick_range (l := l) (i := i + 2) (m := 64) (by omega)
    rw [next_ok g.l64 (by omega) (by omega), Names_ok] at hbody
    simp only [Option.bind_some] at hbody
    rw [next_ok g.l64 (by omega) (by omega)] at hbody
    have w1 : IntKind.wrap .i64 (1 + pickC l (i + 1) 3) = 1 + pickC l (i + 1) 3 := wrap64 (by omega) (by omega)
    simp only [Option.bind_some, w1] at hbody
    obtain ⟨q, hq⟩ := Int.eq_ofNat_of_zero_le rq.1
    have hq' : pickC l (i + 1 + 1) 64 = (q : Int) := hq
    rw [hq'] at hbody
    obtain ⟨e, j', h1, h2, h3⟩ := group_loop hd hd4 (ih (i + 1 + 1 + 1) (by omega)) 0 0 0 0 0 0 0 zeroS 2 4 0 0 (1 + pickC l (i + 1) 3) 0 0 zeroS [] [] [] [] [] names0 [] q [] rfl (by omega) (by simp)
    refine ⟨_, j', hbody _ h1, by omega, ?_⟩
    exact group_good (by have := g.lo; omega) hd h3 ⟨by omega, by omega⟩ (by rw [if_pos rfl]; omega) (byC_good q (by omega))
  · have : (pickC l i 5 == 4) = false := by simpa using f4
    rw [this] at hbody
    simp only [Bool.false_eq_true, if_false] at hbody
    have rq := pick_range (l := l) (i := i + 1) (m := 64) (by omega)
    rw [Names_ok] at hbody
    simp only [Option.bind_some] at hbody
    rw [next_ok g.l64 (by omega) (by omega)] at hbody
    simp only [Option.bind_some] at hbody
    obtain ⟨q, hq⟩ := Int.eq_ofNat_of_zero_le rq.1
    rw [hq] at hbody
    obtain ⟨e, j', h1, h2, h3⟩ := group_loop hd hd4 (ih (i + 1 + 1) (by omega)) 0 0 0 0 0 0 0 zeroS 2 (pickC l i 5) 0 0 0 0 0 zeroS [] [] [] [] [] names0 [] q [] rfl (by omega) (by simp)
    refine ⟨_, j', hbody _ h1, by omega, ?_⟩
    exact group_good (by have := g.lo; omega) hd h3 ⟨by omega, by omega⟩ (by rw [if_neg f4]) (byC_good q (by omega))
def numsT : List Int := [0, 1, 2, 7, 10, 1073741824]
theorem numsT_all : ∀ n ∈ numsT, 0 ≤ n ∧ n ≤ 1073741824 := by decide
theorem expr_ok {l : List Int} {names : List ByteArray} {most : Int} (g : GP l names most) : ∀ d : Nat, 1 ≤ d → d ≤ 4 → ∀ i : Nat, i ≤ 1000 * (10 - d) → Makes d l i names most (60 * (2 ^ d - 1)) (S_ref07_G_expr L0 ((d : Int), (l, ((i : Int), (names, most))))) := by
  intro d
  induction d with
  | zero => intro h; omega
  | succ d ih =>
    intro hd1 hd4 i hi
    have hbody : ∀ z, B_ref07_G_expr L0 ((d + 1 : Nat) : Int) l (i : Int) names most = some z → S_ref07_G_expr L0 (((d + 1 : Nat) : Int), (l, ((i : Int), (names, most)))) = some z := fun z h => go_ref07_G_expr _ _ _ _ _ h
    have lift : ∀ R, Makes (d + 1) l i names most (60 * (2 ^ (d + 1) - 1)) R → (∀ z, R = some z → S_ref07_G_expr L0 (((d + 1 : Nat) : Int), (l, ((i : Int), (names, most)))) = some z) → Makes (d + 1) l i names most (60 * (2 ^ (d + 1) - 1)) (S_ref07_G_expr L0 (((d + 1 : Nat) : Int), (l, ((i : Int), (names, most))))) := by
      rintro R ⟨e, i', h1, h2, h3⟩ h
      exact ⟨e, i', h _ h1, h2, h3⟩
    have hpow : 2 ≤ 2 ^ (d + 1) := by
      calc 2 = 2 ^ 1 := rfl
        _ ≤ 2 ^ (d + 1) := Nat.pow_le_pow_right (by omega) (by omega)
    unfold B_ref07_G_expr at hbody
    have rk := pick_range (l := l) (i := i) (m := 8) (by omega)
    rw [next_ok g.l64 (by omega) (by omega)] at hbody
    simp only [Option.bind_some] at hbody
    have hnum : ∀ R : Option (DExpr × (List Int × (Int × (List ByteArray × Int)))), ((S_ref07_G_next L0 (6, (l, (((i + 1 : Nat) : Int), (names, most))))).bind fun y => if decide ((0 : Int) ≤ y.1 ∧ y.1 < (6 : Int)) = true then if decide (Int.toNat y.1 < 6) = true then some ((⟨0, 0, 0, 0, 0, ⟨rdx (.i .i64) numsT y.1, 1⟩, zeroS, [], [], []⟩ : DExpr), (y.2.1, (y.2.2.1, (y.2.2.2.1, y.2.2.2.2)))) else none else none) = R → Makes (d + 1) l i names most (60 * (2 ^ (d + 1) - 1)) R := by
      intro R hR
      have rn := pick_range (l := l) (i := i + 1) (m := 6) (by omega)
      rw [next_ok g.l64 (by omega) (by omega)] at hR
      simp only [Option.bind_some] at hR
      rw [if_pos (decide_eq_true rn), if_pos (decide_eq_true (by omega))] at hR
      exact ⟨_, _, hR.symm, by omega, num_good (by have := g.lo; omega) (by omega) (rdx_all (t := .i .i64) numsT_all rn.1 (by have : ((numsT.length : Nat) : Int) = 6 := rfl; omega))⟩
    have hsel : Makes (d + 1) l i names most (60 * (2 ^ (d + 1) - 1)) (S_ref07_G_selection L0 (l, (((i + 1 : Nat) : Int), (names, most)))) := by
      obtain ⟨e, i', h1, h2, h3⟩ := selection_ok g (i := i + 1) (by omega) (d := d + 1) (by omega)
      exact ⟨e, i', h1, by omega, h3⟩
    have hsel' : Makes (d + 1) l i names most (60 * (2 ^ (d + 1) - 1)) ((S_ref07_G_selection L0 (l, (((i + 1 : Nat) : Int), (names, most)))).bind fun y => some (eE y.1, (y.2.1, (y.2.2.1, (y.2.2.2.1, y.2.2.2.2))))) := by
      obtain ⟨e, i', h1, h2, h3⟩ := hsel
      refine ⟨e, i', ?_, h2, h3⟩
      rw [h1]
      simp
    by_cases k0 : pickC l i 8 = 0
    · rw [k0] at hbody
      simp only [beq_self_eq_true, if_true] at hbody
      exact lift _ (hnum _ rfl) hbody
    have k0' : (pickC l i 8 == 0) = false := by simpa using k0
    rw [k0'] at hbody
    simp only [Bool.false_eq_true, if_false] at hbody
    by_cases d0 : d = 0
    · subst d0
      have c1 : ((0 + 1 : Nat) : Int) ≤ 1 := by decide
      simp only [c1, decide_true, if_true] at hbody
      by_cases k3 : pickC l i 8 < 3
      · simp only [k3, decide_true, if_true] at hbody
        exact lift _ (hnum _ rfl) hbody
      · simp only [k3, decide_false, Bool.false_eq_true, if_false] at hbody
        exact lift _ hsel' hbody
    · have c1 : ¬ ((d + 1 : Nat) : Int) ≤ 1 := by omega
      simp only [c1, decide_false, Bool.false_eq_true, if_false] at hbody
      have hp2 := (pow_two (d := d + 1) (by omega)).1
      simp only [Nat.add_sub_cancel] at hp2
      have hp3 := (pow_two (d := d + 1) (by omega)).2
      simp only [Nat.add_sub_cancel] at hp3
      have hp4 : 2 ^ d ≤ 8 := by
        calc 2 ^ d ≤ 2 ^ 3 := Nat.pow_le_pow_right (by omega) (by omega)
          _ = 8 := rfl
      by_cases k4 : pickC l i 8 < 4
      · simp only [k4, decide_true, if_true] at hbody
        exact lift _ hsel' hbody
      simp only [k4, decide_false, Bool.false_eq_true, if_false] at hbody
      by_cases k5 : pickC l i 8 = 4
      · rw [k5] at hbody
        simp only [beq_self_eq_true, if_true] at hbody
        have hg := group_ok g (d := d + 1) (by omega) (by omega) (i := i + 1) (c := 60 * (2 ^ d - 1)) (by omega) (fun j hj => by
          simp only [Nat.add_sub_cancel]
          exact ih (by omega) (by omega) j (by omega))
        refine lift _ ?_ hbody
        obtain ⟨e, i', h1, h2, h3⟩ := hg
        refine ⟨e, i', ?_, by omega, h3⟩
        rw [h1]
        simp
      · have k5' : (pickC l i 8 == 4) = false := by simpa using k5
        rw [k5'] at hbody
        simp only [Bool.false_eq_true, if_false] at hbody
        have rf := pick_range (l := l) (i := i + 1) (m := 4) (by omega)
        rw [next_ok g.l64 (by omega) (by omega)] at hbody
        have w1 : IntKind.wrap .i64 (((d + 1 : Nat) : Int) - 1) = ((d : Nat) : Int) := by rw [wrap64 (by omega) (by omega)]; omega
        simp only [Option.bind_some, w1] at hbody
        obtain ⟨a, ia, a1, a2, a3⟩ := ih (by omega) (by omega) (i + 1 + 1) (by omega)
        rw [a1] at hbody
        simp only [Option.bind_some] at hbody
        obtain ⟨b, ib, b1, b2, b3⟩ := ih (by omega) (by omega) ia (by omega)
        rw [b1] at hbody
        simp only [Option.bind_some, eE_eq] at hbody
        refine ⟨_, ib, hbody _ rfl, by omega, ?_⟩
        exact bin_good (by have := g.lo; omega) (by omega) (by simpa using a3) (by simpa using b3) ⟨by omega, by omega⟩
/-- What is made from numbers: a valid tree. -/
structure Made (e : DExpr) : Prop where
  valid : ValidC e = 0
  nodes : nodes e ≤ 15
  wf : Wf e
theorem Made.few {e : DExpr} (h : Made e) : Few e := by have := h.nodes; unfold Few big; omega
theorem Gd.made {M : Int} {e : DExpr} (h : Gd M 4 e) : Made e := by
  have hn := h.nodes
  have hd := h.depth
  refine ⟨?_, by omega, h.wf⟩
  unfold ValidC
  have : large e = false := by unfold large; simp; omega
  rw [this]
  simpa using h.valid
theorem MakeG_ok {l : List Int} {names : List ByteArray} {most : Int} (g : GP l names most) : ∃ e, S_ref07_Make L0 (l, (names, most)) = some e ∧ Gd most 4 e := by
  obtain ⟨e, i', h1, _, h3⟩ := expr_ok g 4 (by omega) (by omega) 0 (by omega)
  refine ⟨e, ?_, h3⟩
  refine go_ref07_Make _ _ _ ?_
  unfold B_ref07_Make
  have hlo := g.lo
  have : (if most > 1 then most else 1) = most := by split <;> omega
  rw [this]
  replace h1 : S_ref07_G_expr L0 (4, (l, (0, (names, most)))) = some (e, (l, ((i' : Int), (names, most)))) := h1
  rw [h1]
  simp
theorem Make_ok {l : List Int} {names : List ByteArray} {most : Int} (g : GP l names most) : ∃ e, S_ref07_Make L0 (l, (names, most)) = some e ∧ Made e := by
  obtain ⟨e, h1, h2⟩ := MakeG_ok g
  exact ⟨e, h1, h2.made⟩
def namesE : List ByteArray := [⟨#[99, 112, 117]⟩, ⟨#[109, 101, 109]⟩, ⟨#[97]⟩, ⟨#[108, 97, 115, 116]⟩, ⟨#[98, 121]⟩, ⟨#[120, 95, 49]⟩]
theorem good_names {l : List ByteArray} (h : l.all (fun s => nameB s && !decide (findD s wGroups 0 ≥ 0)) = true) : ∀ s ∈ l, nameB s = true ∧ hasS wGroups s = false := by
  intro s hs
  have := List.all_eq_true.1 h s hs
  simp only [Bool.and_eq_true, Bool.not_eq_true'] at this
  refine ⟨this.1, ?_⟩
  unfold hasS
  rw [findI_dec]
  exact this.2
theorem namesE_all : ∀ s ∈ namesE, nameB s = true ∧ hasS wGroups s = false := good_names (by decide +kernel)
theorem Expr_ok {l : List Int} (hl : I64s l) : ∃ e, S_ref07_Expr L0 l = some e ∧ Made e := by
  obtain ⟨e, h1, h2⟩ := Make_ok (l := l) (names := namesE) (most := 4096) ⟨hl, namesE_all, by decide, by decide, by omega, by omega⟩
  refine ⟨e, ?_, h2⟩
  refine go_ref07_Expr _ ?_
  unfold B_ref07_Expr
  refine (congrArg (Option.bind · _) h1).trans ?_
  simp
end Go.AM
/-
  Plans with an instruction turned, the first instructions of a list: they fit; Tree and Check agree on them: PlanTree.
-/
namespace Go.AM
open Go
set_option maxRecDepth 100000
def WfP (p : List DIns) : Prop := ∀ i ∈ p, WfI i
theorem WfP.append {p q : List DIns} (hp : WfP p) (hq : WfP q) : WfP (p ++ q) := fun i hi => (List.mem_append.1 hi).elim (hp i) (hq i)
theorem WfP.set {p : List DIns} (hp : WfP p) {n : Nat} {x : DIns} (hx : WfI x) : WfP (p.set n x) := fun i hi => (List.mem_or_eq_of_mem_set hi).elim (hp i) (fun h => h ▸ hx)
theorem WfP.sub {p q : List DIns} (hp : WfP p) (hq : ∀ i ∈ q, i ∈ p) : WfP q := fun i hi => hp i (hq i hi)
theorem WfP.rdx {p : List DIns} (hp : WfP p) {i : Int} (h0 : 0 ≤ i) (h1 : i < (p.length : Int)) : WfI (rdx .ins p i) := rdx_all (t := .ins) (p := WfI) hp h0 h1
theorem Changed_ok {p : List DIns} (hp : WfP p) (hl : p.length ≤ 1000) {a b v : Int} (ha : I64 a) (hb : I64 b) (hv : I64 v) : ∃ q, S_ref23_Changed L0 (p, (a, (b, v))) = some q ∧ WfP q ∧ q.length ≤ p.length + 1 := by
  have hbody : ∀ z, B_ref23_Changed L0 p a b v = some z → S_ref23_Changed L0 (p, (a, (b, v))) = some z := fun z h => go_ref23_Changed _ _ _ _ h
  unfold B_ref23_Changed at hbody
  rw [if_pos (by simp only [Bool.true_and, decide_eq_true_eq]; omega)] at hbody
  simp only [List.nil_append] at hbody
  by_cases h0 : p.length = 0
  · rw [if_pos (by rw [h0]; rfl)] at hbody
    exact ⟨p, hbody _ rfl, hp, by omega⟩
  rw [if_neg (by simp only [beq_iff_eq]; omega), Around_ok ha (by omega), Around_ok hb (by omega)] at hbody
  have ra := around_range (n := a) (m := (p.length : Int)) (by omega)
  have rb := around_range (n := b) (m := 7) (by omega)
  simp only [Option.bind_some] at hbody
  generalize aroundC a (p.length : Int) = i at *
  generalize aroundC b 7 = k at *
  have hi := hp.rdx ra.1 ra.2
  have w1 : IntKind.wrap .i64 (i + 1) = i + 1 := wrap64 (by omega) (by omega)
  obtain ⟨n, rfl⟩ := Int.eq_ofNat_of_zero_le ra.1
  have hn : n < p.length := by omega
  have t0 : Int.toNat ((n : Int) - 0) = n := by omega
  have t1 : Int.toNat ((n : Int)) = n := by omega
  have t2 : Int.toNat ((n : Int) + 1) = n + 1 := by omega
  have t3 : Int.toNat ((p.length : Int) - ((n : Int) + 1)) = p.length - (n + 1) := by omega
  simp only [w1, t0, t1, t2, t3] at hbody
  have l1 : (p.take n).length ≤ p.length := by simp; omega
  have l2 : ((p.drop (n + 1)).take (p.length - (n + 1))).length ≤ p.length := by simp
  have g1 : (0 : Int) ≤ 0 ∧ (0 : Int) ≤ (n : Int) ∧ (n : Int) ≤ (p.length : Int) := by omega
  have g2 : (0 : Int) ≤ (n : Int) + 1 ∧ (n : Int) + 1 ≤ (p.length : Int) ∧ (p.length : Int) ≤ (p.length : Int) := by omega
  have g3 : n ≤ p.length := by omega
  have g4 : ((p.take n).length + ((p.drop (n + 1)).take (p.length - (n + 1))).length) * 120 ≤ 140737488355328 := by omega
  have g5 : (0 : Int) ≤ (n : Int) ∧ (n : Int) < (p.length : Int) := by omega
  have g6 : (p.length + ([] : List DIns).length + 1) * 120 ≤ 140737488355328 := by simp; omega
  by_cases k0 : k = 0
  · subst k0
    simp only [beq_self_eq_true, if_true, decide_eq_true g1, decide_eq_true g2, g3, g4, decide_true, Bool.and_self] at hbody
    refine ⟨_, hbody _ rfl, ?_, ?_⟩
    · exact hp.sub (fun j hj => by
        rcases List.mem_append.1 hj with h | h
        · exact List.mem_of_mem_take h
        · exact List.mem_of_mem_drop (List.mem_of_mem_take h))
    · simp; omega
  have b0 : (k == 0) = false := by simpa using k0
  simp only [b0, Bool.false_eq_true, if_false] at hbody
  by_cases k1 : k = 1
  · subst k1
    simp only [beq_self_eq_true, if_true, decide_eq_true g5] at hbody
    rw [if_pos (by simp only [Bool.true_and, decide_eq_true_eq, List.length_cons, List.length_nil]; omega)] at hbody
    refine ⟨_, hbody _ rfl, hp.append (fun j hj => ?_), by simp⟩
    rw [List.mem_singleton.1 hj]; exact hi
  have b1 : (k == 1) = false := by simpa using k1
  simp only [b1, Bool.false_eq_true, if_false] at hbody
  -- the four fields
  have tail : ∀ R : Option (List DIns), (if (k == 3) = true then
      if decide ((0 : Int) ≤ (n : Int) ∧ (n : Int) < (p.length : Int)) = true then if decide (n < p.length) = true then some (p.set n ⟨v, (rdx .ins p (n : Int)).fn, (rdx .ins p (n : Int)).window, (rdx .ins p (n : Int)).offset, (rdx .ins p (n : Int)).k, (rdx .ins p (n : Int)).num, (rdx .ins p (n : Int)).name, (rdx .ins p (n : Int)).ms, (rdx .ins p (n : Int)).by_⟩) else none else none
    else if (k == 4) = true then
      if decide ((0 : Int) ≤ (n : Int) ∧ (n : Int) < (p.length : Int)) = true then if decide (n < p.length) = true then some (p.set n ⟨(rdx .ins p (n : Int)).kind, v, (rdx .ins p (n : Int)).window, (rdx .ins p (n : Int)).offset, (rdx .ins p (n : Int)).k, (rdx .ins p (n : Int)).num, (rdx .ins p (n : Int)).name, (rdx .ins p (n : Int)).ms, (rdx .ins p (n : Int)).by_⟩) else none else none
    else if (k == 5) = true then
      if decide ((0 : Int) ≤ (n : Int) ∧ (n : Int) < (p.length : Int)) = true then if decide (n < p.length) = true then some (p.set n ⟨(rdx .ins p (n : Int)).kind, (rdx .ins p (n : Int)).fn, (rdx .ins p (n : Int)).window, (rdx .ins p (n : Int)).offset, v, (rdx .ins p (n : Int)).num, (rdx .ins p (n : Int)).name, (rdx .ins p (n : Int)).ms, (rdx .ins p (n : Int)).by_⟩) else none else none
    else if (k == 6) = true then
      if decide ((0 : Int) ≤ (n : Int) ∧ (n : Int) < (p.length : Int)) = true then if decide (n < p.length) = true then some (p.set n ⟨(rdx .ins p (n : Int)).kind, (rdx .ins p (n : Int)).fn, v, (rdx .ins p (n : Int)).offset, (rdx .ins p (n : Int)).k, (rdx .ins p (n : Int)).num, (rdx .ins p (n : Int)).name, (rdx .ins p (n : Int)).ms, (rdx .ins p (n : Int)).by_⟩) else none else none
    else some p) = R → ∃ q, R = some q ∧ WfP q ∧ q.length ≤ p.length + 1 := by
    intro R hR
    simp only [decide_eq_true g5, if_true, hn, decide_true] at hR
    split at hR
    · exact ⟨_, hR.symm, hp.set ⟨hv, hi.num, hi.den, hi.ms, hi.bys⟩, by simp⟩
    split at hR
    · exact ⟨_, hR.symm, hp.set ⟨hi.kind, hi.num, hi.den, hi.ms, hi.bys⟩, by simp⟩
    split at hR
    · exact ⟨_, hR.symm, hp.set ⟨hi.kind, hi.num, hi.den, hi.ms, hi.bys⟩, by simp⟩
    split at hR
    · exact ⟨_, hR.symm, hp.set ⟨hi.kind, hi.num, hi.den, hi.ms, hi.bys⟩, by simp⟩
    · exact ⟨_, hR.symm, hp, by omega⟩
  have lift : ∀ R : Option (List DIns), (∃ q, R = some q ∧ WfP q ∧ q.length ≤ p.length + 1) → (∀ z, R = some z → S_ref23_Changed L0 (p, (a, (b, v))) = some z) → ∃ q, S_ref23_Changed L0 (p, (a, (b, v))) = some q ∧ WfP q ∧ q.length ≤ p.length + 1 := by
    rintro R ⟨q, h1, h2⟩ h
    exact ⟨q, h _ h1, h2⟩
  by_cases k2 : k = 2
  · subst k2
    simp only [beq_self_eq_true, if_true] at hbody
    by_cases hin : (n : Int) + 1 < (p.length : Int)
    · have hi2 := hp.rdx (i := (n : Int) + 1) (by omega) hin
      have hn2 : n + 1 < p.length := by omega
      have g7 : (0 : Int) ≤ (n : Int) + 1 ∧ (n : Int) + 1 < (p.length : Int) := by omega
      simp only [hin, decide_true, if_true, decide_eq_true g7, decide_eq_true g5, hn, List.length_set, hn2] at hbody
      exact ⟨_, hbody _ rfl, (hp.set hi2).set hi, by simp⟩
    · simp only [hin, decide_false, Bool.false_eq_true, if_false] at hbody
      exact lift _ (tail _ rfl) hbody
  · have b2 : (k == 2) = false := by simpa using k2
    simp only [b2, Bool.false_eq_true, if_false] at hbody
    exact lift _ (tail _ rfl) hbody
theorem rebuilds_ok {p : List DIns} (hp : WfP p) : S_law23_rebuilds L0 p = some true := by
  refine go_law23_rebuilds _ ?_
  unfold B_law23_rebuilds
  rw [plan_Tree_ok hp, ref23_Tree_ok hp, plan_Check_ok hp]
  have he : S_ref07_Equal L0 ((treeC p).1, (treeC p).1) = some true := by
    have h1 : Few (treeC p).1 ∧ Sized (treeC p).1 := by
      unfold treeC
      split
      · exact ⟨by unfold Few; decide, .mk _ (by decide) (by decide) (fun k hk => by cases hk)⟩
      · rename_i hl
        have E0ok : Few E0 ∧ Sized E0 := ⟨by unfold Few; decide, .mk _ (by decide) (by decide) (fun k hk => by cases hk)⟩
        have hfold : ∀ (q : List DIns) (st st' : List DExpr), WfP q → (∀ e ∈ st, Wf e) → foldT q st = some st' → (∀ e ∈ st', Wf e) ∧ nodesL st' ≤ nodesL st + q.length := by
          intro q
          induction q with
          | nil => intro st st' _ hs h; cases h; exact ⟨hs, by simp⟩
          | cons i q ih =>
            intro st st' hq hs h
            rw [foldT] at h
            cases hpl : plant i st with
            | none => rw [hpl] at h; cases h
            | some s1 =>
              rw [hpl] at h
              unfold plant at hpl
              split at hpl
              · cases hpl
              · rename_i hc
                cases hpl
                have hmem : ∀ e ∈ st.take (st.length - pops i.kind) ++ [exprOf i (st.drop (st.length - pops i.kind))], Wf e := by
                  intro e he
                  rcases List.mem_append.1 he with he | he
                  · exact hs e (List.mem_of_mem_take he)
                  · rw [List.mem_singleton.1 he]
                    exact Wf.of_ins (hq i (by simp)) (fun k hk => hs k (List.mem_of_mem_drop hk))
                obtain ⟨r1, r2⟩ := ih _ _ (fun j hj => hq j (by simp [hj])) hmem h
                refine ⟨r1, ?_⟩
                have hn : nodesL st = nodesL (st.take (st.length - pops i.kind)) + nodesL (st.drop (st.length - pops i.kind)) := by
                  rw [← nodesL_append, List.take_append_drop]
                rw [nodesL_append] at r2
                simp only [nodesL, nodes_exprOf, List.length_cons] at r2 ⊢
                omega
        unfold endT
        split
        · rename_i e hst
          obtain ⟨r1, r2⟩ := hfold p [] [e] hp (fun e he => by cases he) hst
          split
          · refine ⟨?_, (r1 e (by simp)).sized⟩
            simp only [nodesL, List.length_nil] at r2
            show nodes e ≤ big
            unfold big
            omega
          · exact E0ok
        · exact E0ok
    rw [ref07_Equal_ok _ _ _ (Nat.le_refl _) h1.1 h1.2, same_self]
  simp only [Option.bind_some, beq_self_eq_true, if_true, eE_eq, he]
/-- The first of some texts. -/
theorem Short_ok (s : ByteArray) : ∃ r, S_ref01_Short L0 (s, 20) = some r := by
  have hbody : ∀ z, B_ref01_Short L0 s 20 = some z → S_ref01_Short L0 (s, 20) = some z := fun z h => go_ref01_Short _ _ h
  unfold B_ref01_Short at hbody
  by_cases h : (s.size : Int) > 20
  · rw [if_pos (decide_eq_true h), if_pos (decide_eq_true (by omega))] at hbody
    exact ⟨_, hbody _ rfl⟩
  · rw [if_neg (by simpa using h)] at hbody
    exact ⟨_, hbody _ rfl⟩
end Go.AM
/-
  PlanReach: the plain law.
-/
namespace Go.AM
open Go
set_option maxRecDepth 100000
theorem wrap_eq_of_emod {x y : Int} (h : x % 18446744073709551616 = y % 18446744073709551616) : IntKind.wrap .i64 x = IntKind.wrap .i64 y := by
  simp only [IntKind.wrap, IntKind.bits, IntKind.signed]
  simp
  rw [h]
theorem wrap_emod (x : Int) : (IntKind.wrap .i64 x) % 18446744073709551616 = x % 18446744073709551616 := by
  simp only [IntKind.wrap, IntKind.bits, IntKind.signed]
  simp
  split <;> omega
theorem back_ref1 (o w : Int) : IntKind.wrap .i64 (IntKind.wrap .i64 (0 - o) - w) = IntKind.wrap .i64 (0 - IntKind.wrap .i64 (o + w)) := by
  have h1 := wrap_emod (0 - o)
  have h2 := wrap_emod (o + w)
  exact wrap_eq_of_emod (by omega)
theorem back_ref2 (o w : Int) : IntKind.wrap .i64 (IntKind.wrap .i64 (IntKind.wrap .i64 (0 - o) - w) + 1) = IntKind.wrap .i64 (0 - IntKind.wrap .i64 (IntKind.wrap .i64 (o + w) - 1)) := by
  have h1 := wrap_emod (0 - o)
  have h2 := wrap_emod (o + w)
  have h3 := wrap_emod (IntKind.wrap .i64 (0 - o) - w)
  have h4 := wrap_emod (IntKind.wrap .i64 (o + w) - 1)
  exact wrap_eq_of_emod (by omega)
theorem ref23_Reach_loop (p : List DIns) (hp : p.length ≤ big) : ∀ (suf pre : List DIns) (r : Int), p = pre ++ suf → r ≤ 0 → P_ref23_Reach_0 L0 (p, (r, (pre.length : Int))) = some (reachF r suf)
  | [], pre, r, he, h0 => by
    refine go_ref23_Reach_0 _ _ _ ?_
    unfold B_ref23_Reach_0
    simp [he, reachF]
  | i :: suf, pre, r, he, h0 => by
    refine go_ref23_Reach_0 _ _ _ ?_
    unfold B_ref23_Reach_0
    subst he
    have ih := fun r' h => ref23_Reach_loop (pre ++ i :: suf) hp suf (pre ++ [i]) r' (by simp) h
    have hin := idx_in pre i suf
    rw [if_pos (decide_eq_true (idx_lt pre i suf)), if_pos (decide_eq_true hin)]
    simp only [decide_eq_true hin, if_true, rdx_mid .ins, idx_step pre i suf hp]
    rw [reachF]
    have hle : (if backI i < r then backI i else r) ≤ 0 := by split <;> omega
    rw [← ih _ hle]
    unfold backI
    simp only [back_ref2]
    simp only [back_ref1]
    by_cases k : i.kind = 1
    · by_cases f0 : i.fn = 0
      · simp [k, f0]
      by_cases f5 : i.fn = 5
      · simp [k, f5]
      by_cases f6 : i.fn = 6
      · simp [k, f6]
      · simp [k, f0, f5, f6]
    · have : ¬ (0 : Int) < r := by omega
      simp [k, this]
theorem ref23_Reach_ok {p : List DIns} (hw : WfP p) (hp : p.length ≤ big) : S_ref23_Reach L0 p = some (reachC p) := by
  refine go_ref23_Reach _ ?_
  unfold B_ref23_Reach reachC
  rw [ref23_Check_ok hw]
  have := ref23_Reach_loop p hp p [] 0 rfl (Int.le_refl _)
  replace this : P_ref23_Reach_0 L0 (p, (0, 0)) = some (reachF 0 p) := this
  simp only [Option.bind_some]
  by_cases h : (treeC p).2 = 0 <;> simp [h, this]

/-- The least of what a list reads. -/
theorem reachF_min : ∀ (p : List DIns) (r : Int), r ≤ 0 → reachF r p = min r (reachF 0 p)
  | [], r, h => by simp only [reachF]; omega
  | i :: p, r, h => by
    simp only [reachF]
    have h1 : (if backI i < r then backI i else r) ≤ 0 := by split <;> omega
    have h2 : (if backI i < 0 then backI i else (0 : Int)) ≤ 0 := by split <;> omega
    rw [reachF_min p _ h1, reachF_min p _ h2]
    split <;> split <;> omega
theorem reachF_app : ∀ (p q : List DIns) (r : Int), reachF r (p ++ q) = reachF (reachF r p) q
  | [], q, r => rfl
  | i :: p, q, r => by simp only [List.cons_append, reachF]; exact reachF_app p q _

/-- All offsets increased. -/
def shiftN (k : Int) (e : DExpr) (kids : List DExpr) : DExpr := ⟨e.kind, e.fn, e.window, if e.kind = 1 then e.offset + k else e.offset, e.k, e.num, e.name, e.ms, e.by_, kids⟩
mutual
def shiftC (k : Int) : DExpr → DExpr
  | ⟨a, b, c, d, e, f, g, h, i, kids⟩ => shiftN k ⟨a, b, c, d, e, f, g, h, i, kids⟩ (shiftL k kids)
def shiftL (k : Int) : List DExpr → List DExpr
  | [] => []
  | x :: r => shiftC k x :: shiftL k r
end
theorem shiftC_eq (k : Int) (e : DExpr) : shiftC k e = shiftN k e (shiftL k e.kids) := by cases e; rw [shiftC]
theorem shiftL_length (k : Int) : ∀ l : List DExpr, (shiftL k l).length = l.length
  | [] => rfl
  | x :: r => by rw [shiftL, List.length_cons, List.length_cons, shiftL_length k r]
theorem shiftL_mem {k : Int} {y : DExpr} : ∀ {l : List DExpr}, y ∈ shiftL k l → ∃ x ∈ l, y = shiftC k x
  | x :: r, h => by
    rw [shiftL] at h
    rcases List.mem_cons.1 h with rfl | h
    · exact ⟨x, by simp, rfl⟩
    · obtain ⟨z, h1, h2⟩ := shiftL_mem h
      exact ⟨z, by simp [h1], h2⟩
theorem shift_nodes (k : Int) : ∀ n, ∀ e : DExpr, nodes e ≤ n → nodes (shiftC k e) = nodes e ∧ depth (shiftC k e) = depth e := by
  intro n
  induction n with
  | zero => intro e h; have := nodes_pos e; omega
  | succ n ih =>
    intro e h
    rw [nodes_eq] at h
    have hL : ∀ l : List DExpr, nodesL l ≤ n → nodesL (shiftL k l) = nodesL l ∧ depthL (shiftL k l) = depthL l := by
      intro l
      induction l with
      | nil => intro _; exact ⟨rfl, rfl⟩
      | cons x l ihl =>
        intro hl
        rw [nodesL] at hl
        obtain ⟨a1, a2⟩ := ih x (by omega)
        obtain ⟨b1, b2⟩ := ihl (by omega)
        rw [shiftL, nodesL, nodesL, depthL, depthL, a1, a2, b1, b2]
        exact ⟨rfl, rfl⟩
    obtain ⟨a1, a2⟩ := hL e.kids (by omega)
    rw [shiftC_eq, nodes_eq, nodes_eq e, depth_eq, depth_eq e]
    show 1 + nodesL (shiftL k e.kids) = _ ∧ depthL (shiftL k e.kids) + 1 = _
    rw [a1, a2]
    exact ⟨rfl, rfl⟩
theorem shift_valid {k : Int} (hk : 0 ≤ k ∧ k ≤ 96) : ∀ n, ∀ e : DExpr, nodes e ≤ n → OffB 4000 e → validC e = 0 → validC (shiftC k e) = 0 := by
  intro n
  induction n with
  | zero => intro e h; have := nodes_pos e; omega
  | succ n ih =>
    intro e h ho hv
    obtain ⟨h1, h2, h3, h4, h5, h6⟩ := validC_parts hv
    rw [nodes_eq] at h
    have hL : ∀ l : List DExpr, nodesL l ≤ n → (∀ x ∈ l, OffB 4000 x) → validL l = 0 → validL (shiftL k l) = 0 := by
      intro l
      induction l with
      | nil => intro _ _ _; rfl
      | cons x l ihl =>
        intro hn hx hv
        rw [nodesL] at hn
        have hx0 := validL_mem hv x (by simp)
        have hl0 : validL l = 0 := by rw [validL, if_pos hx0] at hv; exact hv
        rw [shiftL, validL, ih x (by omega) (hx x (by simp)) hx0, if_pos rfl]
        exact ihl (by omega) (fun y hy => hx y (by simp [hy])) hl0
    have hkids := hL e.kids (by omega) (fun x hx => ho.kid hx) h6
    have hlen := shiftL_length k e.kids
    have s1 : shapedB (shiftC k e) = true := by
      rw [shiftC_eq]
      unfold shapedB shiftN at *
      simp only [hlen] at *
      by_cases k1 : e.kind = 1
      · simp only [k1, Int.one_ne_zero, if_false, if_true] at *
        exact h1
      · simp only [k1, if_false] at *
        exact h1
    have s2 : namedB (shiftC k e) = true := by rw [shiftC_eq]; exact h2
    have s3 : rangedB (shiftC k e) = true := by
      rw [shiftC_eq]
      unfold rangedB shiftN at *
      by_cases k1 : e.kind = 1
      · simp only [k1, if_true] at *
        have := ho.off
        simp only [Bool.and_eq_true, decide_eq_true_eq] at h5 ⊢
        exact ⟨⟨by omega, by omega⟩, h5.2⟩
      · simp only [k1, if_false] at *
        exact h5
    rw [validC_eq, s1, s2, s3]
    have m1 : ¬ (shiftC k e).ms.length > 8 := by rw [shiftC_eq]; show ¬ e.ms.length > 8; omega
    have m2 : ¬ (shiftC k e).by_.length > 8 := by rw [shiftC_eq]; show ¬ e.by_.length > 8; omega
    have m3 : (shiftC k e).kids = shiftL k e.kids := by rw [shiftC_eq]; rfl
    rw [if_neg m1, if_neg m2, m3, hkids]
    simp
theorem shift_wf (k : Int) : ∀ n, ∀ e : DExpr, nodes e ≤ n → Wf e → Wf (shiftC k e) := by
  intro n
  induction n with
  | zero => intro e h; have := nodes_pos e; omega
  | succ n ih =>
    intro e h hw
    rw [nodes_eq] at h
    rw [shiftC_eq]
    refine .mk _ hw.kind hw.num hw.den hw.sized.ms hw.sized.bys (fun y hy => ?_)
    obtain ⟨x, hx, rfl⟩ := shiftL_mem (show y ∈ shiftL k e.kids from hy)
    exact ih x (by have := nodes_mem hx; omega) (hw.kid hx)
theorem Shifted_loop (e : DExpr) (k : Int) (hx : e.kids.length ≤ big) (h : ∀ x ∈ e.kids, S_ref23_Shifted L0 (x, k) = some (shiftC k x)) (z3 z4 z5 z6 z7 z8 z9 : Int) (z10 : ByteArray) (z11 : List DMatcher) (z12 : List ByteArray) (z13 : List DExpr) : ∀ (suf pre out : List DExpr), e.kids = pre ++ suf → out.length + suf.length ≤ 100000 →
    P_ref23_Shifted_0 L0 ((k, (pre.length : Int)), (e, ((z3, (z4, (z5, (z6, (z7, (z8, (z9, z10))))))), (z11, (z12, (z13, out)))))) = some ⟨e.kind, e.fn, e.window, e.offset, e.k, e.num, e.name, e.ms, e.by_, out ++ shiftL k suf⟩
  | [], pre, out, he, hb => by
    refine go_ref23_Shifted_0 _ _ _ _ _ _ _ _ _ _ _ _ _ _ _ ?_
    unfold B_ref23_Shifted_0
    simp [he, shiftL]
  | x :: suf, pre, out, he, hb => by
    refine go_ref23_Shifted_0 _ _ _ _ _ _ _ _ _ _ _ _ _ _ _ ?_
    unfold B_ref23_Shifted_0
    have hk := h x (by rw [he]; simp)
    have hx' := hx
    rw [he] at hx'
    rw [List.length_cons] at hb
    have ih := Shifted_loop e k hx h z3 z4 z5 z6 z7 z8 z9 z10 z11 z12 z13 suf (pre ++ [x]) (out ++ [shiftC k x]) (by simp [he]) (by simp; omega)
    simp only [eE_eq, he]
    rw [if_pos (decide_eq_true (idx_lt pre x suf)), if_pos (decide_eq_true (idx_in pre x suf)), rdx_mid .expr, hk]
    simp only [Option.bind_some]
    rw [if_pos (by simp only [Bool.true_and, decide_eq_true_eq, List.length_cons, List.length_nil]; omega), idx_step pre x suf hx', ih, shiftL]
    simp
theorem Shifted_ok {k : Int} (hk : 0 ≤ k ∧ k ≤ 96) : ∀ n, ∀ e : DExpr, nodes e ≤ n → nodes e ≤ 10000 → (∀ x : DExpr, True) → OffB 4000 e → validC e = 0 → S_ref23_Shifted L0 (e, k) = some (shiftC k e) := by
  intro n
  induction n with
  | zero => intro e h; have := nodes_pos e; omega
  | succ n ih =>
    intro e h hn _ ho hv
    refine go_ref23_Shifted _ _ ?_
    unfold B_ref23_Shifted
    rw [nodes_eq] at h hn
    have hlen := length_nodesL e.kids
    obtain ⟨h1, h2, h3, h4, h5, h6⟩ := validC_parts hv
    have hkids : ∀ x ∈ e.kids, S_ref23_Shifted L0 (x, k) = some (shiftC k x) := fun x hx => ih x (by have := nodes_mem hx; omega) (by have := nodes_mem hx; omega) (fun _ => trivial) (ho.kid hx) (validL_mem h6 x hx)
    rw [shiftC_eq]
    unfold shiftN
    by_cases k1 : e.kind = 1
    · have hoff := ho.off
      have h0 : 0 ≤ e.offset := by
        unfold rangedB at h5
        rw [if_pos k1] at h5
        simp only [Bool.and_eq_true, decide_eq_true_eq] at h5
        exact h5.1.1
      have w : IntKind.wrap .i64 (e.offset + k) = e.offset + k := wrap64 (by omega) (by omega)
      have hb : (e.kind == 1) = true := by simp [k1]
      rw [if_pos hb, w, if_pos k1]
      have := Shifted_loop ⟨e.kind, e.fn, e.window, e.offset + k, e.k, e.num, e.name, e.ms, e.by_, e.kids⟩ k (by show e.kids.length ≤ big; unfold big; omega) hkids 0 0 0 0 0 0 0 zeroS [] [] [] e.kids [] [] rfl (by simp; omega)
      exact this
    · have hb : (e.kind == 1) = false := by simpa using k1
      rw [hb, if_neg k1]
      have := Shifted_loop e k (by unfold big; omega) hkids 0 0 0 0 0 0 0 zeroS [] [] [] e.kids [] [] rfl (by simp; omega)
      simp only [Bool.false_eq_true, if_false, eE_eq]
      exact this

/-- What a valid plan's instructions read. -/
def SelOK (i : DIns) : Prop := i.kind = 1 → 0 ≤ i.offset ∧ i.offset ≤ 4096 ∧ 0 ≤ i.window ∧ i.window ≤ 4096 ∧ (i.fn = 0 ∨ 1 ≤ i.window)
theorem selOK_of {e : DExpr} (h : rangedB e = true) : SelOK (insOf e) := by
  intro hk
  have hk : e.kind = 1 := hk
  unfold rangedB at h
  rw [if_pos hk] at h
  simp only [Bool.and_eq_true, decide_eq_true_eq] at h
  obtain ⟨⟨h1, h2⟩, h3⟩ := h
  show 0 ≤ e.offset ∧ e.offset ≤ 4096 ∧ 0 ≤ e.window ∧ e.window ≤ 4096 ∧ (e.fn = 0 ∨ 1 ≤ e.window)
  split at h3
  · rename_i f0
    simp only [Bool.and_eq_true, decide_eq_true_eq] at h3
    exact ⟨h1, h2, by omega, by omega, .inl f0⟩
  · simp only [Bool.and_eq_true, decide_eq_true_eq] at h3
    exact ⟨h1, h2, by omega, by omega, .inr (by omega)⟩
theorem selOK_post : ∀ n, ∀ e : DExpr, nodes e ≤ n → validC e = 0 → ∀ i ∈ postC e, SelOK i := by
  intro n
  induction n with
  | zero => intro e h; have := nodes_pos e; omega
  | succ n ih =>
    intro e h hv i hi
    obtain ⟨_, _, _, _, h5, h6⟩ := validC_parts hv
    rw [nodes_eq] at h
    rw [postC_eq] at hi
    rcases List.mem_append.1 hi with hi | hi
    · have hL : ∀ l : List DExpr, nodesL l ≤ n → (∀ x ∈ l, validC x = 0) → ∀ i ∈ postL l, SelOK i := by
        intro l
        induction l with
        | nil => intro _ _ i hi; simp [postL] at hi
        | cons x l ihl =>
          intro hn hx i hi
          rw [nodesL] at hn
          rw [postL] at hi
          rcases List.mem_append.1 hi with hi | hi
          · exact ih x (by omega) (hx x (by simp)) i hi
          · exact ihl (by omega) (fun y hy => hx y (by simp [hy])) i hi
      exact hL e.kids (by omega) (fun x hx => validL_mem h6 x hx) i hi
    · rw [List.mem_singleton.1 hi]; exact selOK_of h5
theorem back_le {i : DIns} (h : SelOK i) (hk : i.kind = 1) : backI i ≤ 0 ∧ -8192 ≤ backI i := by
  obtain ⟨a, b, c, d, e⟩ := h hk
  unfold backI
  rw [if_pos hk]
  have w1 : IntKind.wrap .i64 (i.offset + i.window) = i.offset + i.window := wrap64 (by omega) (by omega)
  rw [w1]
  have w2 : IntKind.wrap .i64 (i.offset + i.window - 1) = i.offset + i.window - 1 := wrap64 (by omega) (by omega)
  rw [w2, wrap64 (by omega) (by omega), wrap64 (by omega) (by omega)]
  split
  · omega
  · rename_i hf
    have : ¬ i.fn = 0 := fun h0 => hf (.inl h0)
    omega
def shiftI (k : Int) (i : DIns) : DIns := ⟨i.kind, i.fn, i.window, if i.kind = 1 then i.offset + k else i.offset, i.k, i.num, i.name, i.ms, i.by_⟩
theorem post_shift (k : Int) : ∀ n, ∀ e : DExpr, nodes e ≤ n → postC (shiftC k e) = (postC e).map (shiftI k) := by
  intro n
  induction n with
  | zero => intro e h; have := nodes_pos e; omega
  | succ n ih =>
    intro e h
    rw [nodes_eq] at h
    have hL : ∀ l : List DExpr, nodesL l ≤ n → postL (shiftL k l) = (postL l).map (shiftI k) := by
      intro l
      induction l with
      | nil => intro _; rfl
      | cons x l ihl =>
        intro hn
        rw [nodesL] at hn
        rw [shiftL, postL, postL, List.map_append, ih x (by omega), ihl (by omega)]
    have hk : (shiftC k e).kids = shiftL k e.kids := by rw [shiftC_eq]; rfl
    have hi : insOf (shiftC k e) = shiftI k (insOf e) := by rw [shiftC_eq]; rfl
    rw [postC_eq, postC_eq e, hk, hL e.kids (by omega), hi, List.map_append]
    rfl
theorem back_shift {i : DIns} (h : SelOK i) (hk : i.kind = 1) {k : Int} (h0 : 0 ≤ k ∧ k ≤ 96) : backI (shiftI k i) = backI i - k := by
  obtain ⟨a, b, c, d, e⟩ := h hk
  unfold backI shiftI
  simp only [hk, if_true]
  have w1 : IntKind.wrap .i64 (i.offset + i.window) = i.offset + i.window := wrap64 (by omega) (by omega)
  have w2 : IntKind.wrap .i64 (i.offset + k + i.window) = i.offset + k + i.window := wrap64 (by omega) (by omega)
  rw [w1, w2]
  have w3 : IntKind.wrap .i64 (i.offset + i.window - 1) = i.offset + i.window - 1 := wrap64 (by omega) (by omega)
  have w4 : IntKind.wrap .i64 (i.offset + k + i.window - 1) = i.offset + k + i.window - 1 := wrap64 (by omega) (by omega)
  rw [w3, w4, wrap64 (by omega) (by omega), wrap64 (by omega) (by omega), wrap64 (by omega) (by omega), wrap64 (by omega) (by omega)]
  split <;> omega
def selN : List DIns → Nat
  | [] => 0
  | i :: p => (if i.kind = 1 then 1 else 0) + selN p
theorem selN_le : ∀ p : List DIns, selN p ≤ p.length
  | [] => Nat.le_refl _
  | i :: p => by have := selN_le p; simp only [selN, List.length_cons]; split <;> omega
theorem reach_none : ∀ (p : List DIns) (k : Int), selN p = 0 → reachF 0 (p.map (shiftI k)) = 0
  | [], _, _ => rfl
  | i :: p, k, h => by
    simp only [selN] at h
    have hk : ¬ i.kind = 1 := by intro hk; rw [if_pos hk] at h; omega
    have hb : backI (shiftI k i) = 0 := by unfold backI shiftI; simp [hk]
    simp only [List.map_cons, reachF, hb]
    exact reach_none p k (by rw [if_neg hk] at h; omega)
theorem reach_some {k : Int} (h0 : 0 ≤ k ∧ k ≤ 96) : ∀ (p : List DIns), (∀ i ∈ p, SelOK i) → (selN p > 0 → reachF 0 (p.map (shiftI k)) = reachF 0 p - k ∧ -8192 ≤ reachF 0 p) ∧ (selN p = 0 → reachF 0 p = 0)
  | [], _ => ⟨fun h => by simp [selN] at h, fun _ => rfl⟩
  | i :: p, hs => by
    obtain ⟨ih1, ih2⟩ := reach_some h0 p (fun j hj => hs j (by simp [hj]))
    have hle := reachF_le p 0
    by_cases hk : i.kind = 1
    · obtain ⟨b1, b2⟩ := back_le (hs i (by simp)) hk
      have b3 := back_shift (hs i (by simp)) hk h0
      refine ⟨fun _ => ?_, fun h => by simp [selN, hk] at h⟩
      simp only [List.map_cons, reachF, b3]
      have c1 : (if backI i - k < 0 then backI i - k else (0 : Int)) = backI i - k := by split <;> omega
      have c2 : (if backI i < 0 then backI i else (0 : Int)) = backI i := by split <;> omega
      rw [c1, c2, reachF_min _ _ (by omega), reachF_min p _ b1]
      by_cases hn : selN p > 0
      · obtain ⟨e1, e2⟩ := ih1 hn
        rw [e1]
        omega
      · have e1 := reach_none p k (by omega)
        have e2 := ih2 (by omega)
        rw [e1, e2]
        omega
    · have hb : backI (shiftI k i) = 0 := by unfold backI shiftI; simp [hk]
      have hb2 : backI i = 0 := by unfold backI; simp [hk]
      have hsel : selN (i :: p) = selN p := by simp [selN, hk]
      simp only [List.map_cons, reachF, hb, hb2, hsel]
      exact ⟨ih1, ih2⟩
theorem namesAB_ok : ∀ s ∈ [(⟨#[97]⟩ : ByteArray), ⟨#[98]⟩], nameB s = true ∧ hasS wGroups s = false := good_names (by decide +kernel)
theorem bin_made {M : Int} (hM : 0 ≤ M) {a b : DExpr} (ha : Gd M 4 a) (hb : Gd M 4 b) : ValidC ⟨3, 0, 0, 0, 0, ⟨0, 0⟩, zeroS, [], [], [a, b]⟩ = 0 ∧ Few ⟨3, 0, 0, 0, 0, ⟨0, 0⟩, zeroS, [], [], [a, b]⟩ ∧ Wf ⟨3, 0, 0, 0, 0, ⟨0, 0⟩, zeroS, [], [], [a, b]⟩ := by
  have h := bin_good (M := M) hM (d := 5) (by omega) (f := 0) ha hb ⟨by omega, by omega⟩
  have hn := h.nodes
  have hd := h.depth
  refine ⟨?_, ?_, h.wf⟩
  · unfold ValidC
    have : large ⟨3, 0, 0, 0, 0, ⟨0, 0⟩, zeroS, [], [], [a, b]⟩ = false := by unfold large; simp; omega
    rw [this]
    simpa using h.valid
  · unfold Few big; omega
theorem PlanReach_loop (p t : List DIns) (hp : p.length ≤ 1000) (hwp : WfP p) (hwt : WfP t) (ht : t.length ≤ 1000) (k : Int) (hk : 0 ≤ k ∧ k ≤ 96) (hr : (selN p = 0 → reachC t = 0) ∧ (selN p > 0 → reachC t = reachC p - k ∧ -8192 ≤ reachC p ∧ reachC p ≤ 0)) : ∀ (suf pre : List DIns) (c : Nat), p = pre ++ suf → c + selN suf = selN p →
    P_law23_PlanReach_0 L0 (p, (k, (t, ((c : Int), (pre.length : Int))))) = some true
  | [], pre, c, he, hc => by
    refine go_law23_PlanReach_0 _ _ _ _ _ ?_
    unfold B_law23_PlanReach_0
    simp only [selN] at hc
    have hlt : ¬ (pre.length : Int) < (p.length : Int) := by rw [he]; simp
    rw [if_neg (by simpa using hlt), plan_Reach_ok hwt (by unfold big; omega), plan_Reach_ok hwp (by unfold big; omega), lives_ok]
    by_cases h0 : c = 0
    · subst h0
      rw [hr.1 (by omega)]
      rfl
    · obtain ⟨r1, r2, r3⟩ := hr.2 (by omega)
      have h1 : ((c : Int) == 0) = false := by simp; omega
      have h2 : (c : Int) > 0 := by omega
      have w : IntKind.wrap .i64 (reachC p - k) = reachC p - k := wrap64 (by omega) (by omega)
      simp only [h1, h2, Option.bind_some, w, r1, decide_true, if_true, Bool.false_eq_true, if_false, beq_self_eq_true]
  | i :: suf, pre, c, he, hc => by
    refine go_law23_PlanReach_0 _ _ _ _ _ ?_
    unfold B_law23_PlanReach_0
    have hp' : (pre ++ i :: suf).length ≤ big := by rw [← he]; unfold big; omega
    have hsl := selN_le p
    have hlen : pre.length < p.length := by rw [he]; simp
    have ih := fun c' h => PlanReach_loop p t hp hwp hwt ht k hk hr suf (pre ++ [i]) c' (by simp [he]) h
    have hstep := idx_step pre i suf hp'
    have hi : rdx .ins p (pre.length : Int) = i := by rw [he]; exact rdx_mid .ins pre i suf
    rw [if_pos (decide_eq_true (show (pre.length : Int) < (p.length : Int) by omega)), if_pos (decide_eq_true (show (0 : Int) ≤ (pre.length : Int) ∧ (pre.length : Int) < (p.length : Int) by omega)), hi, hstep]
    simp only [selN] at hc
    by_cases hk1 : i.kind = 1
    · rw [if_pos hk1] at hc
      have w : IntKind.wrap .i64 ((c : Int) + 1) = ((c + 1 : Nat) : Int) := by rw [wrap64 (by omega) (by omega)]; omega
      have hb : (i.kind == 1) = true := by simp [hk1]
      rw [if_pos hb, w]
      exact ih (c + 1) (by omega)
    · rw [if_neg hk1] at hc
      have hb : (i.kind == 1) = false := by simpa using hk1
      rw [hb]
      simp only [Bool.false_eq_true, if_false]
      exact ih c (by omega)
theorem PlanReach_pure {l m : List Int} {by_ at_ how v : Int} (hl : I64s l) (hm : I64s m) (h1 : I64 by_) (h2 : I64 at_) (h3 : I64 how) (h4 : I64 v) : S_law23_PlanReach L0 (l, (m, (by_, (at_, (how, v))))) = some true := by
  refine go_law23_PlanReach _ _ _ _ _ _ ?_
  unfold B_law23_PlanReach
  obtain ⟨a, a1, ga⟩ := MakeG_ok (l := l) (names := [(⟨#[97]⟩ : ByteArray), ⟨#[98]⟩]) (most := 4000) ⟨hl, namesAB_ok, by decide, by decide, by omega, by omega⟩
  obtain ⟨b, b1, gb⟩ := MakeG_ok (l := m) (names := [(⟨#[97]⟩ : ByteArray), ⟨#[98]⟩]) (most := 4000) ⟨hm, namesAB_ok, by decide, by decide, by omega, by omega⟩
  have ma := ga.made
  have mb := gb.made
  obtain ⟨s1, s2, s3⟩ := bin_made (by omega) ga gb
  have rk := around_range (n := by_) (m := 51) (by omega)
  have hk : 0 ≤ aroundC by_ 51 ∧ aroundC by_ 51 ≤ 96 := by omega
  have na := ma.nodes
  have nb := mb.nodes
  have hsh := Shifted_ok hk _ a (Nat.le_refl _) (by omega) (fun _ => trivial) ga.offs ga.valid
  have tv := shift_valid hk _ a (Nat.le_refl _) ga.offs ga.valid
  obtain ⟨tn, td⟩ := shift_nodes (aroundC by_ 51) _ a (Nat.le_refl _)
  have twf := shift_wf (aroundC by_ 51) _ a (Nat.le_refl _) ga.wf
  have hV : ValidC (shiftC (aroundC by_ 51) a) = 0 := by
    unfold ValidC
    have hda := ga.depth
    have : large (shiftC (aroundC by_ 51) a) = false := by unfold large; rw [tn, td]; simp; omega
    rw [this]
    simpa using tv
  have cA : S_plan_Compile L0 a = some (postC a, 0) := by rw [plan_Compile_ok ma.few ga.wf]; unfold compileC; rw [if_pos ma.valid]
  have cB : S_plan_Compile L0 b = some (postC b, 0) := by rw [plan_Compile_ok mb.few gb.wf]; unfold compileC; rw [if_pos mb.valid]
  have cS : S_plan_Compile L0 ⟨3, 0, 0, 0, 0, ⟨0, 0⟩, zeroS, [], [], [a, b]⟩ = some (postC ⟨3, 0, 0, 0, 0, ⟨0, 0⟩, zeroS, [], [], [a, b]⟩, 0) := by rw [plan_Compile_ok s2 s3]; unfold compileC; rw [if_pos s1]
  have cT : S_plan_Compile L0 (shiftC (aroundC by_ 51) a) = some (postC (shiftC (aroundC by_ 51) a), 0) := by rw [plan_Compile_ok (by unfold Few big; omega) twf]; unfold compileC; rw [if_pos hV]
  have wA : WfP (postC a) := wfI_post _ a (Nat.le_refl _) ga.wf (small_of_valid _ a (Nat.le_refl _) ga.valid)
  have wB : WfP (postC b) := wfI_post _ b (Nat.le_refl _) gb.wf (small_of_valid _ b (Nat.le_refl _) gb.valid)
  have wS : WfP (postC ⟨3, 0, 0, 0, 0, ⟨0, 0⟩, zeroS, [], [], [a, b]⟩) := wfI_post _ _ (Nat.le_refl _) s3 (small_of_valid _ _ (Nat.le_refl _) (ValidC_zero s1).2.2)
  have wT : WfP (postC (shiftC (aroundC by_ 51) a)) := wfI_post _ _ (Nat.le_refl _) twf (small_of_valid _ _ (Nat.le_refl _) tv)
  have lA : (postC a).length ≤ 15 := by rw [postC_length _ a (Nat.le_refl _)]; omega
  have lB : (postC b).length ≤ 15 := by rw [postC_length _ b (Nat.le_refl _)]; omega
  have lT : (postC (shiftC (aroundC by_ 51) a)).length ≤ 15 := by rw [postC_length _ _ (Nat.le_refl _)]; omega
  have lS : (postC ⟨3, 0, 0, 0, 0, ⟨0, 0⟩, zeroS, [], [], [a, b]⟩).length ≤ 200 := by rw [postC_length _ _ (Nat.le_refl _)]; exact (ValidC_zero s1).2.1
  obtain ⟨c, c1, c2, c3⟩ := Changed_ok wA (by omega) h2 h3 h4
  have eA : reachC (postC a) = reachF 0 (postC a) := by unfold reachC; rw [treeC_post ma.valid]; rfl
  have eB : reachC (postC b) = reachF 0 (postC b) := by unfold reachC; rw [treeC_post mb.valid]; rfl
  have eT : reachC (postC (shiftC (aroundC by_ 51) a)) = reachF 0 ((postC a).map (shiftI (aroundC by_ 51))) := by unfold reachC; rw [treeC_post hV, post_shift _ _ a (Nat.le_refl _)]; rfl
  have eS : reachC (postC ⟨3, 0, 0, 0, 0, ⟨0, 0⟩, zeroS, [], [], [a, b]⟩) = min (reachF 0 (postC a)) (reachF 0 (postC b)) := by
    unfold reachC
    rw [treeC_post s1, if_pos rfl, postC_eq]
    show reachF 0 (postL [a, b] ++ _) = _
    rw [postL, postL, postL, List.append_nil, reachF_app, reachF_app, reachF_min _ _ (reachF_le _ _)]
    have hi : backI (insOf ⟨3, 0, 0, 0, 0, ⟨0, 0⟩, zeroS, [], [], [a, b]⟩) = 0 := by unfold backI; rfl
    simp only [reachF, hi]
    have q1 := reachF_le (postC a) 0
    have q2 := reachF_le (postC b) 0
    split <;> omega
  have hsel := reach_some hk (postC a) (selOK_post _ a (Nat.le_refl _) ga.valid)
  have hfin := PlanReach_loop (postC a) (postC (shiftC (aroundC by_ 51) a)) (by omega) wA wT (by omega) (aroundC by_ 51) hk ⟨fun h => by rw [eT]; exact reach_none _ _ h, fun h => by
    rw [eT, eA]
    obtain ⟨r1, r2⟩ := hsel.1 h
    exact ⟨r1, r2, reachF_le _ _⟩⟩ (postC a) [] 0 rfl (by omega)
  replace hfin : P_law23_PlanReach_0 L0 (postC a, (aroundC by_ 51, (postC (shiftC (aroundC by_ 51) a), (0, 0)))) = some true := hfin
  rw [a1, b1]
  simp only [Option.bind_some, eE_eq, cA, cB, cS, Around_ok h1 (show (0 : Int) < 51 by omega), hsh, cT, c1, plan_Reach_ok wA (show (postC a).length ≤ big by unfold big; omega), ref23_Reach_ok wA (show (postC a).length ≤ big by unfold big; omega), plan_Reach_ok c2 (show c.length ≤ big by unfold big; omega), ref23_Reach_ok c2 (show c.length ≤ big by unfold big; omega), plan_Reach_ok wB (show (postC b).length ≤ big by unfold big; omega), plan_Reach_ok wS (show (postC ⟨3, 0, 0, 0, 0, ⟨0, 0⟩, zeroS, [], [], [a, b]⟩).length ≤ big by unfold big; omega), bne_self_eq_false, Bool.false_eq_true, if_false, eS, eA, eB]
  have hmin : (min (reachF 0 (postC a)) (reachF 0 (postC b)) != (if reachF 0 (postC b) < reachF 0 (postC a) then reachF 0 (postC b) else reachF 0 (postC a))) = false := by
    simp only [bne_eq_false_iff_eq]
    split <;> omega
  rw [hmin]
  simpa using hfin
end Go.AM
