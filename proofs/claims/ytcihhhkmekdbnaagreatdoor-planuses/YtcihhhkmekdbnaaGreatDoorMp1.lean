/-
  The plain law: what the functions compute, part 1.
-/
import Derived.Test.YtcihhhkmekdbnaaGreatDoorMp0
/-
  Expressions made from numbers: they are made, and they are valid.
-/
namespace Go.AM
open Go
set_option maxRecDepth 100000
def pickC (l : List Int) (i : Nat) (m : Int) : Int := if i ≥ l.length then 0 else aroundC (l.getD i 0) m
def I64s (l : List Int) : Prop := ∀ n ∈ l, I64 n
theorem pick_range {l : List Int} {i : Nat} {m : Int} (hm : 0 < m) : 0 ≤ pickC l i m ∧ pickC l i m < m := by
  unfold pickC
  split
  · omega
  · exact around_range hm
theorem Pick_ok {l : List Int} (hl : I64s l) (i : Nat) {m : Int} (hm : 0 < m) : S_ref01_Pick L0 (l, ((i : Int), m)) = some (pickC l i m) := by
  refine go_ref01_Pick _ _ _ ?_
  unfold B_ref01_Pick pickC
  have h0 : ¬ (i : Int) < 0 := by omega
  by_cases h : i ≥ l.length
  · have : (i : Int) ≥ ((l.length : Nat) : Int) := by omega
    simp [h0, h, this]
  · have h1 : ¬ (i : Int) ≥ ((l.length : Nat) : Int) := by omega
    have h2 : (0 : Int) ≤ (i : Int) ∧ (i : Int) < ((l.length : Nat) : Int) := by omega
    have hr : rdx (.i .i64) l (i : Int) = l.getD i 0 := by simp [rdx]; rfl
    have hmem : I64 (l.getD i 0) := by
      have hlt : i < l.length := by omega
      rw [List.getD_eq_getElem?_getD, List.getElem?_eq_getElem hlt]
      exact hl _ (List.getElem_mem hlt)
    simp only [h0, h1, h, decide_eq_true h2, decide_false, Bool.false_eq_true, if_false, if_true, hr, Around_ok hmem hm, Option.bind_some]
theorem next_ok {l : List Int} (hl : I64s l) {i : Nat} (hi : i ≤ 1000000000) {m : Int} (hm : 0 < m) (names : List ByteArray) (most : Int) : S_ref07_G_next L0 (m, (l, ((i : Int), (names, most)))) = some (pickC l i m, (l, (((i + 1 : Nat) : Int), (names, most)))) := by
  refine go_ref07_G_next _ _ _ _ _ ?_
  unfold B_ref07_G_next
  have w1 : IntKind.wrap .i64 ((i : Int) + 1) = ((i + 1 : Nat) : Int) := by rw [wrap64 (by omega) (by omega)]; omega
  have w2 : IntKind.wrap .i64 (((i + 1 : Nat) : Int) - 1) = (i : Int) := by rw [wrap64 (by omega) (by omega)]; omega
  rw [w1, w2, Pick_ok hl i hm]
  rfl
def names0 : List ByteArray := [⟨#[97]⟩, ⟨#[97, 98]⟩, ⟨#[98]⟩, ⟨#[106, 111, 98]⟩, ⟨#[120, 95, 49]⟩, ⟨#[122, 111, 110, 101]⟩]
def values0 : List ByteArray := [⟨#[97]⟩, ⟨#[97, 98]⟩, ⟨#[98]⟩, ⟨#[120, 49]⟩, ⟨#[126, 33]⟩, ⟨#[48]⟩]
def values1 : List ByteArray := values0 ++ [zeroS, ⟨#[120]⟩]
theorem Names_ok : S_ref05_Names L0 () = some names0 := by
  refine go_ref05_Names ?_
  rfl
theorem values_ok : S_ref05_values L0 () = some values0 := by
  refine go_ref05_values ?_
  rfl
theorem rdx_all {t : TC} {p : Den t → Prop} {xs : List (Den t)} (h : ∀ x ∈ xs, p x) {i : Int} (h0 : 0 ≤ i) (h1 : i < (xs.length : Int)) : p (rdx t xs i) := by
  obtain ⟨n, rfl⟩ := Int.eq_ofNat_of_zero_le h0
  have hn : n < xs.length := by omega
  unfold rdx
  rw [Int.toNat_natCast, List.getD_eq_getElem?_getD, List.getElem?_eq_getElem hn]
  exact h _ (List.getElem_mem hn)
theorem names0_all : ∀ s ∈ names0, nameB s = true := by
  have : names0.all nameB = true := by decide
  exact List.all_eq_true.1 this
theorem values1_all : ∀ s ∈ values1, valueB s = true := by
  have : values1.all valueB = true := by decide
  exact List.all_eq_true.1 this
theorem Matchers_loop {l : List Int} (hl : I64s l) : ∀ (k : Nat) (i : Nat) (ms : List DMatcher), ((i + k : Nat) : Int) = pickC l 0 4 → ms.length = i → (∀ m ∈ ms, matcherB m = true) →
    ∃ r, P_ref05_Matchers_0 L0 ((l, (names0, (i : Int))), (values1, ms)) = some r ∧ r.length ≤ 3 ∧ ∀ m ∈ r, matcherB m = true := by
  intro k
  induction k with
  | zero =>
    intro i ms hk hm ha
    have hr := pick_range (l := l) (i := 0) (m := 4) (by omega)
    refine ⟨ms, ?_, by omega, ha⟩
    refine go_ref05_Matchers_0 _ _ _ _ _ ?_
    unfold B_ref05_Matchers_0
    have hp := Pick_ok hl 0 (m := 4) (by omega)
    replace hp : S_ref01_Pick L0 (l, ((0 : Int), (4 : Int))) = some (pickC l 0 4) := hp
    rw [hp]
    simp only [Option.bind_some]
    rw [if_neg (by simp; omega)]
  | succ k ih =>
    intro i ms hk hm ha
    have hr := pick_range (l := l) (i := 0) (m := 4) (by omega)
    have r1 := pick_range (l := l) (i := 3 * i + 1) (m := 6) (by omega)
    have r2 := pick_range (l := l) (i := 3 * i + 2) (m := 3) (by omega)
    have r3 := pick_range (l := l) (i := 3 * i + 3) (m := 8) (by omega)
    have hn1 := rdx_all (t := .str) names0_all r1.1 (by have : (names0.length : Int) = 6 := rfl; omega)
    have hv1 := rdx_all (t := .str) values1_all r3.1 (by have : (values1.length : Int) = 8 := rfl; omega)
    have hnew : matcherB ⟨rdx .str names0 (pickC l (3 * i + 1) 6), pickC l (3 * i + 2) 3, rdx .str values1 (pickC l (3 * i + 3) 8)⟩ = true := by
      unfold matcherB
      simp only [hn1, hv1, Bool.true_and, Bool.and_true, Bool.and_eq_true, decide_eq_true_eq]
      omega
    obtain ⟨r, h1, h2, h3⟩ := ih (i + 1) (ms ++ [⟨rdx .str names0 (pickC l (3 * i + 1) 6), pickC l (3 * i + 2) 3, rdx .str values1 (pickC l (3 * i + 3) 8)⟩]) (by rw [← hk]; omega) (by simp [hm]) (fun m hm' => by
      rcases List.mem_append.1 hm' with h | h
      · exact ha m h
      · rw [List.mem_singleton.1 h]; exact hnew)
    refine ⟨r, ?_, h2, h3⟩
    refine go_ref05_Matchers_0 _ _ _ _ _ ?_
    unfold B_ref05_Matchers_0
    have hp := Pick_ok hl 0 (m := 4) (by omega)
    replace hp : S_ref01_Pick L0 (l, ((0 : Int), (4 : Int))) = some (pickC l 0 4) := hp
    have w0 : IntKind.wrap .i64 (3 * (i : Int)) = 3 * (i : Int) := wrap64 (by omega) (by omega)
    have w1 : IntKind.wrap .i64 (3 * (i : Int) + 1) = ((3 * i + 1 : Nat) : Int) := by rw [wrap64 (by omega) (by omega)]; omega
    have w2 : IntKind.wrap .i64 (3 * (i : Int) + 2) = ((3 * i + 2 : Nat) : Int) := by rw [wrap64 (by omega) (by omega)]; omega
    have w3 : IntKind.wrap .i64 (3 * (i : Int) + 3) = ((3 * i + 3 : Nat) : Int) := by rw [wrap64 (by omega) (by omega)]; omega
    have w4 : IntKind.wrap .i64 ((i : Int) + 1) = ((i + 1 : Nat) : Int) := by rw [wrap64 (by omega) (by omega)]; omega
    rw [hp]
    simp only [Option.bind_some]
    rw [if_pos (by simp; omega), w0, w1, w2, w3, w4, Pick_ok hl _ (by omega), Pick_ok hl _ (by omega), Pick_ok hl _ (by omega)]
    simp only [Option.bind_some]
    have ln : ((names0.length : Nat) : Int) = 6 := rfl
    have lv : ((values1.length : Nat) : Int) = 8 := rfl
    have lv' : values1.length = 8 := rfl
    rw [if_pos (decide_eq_true (by rw [ln]; omega)), if_pos (decide_eq_true (by rw [lv]; omega)), if_pos (decide_eq_true (by rw [lv']; omega)), if_pos (by simp only [Bool.true_and, decide_eq_true_eq, List.length_cons, List.length_nil]; omega)]
    exact h1
theorem Matchers_ok {l : List Int} (hl : I64s l) : ∃ r, S_ref05_Matchers L0 l = some r ∧ r.length ≤ 3 ∧ ∀ m ∈ r, matcherB m = true := by
  have hr := pick_range (l := l) (i := 0) (m := 4) (by omega)
  obtain ⟨k, hk⟩ := Int.eq_ofNat_of_zero_le hr.1
  obtain ⟨r, h1, h2⟩ := Matchers_loop hl k 0 [] (by rw [hk]; simp) rfl (fun m hm => by cases hm)
  refine ⟨r, ?_, h2⟩
  refine go_ref05_Matchers _ ?_
  unfold B_ref05_Matchers
  rw [Names_ok, values_ok]
  exact h1
/-- Offsets up to a bound. -/
inductive OffB (M : Int) : DExpr → Prop
  | mk (e : DExpr) : e.offset ≤ M → (∀ k ∈ e.kids, OffB M k) → OffB M e
theorem OffB.off {M : Int} {e : DExpr} (h : OffB M e) : e.offset ≤ M := by cases h; assumption
theorem OffB.kid {M : Int} {e k : DExpr} (h : OffB M e) (hk : k ∈ e.kids) : OffB M k := by cases h; rename_i h; exact h k hk
/-- A tree as the generator makes it. -/
structure Gd (M : Int) (d : Nat) (e : DExpr) : Prop where
  offs : OffB M e
  valid : validC e = 0
  nodes : nodes e + 1 ≤ 2 ^ d
  depth : depth e ≤ d
  wf : Wf e
structure GP (l : List Int) (names : List ByteArray) (most : Int) : Prop where
  l64 : I64s l
  good : ∀ s ∈ names, nameB s = true ∧ hasS wGroups s = false
  pos : 0 < names.length
  few : names.length ≤ 1000
  lo : 1 ≤ most
  hi : most ≤ 4096
theorem sel_good {M : Int} {f w o k : Int} {s : ByteArray} {ms : List DMatcher} (hf0 : 0 ≤ f) (hf7 : f ≤ 7) (ho : 0 ≤ o ∧ o ≤ 4096 ∧ o ≤ M) (hw : if f = 0 then w = 0 ∧ k = 0 else 1 ≤ w ∧ w ≤ 4096 ∧ (if f = 7 then 1 ≤ k ∧ k ≤ w else k = 0)) (hs : nameB s = true ∧ hasS wGroups s = false) (hm : ms.length ≤ 3) (hma : ∀ m ∈ ms, matcherB m = true) {d : Nat} (hd : 1 ≤ d) :
    Gd M d ⟨1, f, w, o, k, ⟨0, 0⟩, s, ms, [], []⟩ := by
  have h1 : shapedB ⟨1, f, w, o, k, ⟨0, 0⟩, s, ms, [], []⟩ = true := by unfold shapedB; simp [hf0, hf7]
  have h2 : namedB ⟨1, f, w, o, k, ⟨0, 0⟩, s, ms, [], []⟩ = true := by
    unfold namedB
    simp [hs.1, hs.2, bysB, bysFrom]
    exact hma
  have h3 : rangedB ⟨1, f, w, o, k, ⟨0, 0⟩, s, ms, [], []⟩ = true := by
    unfold rangedB
    simp only [if_true, ho.1, ho.2.1, decide_true, Bool.true_and]
    by_cases f0 : f = 0
    · rw [if_pos f0] at hw ⊢; simp [hw.1, hw.2]
    · rw [if_neg f0] at hw ⊢
      by_cases f7 : f = 7
      · rw [if_pos f7] at hw ⊢; simp [hw.1, hw.2.1, hw.2.2.1, hw.2.2.2]
      · rw [if_neg f7] at hw ⊢; simp [hw.1, hw.2.1, hw.2.2]
  have hp : 2 ≤ 2 ^ d := by
    calc 2 = 2 ^ 1 := rfl
      _ ≤ 2 ^ d := Nat.pow_le_pow_right (by omega) hd
  refine ⟨.mk _ ho.2.2 (fun k hk => by cases hk), ?_, ?_, ?_, ?_⟩
  · rw [validC_eq, h1, h2, h3]; simp [validL]; omega
  · rw [nodes_eq]; simp [nodesL]; omega
  · rw [depth_eq]; simp [depthL]; omega
  · exact .mk _ (by unfold I64; simp) (by unfold I64; simp) (by unfold I64; simp) (by show ms.length ≤ big; unfold big; omega) (by show ([] : List ByteArray).length ≤ big; simp) (fun k hk => by cases hk)
theorem selection_loop {l : List Int} {names : List ByteArray} {most : Int} (g : GP l names most) (z5 z6 z7 z8 z9 z10 z11 : Int) (z12 : ByteArray) (kd f w o k n1 n2 : Int) (s : ByteArray) (z21 : List DMatcher) (z22 : List ByteArray) (z23 : List DExpr) (z24 : List DMatcher) (z25 : List ByteArray) (z26 : List DExpr) : ∀ (m : Nat) (j i : Nat) (acc : List Int), j + m = 10 → i + m ≤ 100000000 → acc.length = j → I64s acc →
    ∃ ms, P_ref07_G_selection_0 L0 ((j : Int), ((l, ((i : Int), (names, most))), ((z5, (z6, (z7, (z8, (z9, (z10, (z11, z12))))))), ((kd, (f, (w, (o, (k, (n1, (n2, s))))))), (z21, (z22, (z23, (z24, (z25, (z26, acc)))))))))) = some (⟨kd, f, w, o, k, ⟨n1, n2⟩, s, ms, z25, z26⟩, (l, (((i + m : Nat) : Int), (names, most)))) ∧ ms.length ≤ 3 ∧ ∀ x ∈ ms, matcherB x = true := by
  intro m
  induction m with
  | zero =>
    intro j i acc hj hi ha hacc
    obtain ⟨ms, h1, h2, h3⟩ := Matchers_ok hacc
    refine ⟨ms, ?_, h2, h3⟩
    refine go_ref07_G_selection_0 _ _ _ _ _ _ _ _ _ _ _ _ _ _ _ _ _ _ _ _ _ _ _ _ _ _ _ _ ?_
    unfold B_ref07_G_selection_0
    rw [if_neg (by simp; omega), h1]
    rfl
  | succ m ih =>
    intro j i acc hj hi ha hacc
    have hr := pick_range (l := l) (i := i) (m := 1000) (by omega)
    obtain ⟨ms, h1, h2⟩ := ih (j + 1) (i + 1) (acc ++ [pickC l i 1000]) (by omega) (by omega) (by simp; omega) (fun n hn => by
        rcases List.mem_append.1 hn with h | h
        · exact hacc n h
        · rw [List.mem_singleton.1 h]; unfold I64; omega)
    refine ⟨ms, ?_, h2⟩
    refine go_ref07_G_selection_0 _ _ _ _ _ _ _ _ _ _ _ _ _ _ _ _ _ _ _ _ _ _ _ _ _ _ _ _ ?_
    unfold B_ref07_G_selection_0
    rw [if_pos (by simp; omega), next_ok g.l64 (by omega) (by omega)]
    simp only [Option.bind_some]
    have w4 : IntKind.wrap .i64 ((j : Int) + 1) = ((j + 1 : Nat) : Int) := by rw [wrap64 (by omega) (by omega)]; omega
    rw [if_pos (by simp only [Bool.true_and, decide_eq_true_eq, List.length_cons, List.length_nil]; omega), w4, h1]
    rw [show i + 1 + m = i + (m + 1) by omega]
/-- From the numbers, an expression with at most a depth. -/
def Makes (d : Nat) (l : List Int) (i : Nat) (names : List ByteArray) (most : Int) (c : Nat) (r : Option (DExpr × (List Int × (Int × (List ByteArray × Int))))) : Prop :=
  ∃ e i', r = some (e, (l, (((i' : Nat) : Int), (names, most)))) ∧ i' ≤ i + c ∧ Gd most d e
theorem selection_ok {l : List Int} {names : List ByteArray} {most : Int} (g : GP l names most) {i : Nat} (hi : i ≤ 1000000) {d : Nat} (hd : 1 ≤ d) : Makes d l i names most 40 (S_ref07_G_selection L0 (l, ((i : Int), (names, most)))) := by
  have hbody : ∀ z, B_ref07_G_selection L0 l (i : Int) names most = some z → S_ref07_G_selection L0 (l, ((i : Int), (names, most))) = some z := fun z h => go_ref07_G_selection _ _ _ _ h
  have hpos := g.pos
  have hfew := g.few
  have hlo := g.lo
  have hhi := g.hi
  have rf := pick_range (l := l) (i := i) (m := 8) (by omega)
  have rn := pick_range (l := l) (i := i + 1) (m := (names.length : Int)) (by omega)
  have hname := rdx_all (t := .str) g.good rn.1 rn.2
  unfold B_ref07_G_selection at hbody
  rw [next_ok g.l64 (by omega) (by omega)] at hbody
  simp only [Option.bind_some, and_true, and_self, holdsP_iff, if_true] at hbody
  rw [next_ok g.l64 (by omega) (by omega)] at hbody
  simp only [Option.bind_some, and_true, and_self, holdsP_iff, if_true, decide_eq_true (show (0 : Int) ≤ pickC l (i + 1) (names.length : Int) ∧ pickC l (i + 1) (names.length : Int) < (names.length : Int) from rn)] at hbody
  generalize pickC l i 8 = f at *
  generalize rdx .str names (pickC l (i + 1) (names.length : Int)) = s at *
  -- the end: the offset, the matchers
  have fin : ∀ (j : Nat) (w k : Int), j ≤ i + 4 → (if f = 0 then w = 0 ∧ k = 0 else 1 ≤ w ∧ w ≤ 4096 ∧ (if f = 7 then 1 ≤ k ∧ k ≤ w else k = 0)) → ∀ R : Option (DExpr × (List Int × (Int × (List ByteArray × Int)))),
      (((S_ref07_G_next L0 (2, (l, ((j : Int), (names, most))))).bind fun y => if (y.1 == 1) = true then
          (S_ref07_G_next L0 (IntKind.wrap .i64 (y.2.2.2.2 + 1), (y.2.1, (y.2.2.1, (y.2.2.2.1, y.2.2.2.2))))).bind fun q =>
            (S_ref07_G_next L0 (2, (q.2.1, (q.2.2.1, (q.2.2.2.1, q.2.2.2.2))))).bind fun r => if (r.1 == 1) = true then
              P_ref07_G_selection_0 L0 (0, ((r.2.1, (r.2.2.1, (r.2.2.2.1, r.2.2.2.2))), ((0, (0, (0, (0, (0, (0, (0, zeroS))))))), ((1, (f, (w, (q.1, (k, (0, (0, s))))))), ([], ([], ([], ([], ([], ([], []))))))))))
            else some (⟨1, f, w, q.1, k, ⟨0, 0⟩, s, [], [], []⟩, (r.2.1, (r.2.2.1, (r.2.2.2.1, r.2.2.2.2))))
        else (S_ref07_G_next L0 (2, (y.2.1, (y.2.2.1, (y.2.2.2.1, y.2.2.2.2))))).bind fun r => if (r.1 == 1) = true then
              P_ref07_G_selection_0 L0 (0, ((r.2.1, (r.2.2.1, (r.2.2.2.1, r.2.2.2.2))), ((0, (0, (0, (0, (0, (0, (0, zeroS))))))), ((1, (f, (w, (0, (k, (0, (0, s))))))), ([], ([], ([], ([], ([], ([], []))))))))))
            else some (⟨1, f, w, 0, k, ⟨0, 0⟩, s, [], [], []⟩, (r.2.1, (r.2.2.1, (r.2.2.2.1, r.2.2.2.2)))))) = R → Makes d l i names most 40 R := by
    intro j w k hj hw R hR
    have ro := pick_range (l := l) (i := j + 1) (m := most + 1) (by omega)
    rw [next_ok g.l64 (by omega) (by omega)] at hR
    have ww : IntKind.wrap .i64 (most + 1) = most + 1 := wrap64 (by omega) (by omega)
    simp only [Option.bind_some, ww] at hR
    by_cases c1 : pickC l j 2 = 1
    · rw [c1] at hR
      simp only [beq_self_eq_true, if_true] at hR
      rw [next_ok g.l64 (by omega) (by omega)] at hR
      simp only [Option.bind_some] at hR
      rw [next_ok g.l64 (by omega) (by omega)] at hR
      simp only [Option.bind_some] at hR
      by_cases c2 : pickC l (j + 1 + 1) 2 = 1
      · rw [c2] at hR
        simp only [beq_self_eq_true, if_true] at hR
        obtain ⟨ms, h1, h2, h3⟩ := selection_loop g 0 0 0 0 0 0 0 zeroS 1 f w (pickC l (j + 1) (most + 1)) k 0 0 s [] [] [] [] [] [] 10 0 (j + 1 + 1 + 1) [] (by omega) (by omega) rfl (fun n hn => by cases hn)
        have h1' := h1.symm.trans hR
        exact ⟨_, _, h1'.symm, by omega, sel_good rf.1 (by omega) ⟨ro.1, by omega, by omega⟩ hw hname h2 h3 hd⟩
      · have : (pickC l (j + 1 + 1) 2 == 1) = false := by simpa using c2
        rw [this] at hR
        simp only [Bool.false_eq_true, if_false] at hR
        exact ⟨_, _, hR.symm, by omega, sel_good rf.1 (by omega) ⟨ro.1, by omega, by omega⟩ hw hname (by simp) (fun m hm => by cases hm) hd⟩
    · have : (pickC l j 2 == 1) = false := by simpa using c1
      rw [this] at hR
      simp only [Bool.false_eq_true, if_false] at hR
      rw [next_ok g.l64 (by omega) (by omega)] at hR
      simp only [Option.bind_some] at hR
      by_cases c2 : pickC l (j + 1) 2 = 1
      · rw [c2] at hR
        simp only [beq_self_eq_true, if_true] at hR
        obtain ⟨ms, h1, h2, h3⟩ := selection_loop g 0 0 0 0 0 0 0 zeroS 1 f w 0 k 0 0 s [] [] [] [] [] [] 10 0 (j + 1 + 1) [] (by omega) (by omega) rfl (fun n hn => by cases hn)
        have h1' := h1.symm.trans hR
        exact ⟨_, _, h1'.symm, by omega, sel_good rf.1 (by omega) ⟨by omega, by omega, by omega⟩ hw hname h2 h3 hd⟩
      · have : (pickC l (j + 1) 2 == 1) = false := by simpa using c2
        rw [this] at hR
        simp only [Bool.false_eq_true, if_false] at hR
        exact ⟨_, _, hR.symm, by omega, sel_good rf.1 (by omega) ⟨by omega, by omega, by omega⟩ hw hname (by simp) (fun m hm => by cases hm) hd⟩
  have lift : ∀ R, Makes d l i names most 40 R → (∀ z, R = some z → S_ref07_G_selection L0 (l, ((i : Int), (names, most))) = some z) → Makes d l i names most 40 (S_ref07_G_selection L0 (l, ((i : Int), (names, most)))) := by
    rintro R ⟨e, i', h1, h2, h3⟩ h
    exact ⟨e, i', h _ h1, h2, h3⟩
  by_cases f0 : f = 0
  · subst f0
    have e7 : ((0 : Int) == 7) = false := rfl
    have e0 : ((0 : Int) != 0) = false := rfl
    simp only [e0, e7, Bool.false_eq_true, if_false] at hbody
    exact lift _ (fin (i + 2) 0 0 (by omega) (by simp) _ rfl) hbody
  · have e0 : (f != 0) = true := by simpa using f0
    simp only [e0, if_true] at hbody
    have rw' := pick_range (l := l) (i := i + 2) (m := most) (by omega)
    rw [next_ok g.l64 (by omega) (by omega)] at hbody
    have w1 : IntKind.wrap .i64 (1 + pickC l (i + 2) most) = 1 + pickC l (i + 2) most := wrap64 (by omega) (by omega)
    simp only [Option.bind_some, w1] at hbody
    by_cases f7 : f = 7
    · subst f7
      simp only [beq_self_eq_true, if_true] at hbody
      have rk := pick_range (l := l) (i := i + 3) (m := 1 + pickC l (i + 2) most) (by omega)
      rw [next_ok g.l64 (by omega) (by omega)] at hbody
      have w2 : IntKind.wrap .i64 (1 + pickC l (i + 3) (1 + pickC l (i + 2) most)) = 1 + pickC l (i + 3) (1 + pickC l (i + 2) most) := wrap64 (by omega) (by omega)
      simp only [Option.bind_some, w2] at hbody
      exact lift _ (fin (i + 4) (1 + pickC l (i + 2) most) (1 + pickC l (i + 3) (1 + pickC l (i + 2) most)) (by omega) (by rw [if_neg (by omega)]; exact ⟨by omega, by omega, by rw [if_pos rfl]; exact ⟨by omega, by omega⟩⟩) _ rfl) hbody
    · have e7 : (f == 7) = false := by simpa using f7
      simp only [e7, Bool.false_eq_true, if_false] at hbody
      exact lift _ (fin (i + 3) (1 + pickC l (i + 2) most) 0 (by omega) (by rw [if_neg f0]; exact ⟨by omega, by omega, by rw [if_neg f7]⟩) _ rfl) hbody
/-- The names whose digits are set. -/
def byC : List ByteArray → Int → List ByteArray
  | [], _ => []
  | s :: r, w => (if Int.tmod w 4 = 1 then [s] else []) ++ byC r (Int.tdiv w 2)
def bysD : Option ByteArray → List ByteArray → Bool
  | _, [] => true
  | o, s :: r => nameB s && (match o with | none => true | some p => !(Op.bytesLess s.data.toList p.data.toList || s.data.toList == p.data.toList)) && bysD (some s) r
theorem bysFrom_dec : ∀ (l : List ByteArray) (o : Option ByteArray), bysFrom o l = bysD o l
  | [], _ => rfl
  | s :: r, o => by
    have ih := bysFrom_dec r (some s)
    cases o with
    | none => simp only [bysFrom, bysD, ih]
    | some p => simp only [bysFrom, bysD, ih, ByteArray.toList_eq]
theorem byC_good : ∀ w : Nat, w < 64 → bysB (byC names0 (w : Int)) = true ∧ (byC names0 (w : Int)).length ≤ 6 := by
  intro w hw
  unfold bysB
  rw [bysFrom_dec]
  have : ((List.range 64).all fun w => bysD none (byC names0 (w : Int)) && decide ((byC names0 (w : Int)).length ≤ 6)) = true := by decide +kernel
  have := List.all_eq_true.1 this w (List.mem_range.2 hw)
  simpa using this
theorem Makes.mono {d c c' : Nat} {l : List Int} {i : Nat} {names : List ByteArray} {most : Int} {r : Option (DExpr × (List Int × (Int × (List ByteArray × Int))))} (h : Makes d l i names most c r) (hc : c ≤ c') : Makes d l i names most c' r := by
  obtain ⟨e, i', h1, h2, h3⟩ := h
  exact ⟨e, i', h1, by omega, h3⟩
theorem pow_two {d : Nat} (hd : 2 ≤ d) : 2 ^ d = 2 * 2 ^ (d - 1) ∧ 2 ≤ 2 ^ (d - 1) := by
  obtain ⟨n, rfl⟩ : ∃ n, d = n + 2 := ⟨d - 2, by omega⟩
  have h1 : 2 ^ (n + 2) = 2 * 2 ^ (n + 1) := by rw [Nat.pow_succ]; omega
  have h2 : 2 ^ (n + 1) = 2 * 2 ^ n := by rw [Nat.pow_succ]; omega
  have h3 : 0 < 2 ^ n := Nat.pos_of_ne_zero (by simp)
  simp only [Nat.add_sub_cancel, show n + 2 - 1 = n + 1 by omega]
  omega
theorem group_good {M : Int} (hM : 0 ≤ M) {d : Nat} (hd : 2 ≤ d) {f k : Int} {bys : List ByteArray} {e : DExpr} (he : Gd M (d - 1) e) (hf : 0 ≤ f ∧ f ≤ 4) (hk : if f = 4 then 1 ≤ k ∧ k ≤ 4096 else k = 0) (hb : bysB bys = true ∧ bys.length ≤ 6) :
    Gd M d ⟨2, f, 0, 0, k, ⟨0, 0⟩, zeroS, [], bys, [e]⟩ := by
  have h1 : shapedB ⟨2, f, 0, 0, k, ⟨0, 0⟩, zeroS, [], bys, [e]⟩ = true := by unfold shapedB; simp [hf.1, hf.2, same_self]
  have h2 : namedB ⟨2, f, 0, 0, k, ⟨0, 0⟩, zeroS, [], bys, [e]⟩ = true := by
    unfold namedB
    simp [hb.1]
  have h3 : rangedB ⟨2, f, 0, 0, k, ⟨0, 0⟩, zeroS, [], bys, [e]⟩ = true := by
    unfold rangedB
    by_cases f4 : f = 4
    · rw [if_pos f4] at hk; simp [f4, hk.1, hk.2]
    · rw [if_neg f4] at hk; simp [f4, hk]
  obtain ⟨p1, p2⟩ := pow_two hd
  have hn := he.nodes
  have hdp := he.depth
  refine ⟨.mk _ hM (fun k hk => by rw [List.mem_singleton.1 hk]; exact he.offs), ?_, ?_, ?_, ?_⟩
  · rw [validC_eq, h1, h2, h3]; simp [validL, he.valid]; omega
  · rw [nodes_eq]; simp only [nodesL]; omega
  · rw [depth_eq]; simp only [depthL]; omega
  · refine .mk _ (by unfold I64; simp) (by unfold I64; simp) (by unfold I64; simp) (by show ([] : List DMatcher).length ≤ big; simp) (by show bys.length ≤ big; unfold big; omega) (fun k hk => ?_)
    rw [List.mem_singleton.1 hk]; exact he.wf
theorem num_good {M : Int} (hM : 0 ≤ M) {d : Nat} (hd : 1 ≤ d) {n : Int} (hn : 0 ≤ n ∧ n ≤ 1073741824) : Gd M d ⟨0, 0, 0, 0, 0, ⟨n, 1⟩, zeroS, [], [], []⟩ := by
  have hf : fracB ⟨n, 1⟩ = true := by
    unfold fracB
    simp only [Bool.and_eq_true, decide_eq_true_eq]
    refine ⟨⟨⟨by omega, by omega⟩, by omega⟩, ?_⟩
    simp
  have h1 : shapedB ⟨0, 0, 0, 0, 0, ⟨n, 1⟩, zeroS, [], [], []⟩ = true := by unfold shapedB; simp [hf, same_self]
  have h2 : namedB ⟨0, 0, 0, 0, 0, ⟨n, 1⟩, zeroS, [], [], []⟩ = true := by unfold namedB; simp [bysB, bysFrom]
  have h3 : rangedB ⟨0, 0, 0, 0, 0, ⟨n, 1⟩, zeroS, [], [], []⟩ = true := by unfold rangedB; simp
  have hp : 2 ≤ 2 ^ d := by
    calc 2 = 2 ^ 1 := rfl
      _ ≤ 2 ^ d := Nat.pow_le_pow_right (by omega) hd
  refine ⟨.mk _ hM (fun k hk => by cases hk), ?_, ?_, ?_, ?_⟩
  · rw [validC_eq, h1, h2, h3]; simp [validL]
  · rw [nodes_eq]; simp [nodesL]; omega
  · rw [depth_eq]; simp [depthL]; omega
  · exact .mk _ (by unfold I64; simp) (by unfold I64; show _ ≤ n ∧ n ≤ _; omega) (by unfold I64; simp) (by show ([] : List DMatcher).length ≤ big; simp) (by show ([] : List ByteArray).length ≤ big; simp) (fun k hk => by cases hk)
theorem bin_good {M : Int} (hM : 0 ≤ M) {d : Nat} (hd : 2 ≤ d) {f : Int} {a b : DExpr} (ha : Gd M (d - 1) a) (hb : Gd M (d - 1) b) (hf : 0 ≤ f ∧ f < 4) : Gd M d ⟨3, f, 0, 0, 0, ⟨0, 0⟩, zeroS, [], [], [a, b]⟩ := by
  have hf' : f ≤ 3 := by omega
  have h1 : shapedB ⟨3, f, 0, 0, 0, ⟨0, 0⟩, zeroS, [], [], [a, b]⟩ = true := by unfold shapedB; simp [hf.1, hf', same_self]
  have h2 : namedB ⟨3, f, 0, 0, 0, ⟨0, 0⟩, zeroS, [], [], [a, b]⟩ = true := by unfold namedB; simp [bysB, bysFrom]
  have h3 : rangedB ⟨3, f, 0, 0, 0, ⟨0, 0⟩, zeroS, [], [], [a, b]⟩ = true := by unfold rangedB; simp
  obtain ⟨p1, p2⟩ := pow_two hd
  have n1 := ha.nodes
  have n2 := hb.nodes
  have d1 := ha.depth
  have d2 := hb.depth
  refine ⟨.mk _ hM (fun k hk => ?_), ?_, ?_, ?_, ?_⟩
  · have hk : k ∈ [a, b] := hk
    simp only [List.mem_cons, List.not_mem_nil, or_false] at hk
    rcases hk with rfl | rfl
    · exact ha.offs
    · exact hb.offs
  · rw [validC_eq, h1, h2, h3]; simp [validL, ha.valid, hb.valid]
  · rw [nodes_eq]; simp only [nodesL]; omega
  · rw [depth_eq]; simp only [depthL]; omega
  · refine .mk _ (by unfold I64; simp) (by unfold I64; simp) (by unfold I64; simp) (by show ([] : List DMatcher).length ≤ big; simp) (by show ([] : List ByteArray).length ≤ big; simp) (fun k hk => ?_)
    have hk : k ∈ [a, b] := hk
    simp only [List.mem_cons, List.not_mem_nil, or_false] at hk
    rcases hk with rfl | rfl
    · exact ha.wf
    · exact hb.wf
theorem group_loop {l : List Int} {names : List ByteArray} {most : Int} {d : Nat} (hd : 2 ≤ d) (hd4 : d ≤ 1000) {c : Nat} {j : Nat} (ih : Makes (d - 1) l j names most c (S_ref07_G_expr L0 (((d - 1 : Nat) : Int), (l, ((j : Int), (names, most)))))) (z8 z9 z10 z11 z12 z13 z14 : Int) (z15 : ByteArray) (kd f w o k n1 n2 : Int) (s : ByteArray) (z24 : List DMatcher) (z25 : List ByteArray) (z26 : List DExpr) (z27 : List DMatcher) (z29 : List DExpr) : ∀ (suf pre : List ByteArray) (q : Nat) (acc : List ByteArray), names0 = pre ++ suf → q < 64 → acc.length ≤ pre.length →
    ∃ e j', P_ref07_G_group_0 L0 (((d : Int), (names0, ((q : Int), (pre.length : Int)))), ((l, ((j : Int), (names, most))), ((z8, (z9, (z10, (z11, (z12, (z13, (z14, z15))))))), ((kd, (f, (w, (o, (k, (n1, (n2, s))))))), (z24, (z25, (z26, (z27, (acc, z29))))))))) = some (⟨kd, f, w, o, k, ⟨n1, n2⟩, s, z27, acc ++ byC suf (q : Int), [e]⟩, (l, (((j' : Nat) : Int), (names, most)))) ∧ j' ≤ j + c ∧ Gd most (d - 1) e := by
  intro suf
  induction suf with
  | nil =>
    intro pre q acc he hq ha
    obtain ⟨e, j', h1, h2, h3⟩ := ih
    refine ⟨e, j', ?_, h2, h3⟩
    refine go_ref07_G_group_0 _ _ _ _ _ _ _ _ _ _ _ _ _ _ _ _ _ _ _ _ _ _ _ _ _ _ _ _ _ _ ?_
    unfold B_ref07_G_group_0
    have hl : ¬ (pre.length : Int) < (names0.length : Int) := by rw [he]; simp
    have w1 : IntKind.wrap .i64 ((d : Int) - 1) = ((d - 1 : Nat) : Int) := by rw [wrap64 (by omega) (by omega)]; omega
    rw [if_neg (by simpa using hl), w1, h1]
    simp [byC]
  | cons x suf ihs =>
    intro pre q acc he hq ha
    have hlen : names0.length = 6 := rfl
    have hpl : pre.length < 6 := by rw [← hlen, he]; simp
    have wq : IntKind.wrap .i64 (Int.tdiv (q : Int) 2) = ((q / 2 : Nat) : Int) := by
      have : Int.tdiv (q : Int) 2 = ((q / 2 : Nat) : Int) := rfl
      rw [this, wrap64 (by omega) (by omega)]
    have wi : IntKind.wrap .i64 ((pre.length : Int) + 1) = ((pre ++ [x]).length : Int) := by
      rw [wrap64 (by omega) (by omega)]; simp
    have td : Int.tdiv (q : Int) 2 = ((q / 2 : Nat) : Int) := rfl
    by_cases hm : Int.tmod (q : Int) 4 = 1
    · obtain ⟨e, j', h1, h2⟩ := ihs (pre ++ [x]) (q / 2) (acc ++ [x]) (by simp [he]) (by omega) (by simp; omega)
      refine ⟨e, j', ?_, h2⟩
      refine go_ref07_G_group_0 _ _ _ _ _ _ _ _ _ _ _ _ _ _ _ _ _ _ _ _ _ _ _ _ _ _ _ _ _ _ ?_
      unfold B_ref07_G_group_0
      rw [if_pos (decide_eq_true (show (pre.length : Int) < (names0.length : Int) by rw [hlen]; omega)), if_pos (by rw [hm]; rfl), if_pos (decide_eq_true (show (0 : Int) ≤ (pre.length : Int) ∧ (pre.length : Int) < (names0.length : Int) by rw [hlen]; omega))]
      have hr : rdx .str names0 (pre.length : Int) = x := by rw [he]; exact rdx_mid .str pre x suf
      rw [hr, wq, wi, if_pos (by simp only [Bool.true_and, decide_eq_true_eq, List.length_cons, List.length_nil]; omega), h1, byC, if_pos hm, td]
      simp
    · obtain ⟨e, j', h1, h2⟩ := ihs (pre ++ [x]) (q / 2) acc (by simp [he]) (by omega) (by simp; omega)
      refine ⟨e, j', ?_, h2⟩
      refine go_ref07_G_group_0 _ _ _ _ _ _ _ _ _ _ _ _ _ _ _ _ _ _ _ _ _ _ _ _ _ _ _ _ _ _ ?_
      unfold B_ref07_G_group_0
      rw [if_pos (decide_eq_true (show (pre.length : Int) < (names0.length : Int) by rw [hlen]; omega)), if_neg (by simpa using hm), wq, wi, h1, byC, if_neg hm, td]
      simp
theorem group_ok {l : List Int} {names : List ByteArray} {most : Int} (g : GP l names most) {d : Nat} (hd : 2 ≤ d) (hd4 : d ≤ 1000) {c : Nat} {i : Nat} (hi : i ≤ 1000000) (ih : ∀ j, j ≤ i + 10 → Makes (d - 1) l j names most c (S_ref07_G_expr L0 (((d - 1 : Nat) : Int), (l, ((j : Int), (names, most)))))) :
    Makes d l i names most (c + 10) (S_ref07_G_group L0 ((d : Int), (l, ((i : Int), (names, most))))) := by
  have hbody : ∀ z, B_ref07_G_group L0 (d : Int) l (i : Int) names most = some z → S_ref07_G_group L0 ((d : Int), (l, ((i : Int), (names, most)))) = some z := fun z h => go_ref07_G_group _ _ _ _ _ h
  unfold B_ref07_G_group at hbody
  have rf := pick_range (l := l) (i := i) (m := 5) (by omega)
  rw [next_ok g.l64 (by omega) (by omega)] at hbody
  simp only [Option.bind_some] at hbody
  by_cases f4 : pickC l i 5 = 4
  · rw [f4] at hbody
    simp only [beq_self_eq_true, if_true] at hbody
    have rk := pick_range (l := l) (i := i + 1) (m := 3) (by omega)
    have rq := pick_range (l := l) (i := i + 2) (m := 64) (by omega)
    rw [next_ok g.l64 (by omega) (by omega), Names_ok] at hbody
    simp only [Option.bind_some] at hbody
    rw [next_ok g.l64 (by omega) (by omega)] at hbody
    have w1 : IntKind.wrap .i64 (1 + pickC l (i + 1) 3) = 1 + pickC l (i + 1) 3 := wrap64 (by omega) (by omega)
    simp only [Option.bind_some, w1] at hbody
    obtain ⟨q, hq⟩ := Int.eq_ofNat_of_zero_le rq.1
    have hq' : pickC l (i + 1 + 1) 64 = (q : Int) := hq
    rw [hq'] at hbody
    obtain ⟨e, j', h1, h2, h3⟩ := group_loop hd hd4 (ih (i + 1 + 1 + 1) (by omega)) 0 0 0 0 0 0 0 zeroS 2 4 0 0 (1 + pickC l (i + 1) 3) 0 0 zeroS [] [] [] [] [] names0 [] q [] rfl (by omega) (by simp)
    refine ⟨_, j', hbody _ h1, by omega, ?_⟩
    exact group_good (by have := g.lo; omega) hd h3 ⟨by omega, by omega⟩ (by rw [if_pos rfl]; omega) (byC_good q (by omega))
  · have : (pickC l i 5 == 4) = false := by simpa using f4
    rw [this] at hbody
    simp only [Bool.false_eq_true, if_false] at hbody
    have rq := pick_range (l := l) (i := i + 1) (m := 64) (by omega)
    rw [Names_ok] at hbody
    simp only [Option.bind_some] at hbody
    rw [next_ok g.l64 (by omega) (by omega)] at hbody
    simp only [Option.bind_some] at hbody
    obtain ⟨q, hq⟩ := Int.eq_ofNat_of_zero_le rq.1
    rw [hq] at hbody
    obtain ⟨e, j', h1, h2, h3⟩ := group_loop hd hd4 (ih (i + 1 + 1) (by omega)) 0 0 0 0 0 0 0 zeroS 2 (pickC l i 5) 0 0 0 0 0 zeroS [] [] [] [] [] names0 [] q [] rfl (by omega) (by simp)
    refine ⟨_, j', hbody _ h1, by omega, ?_⟩
    exact group_good (by have := g.lo; omega) hd h3 ⟨by omega, by omega⟩ (by rw [if_neg f4]) (byC_good q (by omega))
def numsT : List Int := [0, 1, 2, 7, 10, 1073741824]
theorem numsT_all : ∀ n ∈ numsT, 0 ≤ n ∧ n ≤ 1073741824 := by decide
theorem expr_ok {l : List Int} {names : List ByteArray} {most : Int} (g : GP l names most) : ∀ d : Nat, 1 ≤ d → d ≤ 4 → ∀ i : Nat, i ≤ 1000 * (10 - d) → Makes d l i names most (60 * (2 ^ d - 1)) (S_ref07_G_expr L0 ((d : Int), (l, ((i : Int), (names, most))))) := by
  intro d
  induction d with
  | zero => intro h; omega
  | succ d ih =>
    intro hd1 hd4 i hi
    have hbody : ∀ z, B_ref07_G_expr L0 ((d + 1 : Nat) : Int) l (i : Int) names most = some z → S_ref07_G_expr L0 (((d + 1 : Nat) : Int), (l, ((i : Int), (names, most)))) = some z := fun z h => go_ref07_G_expr _ _ _ _ _ h
    have lift : ∀ R, Makes (d + 1) l i names most (60 * (2 ^ (d + 1) - 1)) R → (∀ z, R = some z → S_ref07_G_expr L0 (((d + 1 : Nat) : Int), (l, ((i : Int), (names, most)))) = some z) → Makes (d + 1) l i names most (60 * (2 ^ (d + 1) - 1)) (S_ref07_G_expr L0 (((d + 1 : Nat) : Int), (l, ((i : Int), (names, most))))) := by
      rintro R ⟨e, i', h1, h2, h3⟩ h
      exact ⟨e, i', h _ h1, h2, h3⟩
    have hpow : 2 ≤ 2 ^ (d + 1) := by
      calc 2 = 2 ^ 1 := rfl
        _ ≤ 2 ^ (d + 1) := Nat.pow_le_pow_right (by omega) (by omega)
    unfold B_ref07_G_expr at hbody
    have rk := pick_range (l := l) (i := i) (m := 8) (by omega)
    rw [next_ok g.l64 (by omega) (by omega)] at hbody
    simp only [Option.bind_some] at hbody
    have hnum : ∀ R : Option (DExpr × (List Int × (Int × (List ByteArray × Int)))), ((S_ref07_G_next L0 (6, (l, (((i + 1 : Nat) : Int), (names, most))))).bind fun y => if decide ((0 : Int) ≤ y.1 ∧ y.1 < (6 : Int)) = true then if decide (Int.toNat y.1 < 6) = true then some ((⟨0, 0, 0, 0, 0, ⟨rdx (.i .i64) numsT y.1, 1⟩, zeroS, [], [], []⟩ : DExpr), (y.2.1, (y.2.2.1, (y.2.2.2.1, y.2.2.2.2)))) else none else none) = R → Makes (d + 1) l i names most (60 * (2 ^ (d + 1) - 1)) R := by
      intro R hR
      have rn := pick_range (l := l) (i := i + 1) (m := 6) (by omega)
      rw [next_ok g.l64 (by omega) (by omega)] at hR
      simp only [Option.bind_some] at hR
      rw [if_pos (decide_eq_true rn), if_pos (decide_eq_true (by omega))] at hR
      exact ⟨_, _, hR.symm, by omega, num_good (by have := g.lo; omega) (by omega) (rdx_all (t := .i .i64) numsT_all rn.1 (by have : ((numsT.length : Nat) : Int) = 6 := rfl; omega))⟩
    have hsel : Makes (d + 1) l i names most (60 * (2 ^ (d + 1) - 1)) (S_ref07_G_selection L0 (l, (((i + 1 : Nat) : Int), (names, most)))) := by
      obtain ⟨e, i', h1, h2, h3⟩ := selection_ok g (i := i + 1) (by omega) (d := d + 1) (by omega)
      exact ⟨e, i', h1, by omega, h3⟩
    have hsel' : Makes (d + 1) l i names most (60 * (2 ^ (d + 1) - 1)) ((S_ref07_G_selection L0 (l, (((i + 1 : Nat) : Int), (names, most)))).bind fun y => some (eE y.1, (y.2.1, (y.2.2.1, (y.2.2.2.1, y.2.2.2.2))))) := by
      obtain ⟨e, i', h1, h2, h3⟩ := hsel
      refine ⟨e, i', ?_, h2, h3⟩
      rw [h1]
      simp
    by_cases k0 : pickC l i 8 = 0
    · rw [k0] at hbody
      simp only [beq_self_eq_true, if_true] at hbody
      exact lift _ (hnum _ rfl) hbody
    have k0' : (pickC l i 8 == 0) = false := by simpa using k0
    rw [k0'] at hbody
    simp only [Bool.false_eq_true, if_false] at hbody
    by_cases d0 : d = 0
    · subst d0
      have c1 : ((0 + 1 : Nat) : Int) ≤ 1 := by decide
      simp only [c1, decide_true, if_true] at hbody
      by_cases k3 : pickC l i 8 < 3
      · simp only [k3, decide_true, if_true] at hbody
        exact lift _ (hnum _ rfl) hbody
      · simp only [k3, decide_false, Bool.false_eq_true, if_false] at hbody
        exact lift _ hsel' hbody
    · have c1 : ¬ ((d + 1 : Nat) : Int) ≤ 1 := by omega
      simp only [c1, decide_false, Bool.false_eq_true, if_false] at hbody
      have hp2 := (pow_two (d := d + 1) (by omega)).1
      simp only [Nat.add_sub_cancel] at hp2
      have hp3 := (pow_two (d := d + 1) (by omega)).2
      simp only [Nat.add_sub_cancel] at hp3
      have hp4 : 2 ^ d ≤ 8 := by
        calc 2 ^ d ≤ 2 ^ 3 := Nat.pow_le_pow_right (by omega) (by omega)
          _ = 8 := rfl
      by_cases k4 : pickC l i 8 < 4
      · simp only [k4, decide_true, if_true] at hbody
        exact lift _ hsel' hbody
      simp only [k4, decide_false, Bool.false_eq_true, if_false] at hbody
      by_cases k5 : pickC l i 8 = 4
      · rw [k5] at hbody
        simp only [beq_self_eq_true, if_true] at hbody
        have hg := group_ok g (d := d + 1) (by omega) (by omega) (i := i + 1) (c := 60 * (2 ^ d - 1)) (by omega) (fun j hj => by
          simp only [Nat.add_sub_cancel]
          exact ih (by omega) (by omega) j (by omega))
        refine lift _ ?_ hbody
        obtain ⟨e, i', h1, h2, h3⟩ := hg
        refine ⟨e, i', ?_, by omega, h3⟩
        rw [h1]
        simp
      · have k5' : (pickC l i 8 == 4) = false := by simpa using k5
        rw [k5'] at hbody
        simp only [Bool.false_eq_true, if_false] at hbody
        have rf := pick_range (l := l) (i := i + 1) (m := 4) (by omega)
        rw [next_ok g.l64 (by omega) (by omega)] at hbody
        have w1 : IntKind.wrap .i64 (((d + 1 : Nat) : Int) - 1) = ((d : Nat) : Int) := by rw [wrap64 (by omega) (by omega)]; omega
        simp only [Option.bind_some, w1] at hbody
        obtain ⟨a, ia, a1, a2, a3⟩ := ih (by omega) (by omega) (i + 1 + 1) (by omega)
        rw [a1] at hbody
        simp only [Option.bind_some] at hbody
        obtain ⟨b, ib, b1, b2, b3⟩ := ih (by omega) (by omega) ia (by omega)
        rw [b1] at hbody
        simp only [Option.bind_some, eE_eq] at hbody
        refine ⟨_, ib, hbody _ rfl, by omega, ?_⟩
        exact bin_good (by have := g.lo; omega) (by omega) (by simpa using a3) (by simpa using b3) ⟨by omega, by omega⟩
/-- What is made from numbers: a valid tree. -/
structure Made (e : DExpr) : Prop where
  valid : ValidC e = 0
  nodes : nodes e ≤ 15
  wf : Wf e
theorem Made.few {e : DExpr} (h : Made e) : Few e := by have := h.nodes; unfold Few big; omega
theorem Gd.made {M : Int} {e : DExpr} (h : Gd M 4 e) : Made e := by
  have hn := h.nodes
  have hd := h.depth
  refine ⟨?_, by omega, h.wf⟩
  unfold ValidC
  have : large e = false := by unfold large; simp; omega
  rw [this]
  simpa using h.valid
theorem MakeG_ok {l : List Int} {names : List ByteArray} {most : Int} (g : GP l names most) : ∃ e, S_ref07_Make L0 (l, (names, most)) = some e ∧ Gd most 4 e := by
  obtain ⟨e, i', h1, _, h3⟩ := expr_ok g 4 (by omega) (by omega) 0 (by omega)
  refine ⟨e, ?_, h3⟩
  refine go_ref07_Make _ _ _ ?_
  unfold B_ref07_Make
  have hlo := g.lo
  have : (if most > 1 then most else 1) = most := by split <;> omega
  rw [this]
  replace h1 : S_ref07_G_expr L0 (4, (l, (0, (names, most)))) = some (e, (l, ((i' : Int), (names, most)))) := h1
  rw [h1]
  simp
theorem Make_ok {l : List Int} {names : List ByteArray} {most : Int} (g : GP l names most) : ∃ e, S_ref07_Make L0 (l, (names, most)) = some e ∧ Made e := by
  obtain ⟨e, h1, h2⟩ := MakeG_ok g
  exact ⟨e, h1, h2.made⟩
def namesE : List ByteArray := [⟨#[99, 112, 117]⟩, ⟨#[109, 101, 109]⟩, ⟨#[97]⟩, ⟨#[108, 97, 115, 116]⟩, ⟨#[98, 121]⟩, ⟨#[120, 95, 49]⟩]
theorem good_names {l : List ByteArray} (h : l.all (fun s => nameB s && !decide (findD s wGroups 0 ≥ 0)) = true) : ∀ s ∈ l, nameB s = true ∧ hasS wGroups s = false := by
  intro s hs
  have := List.all_eq_true.1 h s hs
  simp only [Bool.and_eq_true, Bool.not_eq_true'] at this
  refine ⟨this.1, ?_⟩
  unfold hasS
  rw [findI_dec]
  exact this.2
theorem namesE_all : ∀ s ∈ namesE, nameB s = true ∧ hasS wGroups s = false := good_names (by decide +kernel)
theorem Expr_ok {l : List Int} (hl : I64s l) : ∃ e, S_ref07_Expr L0 l = some e ∧ Made e := by
  obtain ⟨e, h1, h2⟩ := Make_ok (l := l) (names := namesE) (most := 4096) ⟨hl, namesE_all, by decide, by decide, by omega, by omega⟩
  refine ⟨e, ?_, h2⟩
  refine go_ref07_Expr _ ?_
  unfold B_ref07_Expr
  refine (congrArg (Option.bind · _) h1).trans ?_
  simp
end Go.AM
/-
  Plans with an instruction turned, the first instructions of a list: they fit; Tree and Check agree on them: PlanTree.
-/
namespace Go.AM
open Go
set_option maxRecDepth 100000
def WfP (p : List DIns) : Prop := ∀ i ∈ p, WfI i
theorem WfP.append {p q : List DIns} (hp : WfP p) (hq : WfP q) : WfP (p ++ q) := fun i hi => (List.mem_append.1 hi).elim (hp i) (hq i)
theorem WfP.set {p : List DIns} (hp : WfP p) {n : Nat} {x : DIns} (hx : WfI x) : WfP (p.set n x) := fun i hi => (List.mem_or_eq_of_mem_set hi).elim (hp i) (fun h => h ▸ hx)
theorem WfP.sub {p q : List DIns} (hp : WfP p) (hq : ∀ i ∈ q, i ∈ p) : WfP q := fun i hi => hp i (hq i hi)
theorem WfP.rdx {p : List DIns} (hp : WfP p) {i : Int} (h0 : 0 ≤ i) (h1 : i < (p.length : Int)) : WfI (rdx .ins p i) := rdx_all (t := .ins) (p := WfI) hp h0 h1
theorem Changed_ok {p : List DIns} (hp : WfP p) (hl : p.length ≤ 1000) {a b v : Int} (ha : I64 a) (hb : I64 b) (hv : I64 v) : ∃ q, S_ref23_Changed L0 (p, (a, (b, v))) = some q ∧ WfP q ∧ q.length ≤ p.length + 1 := by
  have hbody : ∀ z, B_ref23_Changed L0 p a b v = some z → S_ref23_Changed L0 (p, (a, (b, v))) = some z := fun z h => go_ref23_Changed _ _ _ _ h
  unfold B_ref23_Changed at hbody
  rw [if_pos (by simp only [Bool.true_and, decide_eq_true_eq]; omega)] at hbody
  simp only [List.nil_append] at hbody
  by_cases h0 : p.length = 0
  · rw [if_pos (by rw [h0]; rfl)] at hbody
    exact ⟨p, hbody _ rfl, hp, by omega⟩
  rw [if_neg (by simp only [beq_iff_eq]; omega), Around_ok ha (by omega), Around_ok hb (by omega)] at hbody
  have ra := around_range (n := a) (m := (p.length : Int)) (by omega)
  have rb := around_range (n := b) (m := 7) (by omega)
  simp only [Option.bind_some] at hbody
  generalize aroundC a (p.length : Int) = i at *
  generalize aroundC b 7 = k at *
  have hi := hp.rdx ra.1 ra.2
  have w1 : IntKind.wrap .i64 (i + 1) = i + 1 := wrap64 (by omega) (by omega)
  obtain ⟨n, rfl⟩ := Int.eq_ofNat_of_zero_le ra.1
  have hn : n < p.length := by omega
  have t0 : Int.toNat ((n : Int) - 0) = n := by omega
  have t1 : Int.toNat ((n : Int)) = n := by omega
  have t2 : Int.toNat ((n : Int) + 1) = n + 1 := by omega
  have t3 : Int.toNat ((p.length : Int) - ((n : Int) + 1)) = p.length - (n + 1) := by omega
  simp only [w1, t0, t1, t2, t3] at hbody
  have l1 : (p.take n).length ≤ p.length := by simp; omega
  have l2 : ((p.drop (n + 1)).take (p.length - (n + 1))).length ≤ p.length := by simp
  have g1 : (0 : Int) ≤ 0 ∧ (0 : Int) ≤ (n : Int) ∧ (n : Int) ≤ (p.length : Int) := by omega
  have g2 : (0 : Int) ≤ (n : Int) + 1 ∧ (n : Int) + 1 ≤ (p.length : Int) ∧ (p.length : Int) ≤ (p.length : Int) := by omega
  have g3 : n ≤ p.length := by omega
  have g4 : ((p.take n).length + ((p.drop (n + 1)).take (p.length - (n + 1))).length) * 120 ≤ 140737488355328 := by omega
  have g5 : (0 : Int) ≤ (n : Int) ∧ (n : Int) < (p.length : Int) := by omega
  have g6 : (p.length + ([] : List DIns).length + 1) * 120 ≤ 140737488355328 := by simp; omega
  by_cases k0 : k = 0
  · subst k0
    simp only [beq_self_eq_true, if_true, decide_eq_true g1, decide_eq_true g2, g3, g4, decide_true, Bool.and_self] at hbody
    refine ⟨_, hbody _ rfl, ?_, ?_⟩
    · exact hp.sub (fun j hj => by
        rcases List.mem_append.1 hj with h | h
        · exact List.mem_of_mem_take h
        · exact List.mem_of_mem_drop (List.mem_of_mem_take h))
    · simp; omega
  have b0 : (k == 0) = false := by simpa using k0
  simp only [b0, Bool.false_eq_true, if_false] at hbody
  by_cases k1 : k = 1
  · subst k1
    simp only [beq_self_eq_true, if_true, decide_eq_true g5] at hbody
    rw [if_pos (by simp only [Bool.true_and, decide_eq_true_eq, List.length_cons, List.length_nil]; omega)] at hbody
    refine ⟨_, hbody _ rfl, hp.append (fun j hj => ?_), by simp⟩
    rw [List.mem_singleton.1 hj]; exact hi
  have b1 : (k == 1) = false := by simpa using k1
  simp only [b1, Bool.false_eq_true, if_false] at hbody
  -- the four fields
  have tail : ∀ R : Option (List DIns), (if (k == 3) = true then
      if decide ((0 : Int) ≤ (n : Int) ∧ (n : Int) < (p.length : Int)) = true then if decide (n < p.length) = true then some (p.set n ⟨v, (rdx .ins p (n : Int)).fn, (rdx .ins p (n : Int)).window, (rdx .ins p (n : Int)).offset, (rdx .ins p (n : Int)).k, (rdx .ins p (n : Int)).num, (rdx .ins p (n : Int)).name, (rdx .ins p (n : Int)).ms, (rdx .ins p (n : Int)).by_⟩) else none else none
    else if (k == 4) = true then
      if decide ((0 : Int) ≤ (n : Int) ∧ (n : Int) < (p.length : Int)) = true then if decide (n < p.length) = true then some (p.set n ⟨(rdx .ins p (n : Int)).kind, v, (rdx .ins p (n : Int)).window, (rdx .ins p (n : Int)).offset, (rdx .ins p (n : Int)).k, (rdx .ins p (n : Int)).num, (rdx .ins p (n : Int)).name, (rdx .ins p (n : Int)).ms, (rdx .ins p (n : Int)).by_⟩) else none else none
    else if (k == 5) = true then
      if decide ((0 : Int) ≤ (n : Int) ∧ (n : Int) < (p.length : Int)) = true then if decide (n < p.length) = true then some (p.set n ⟨(rdx .ins p (n : Int)).kind, (rdx .ins p (n : Int)).fn, (rdx .ins p (n : Int)).window, (rdx .ins p (n : Int)).offset, v, (rdx .ins p (n : Int)).num, (rdx .ins p (n : Int)).name, (rdx .ins p (n : Int)).ms, (rdx .ins p (n : Int)).by_⟩) else none else none
    else if (k == 6) = true then
      if decide ((0 : Int) ≤ (n : Int) ∧ (n : Int) < (p.length : Int)) = true then if decide (n < p.length) = true then some (p.set n ⟨(rdx .ins p (n : Int)).kind, (rdx .ins p (n : Int)).fn, v, (rdx .ins p (n : Int)).offset, (rdx .ins p (n : Int)).k, (rdx .ins p (n : Int)).num, (rdx .ins p (n : Int)).name, (rdx .ins p (n : Int)).ms, (rdx .ins p (n : Int)).by_⟩) else none else none
    else some p) = R → ∃ q, R = some q ∧ WfP q ∧ q.length ≤ p.length + 1 := by
    intro R hR
    simp only [decide_eq_true g5, if_true, hn, decide_true] at hR
    split at hR
    · exact ⟨_, hR.symm, hp.set ⟨hv, hi.num, hi.den, hi.ms, hi.bys⟩, by simp⟩
    split at hR
    · exact ⟨_, hR.symm, hp.set ⟨hi.kind, hi.num, hi.den, hi.ms, hi.bys⟩, by simp⟩
    split at hR
    · exact ⟨_, hR.symm, hp.set ⟨hi.kind, hi.num, hi.den, hi.ms, hi.bys⟩, by simp⟩
    split at hR
    · exact ⟨_, hR.symm, hp.set ⟨hi.kind, hi.num, hi.den, hi.ms, hi.bys⟩, by simp⟩
    · exact ⟨_, hR.symm, hp, by omega⟩
  have lift : ∀ R : Option (List DIns), (∃ q, R = some q ∧ WfP q ∧ q.length ≤ p.length + 1) → (∀ z, R = some z → S_ref23_Changed L0 (p, (a, (b, v))) = some z) → ∃ q, S_ref23_Changed L0 (p, (a, (b, v))) = some q ∧ WfP q ∧ q.length ≤ p.length + 1 := by
    rintro R ⟨q, h1, h2⟩ h
    exact ⟨q, h _ h1, h2⟩
  by_cases k2 : k = 2
  · subst k2
    simp only [beq_self_eq_true, if_true] at hbody
    by_cases hin : (n : Int) + 1 < (p.length : Int)
    · have hi2 := hp.rdx (i := (n : Int) + 1) (by omega) hin
      have hn2 : n + 1 < p.length := by omega
      have g7 : (0 : Int) ≤ (n : Int) + 1 ∧ (n : Int) + 1 < (p.length : Int) := by omega
      simp only [hin, decide_true, if_true, decide_eq_true g7, decide_eq_true g5, hn, List.length_set, hn2] at hbody
      exact ⟨_, hbody _ rfl, (hp.set hi2).set hi, by simp⟩
    · simp only [hin, decide_false, Bool.false_eq_true, if_false] at hbody
      exact lift _ (tail _ rfl) hbody
  · have b2 : (k == 2) = false := by simpa using k2
    simp only [b2, Bool.false_eq_true, if_false] at hbody
    exact lift _ (tail _ rfl) hbody
theorem rebuilds_ok {p : List DIns} (hp : WfP p) : S_law23_rebuilds L0 p = some true := by
  refine go_law23_rebuilds _ ?_
  unfold B_law23_rebuilds
  rw [plan_Tree_ok hp, ref23_Tree_ok hp, plan_Check_ok hp]
  have he : S_ref07_Equal L0 ((treeC p).1, (treeC p).1) = some true := by
    have h1 : Few (treeC p).1 ∧ Sized (treeC p).1 := by
      unfold treeC
      split
      · exact ⟨by unfold Few; decide, .mk _ (by decide) (by decide) (fun k hk => by cases hk)⟩
      · rename_i hl
        have E0ok : Few E0 ∧ Sized E0 := ⟨by unfold Few; decide, .mk _ (by decide) (by decide) (fun k hk => by cases hk)⟩
        have hfold : ∀ (q : List DIns) (st st' : List DExpr), WfP q → (∀ e ∈ st, Wf e) → foldT q st = some st' → (∀ e ∈ st', Wf e) ∧ nodesL st' ≤ nodesL st + q.length := by
          intro q
          induction q with
          | nil => intro st st' _ hs h; cases h; exact ⟨hs, by simp⟩
          | cons i q ih =>
            intro st st' hq hs h
            rw [foldT] at h
            cases hpl : plant i st with
            | none => rw [hpl] at h; cases h
            | some s1 =>
              rw [hpl] at h
              unfold plant at hpl
              split at hpl
              · cases hpl
              · rename_i hc
                cases hpl
                have hmem : ∀ e ∈ st.take (st.length - pops i.kind) ++ [exprOf i (st.drop (st.length - pops i.kind))], Wf e := by
                  intro e he
                  rcases List.mem_append.1 he with he | he
                  · exact hs e (List.mem_of_mem_take he)
                  · rw [List.mem_singleton.1 he]
                    exact Wf.of_ins (hq i (by simp)) (fun k hk => hs k (List.mem_of_mem_drop hk))
                obtain ⟨r1, r2⟩ := ih _ _ (fun j hj => hq j (by simp [hj])) hmem h
                refine ⟨r1, ?_⟩
                have hn : nodesL st = nodesL (st.take (st.length - pops i.kind)) + nodesL (st.drop (st.length - pops i.kind)) := by
                  rw [← nodesL_append, List.take_append_drop]
                rw [nodesL_append] at r2
                simp only [nodesL, nodes_exprOf, List.length_cons] at r2 ⊢
                omega
        unfold endT
        split
        · rename_i e hst
          obtain ⟨r1, r2⟩ := hfold p [] [e] hp (fun e he => by cases he) hst
          split
          · refine ⟨?_, (r1 e (by simp)).sized⟩
            simp only [nodesL, List.length_nil] at r2
            show nodes e ≤ big
            unfold big
            omega
          · exact E0ok
        · exact E0ok
    rw [ref07_Equal_ok _ _ _ (Nat.le_refl _) h1.1 h1.2, same_self]
  simp only [Option.bind_some, beq_self_eq_true, if_true, eE_eq, he]
/-- The first of some texts. -/
theorem Short_ok (s : ByteArray) : ∃ r, S_ref01_Short L0 (s, 20) = some r := by
  have hbody : ∀ z, B_ref01_Short L0 s 20 = some z → S_ref01_Short L0 (s, 20) = some z := fun z h => go_ref01_Short _ _ h
  unfold B_ref01_Short at hbody
  by_cases h : (s.size : Int) > 20
  · rw [if_pos (decide_eq_true h), if_pos (decide_eq_true (by omega))] at hbody
    exact ⟨_, hbody _ rfl⟩
  · rw [if_neg (by simpa using h)] at hbody
    exact ⟨_, hbody _ rfl⟩
end Go.AM
/-
  The first instructions of any list; PlanTree: the plain law.
-/
namespace Go.AM
open Go
set_option maxRecDepth 100000
section
variable {p : List DIns} (hp : WfP p)
include hp
theorem Few_two {i : Nat} (hi : i < p.length) (hi12 : i < 12) (z3 z4 z5 z6 z7 z8 z9 : Int) (z10 : ByteArray) (ms : List DMatcher) (hz : I64 z3 ∧ I64 z8 ∧ I64 z9) (hm : ms.length ≤ 3) (out : List DIns) (ho : out.length ≤ 12) (hw : WfP out)
    (next : ∀ out', WfP out' → out'.length = out.length + 1 → ∃ q, P_ref23_Few_0 L0 ((p, ((i + 1 : Nat) : Int)), out') = some q ∧ WfP q) : ∀ (m k : Nat) (bys : List ByteArray), k + m = 3 → bys.length ≤ k →
    ∃ q, P_ref23_Few_2 L0 ((p, ((i : Int), (k : Int))), ((z3, (z4, (z5, (z6, (z7, (z8, (z9, z10))))))), (ms, (bys, out)))) = some q ∧ WfP q := by
  have hii : (0 : Int) ≤ (i : Int) ∧ (i : Int) < (p.length : Int) := by omega
  have hins := hp.rdx hii.1 hii.2
  have fin : ∀ (k : Nat) (bys : List ByteArray), k ≤ 3 → bys.length ≤ k → (¬ ((k : Int) < (((rdx .ins p (i : Int)).by_.length : Nat) : Int)) ∨ ¬ (k : Int) < 3) →
      ∃ q, P_ref23_Few_2 L0 ((p, ((i : Int), (k : Int))), ((z3, (z4, (z5, (z6, (z7, (z8, (z9, z10))))))), (ms, (bys, out)))) = some q ∧ WfP q := by
    intro k bys hk hb hor
    have hnew : WfI ⟨z3, z4, z5, z6, z7, ⟨z8, z9⟩, z10, ms, bys⟩ := ⟨hz.1, hz.2.1, hz.2.2, by show ms.length * 40 ≤ big; unfold big; omega, by show bys.length * 16 ≤ big; unfold big; omega⟩
    obtain ⟨q, h1, h2⟩ := next (out ++ [⟨z3, z4, z5, z6, z7, ⟨z8, z9⟩, z10, ms, bys⟩]) (hw.append (fun j hj => by rw [List.mem_singleton.1 hj]; exact hnew)) (by simp)
    refine ⟨q, ?_, h2⟩
    refine go_ref23_Few_2 _ _ _ _ _ _ _ _ _ _ _ _ _ _ ?_
    unfold B_ref23_Few_2
    have w : IntKind.wrap .i64 ((i : Int) + 1) = ((i + 1 : Nat) : Int) := by rw [wrap64 (by omega) (by omega)]; omega
    rw [if_pos (decide_eq_true hii)]
    have hvc : (true && decide ((out.length + ((⟨z3, z4, z5, z6, z7, ⟨z8, z9⟩, z10, ms, bys⟩ : DIns) :: []).length) * 120 ≤ 140737488355328)) = true := by
      simp only [Bool.true_and, decide_eq_true_eq, List.length_cons, List.length_nil]; omega
    by_cases c1 : (k : Int) < (((rdx .ins p (i : Int)).by_.length : Nat) : Int)
    · have c2 : ¬ (k : Int) < 3 := hor.resolve_left (fun h => h c1)
      rw [if_pos (decide_eq_true c1), if_neg (by simpa using c2), if_pos hvc, w, h1]
    · rw [if_neg (by simpa using c1), if_pos hvc, w, h1]
  intro m
  induction m with
  | zero => intro k bys hk hb; exact fin k bys (by omega) hb (.inr (by omega))
  | succ m ih =>
    intro k bys hk hb
    by_cases c1 : (k : Int) < (((rdx .ins p (i : Int)).by_.length : Nat) : Int)
    · obtain ⟨q, h1, h2⟩ := ih (k + 1) (bys ++ [rdx .str (rdx .ins p (i : Int)).by_ (k : Int)]) (by omega) (by simp; omega)
      refine ⟨q, ?_, h2⟩
      refine go_ref23_Few_2 _ _ _ _ _ _ _ _ _ _ _ _ _ _ ?_
      unfold B_ref23_Few_2
      have w : IntKind.wrap .i64 ((k : Int) + 1) = ((k + 1 : Nat) : Int) := by rw [wrap64 (by omega) (by omega)]; omega
      rw [if_pos (decide_eq_true hii), if_pos (decide_eq_true c1), if_pos (decide_eq_true (show (k : Int) < 3 by omega)), if_pos (decide_eq_true hii), if_pos (decide_eq_true ⟨by omega, c1⟩), if_pos (by simp only [Bool.true_and, decide_eq_true_eq, List.length_cons, List.length_nil]; omega), w, h1]
    · exact fin k bys (by omega) hb (.inl c1)
theorem Few_one {i : Nat} (hi : i < p.length) (hi12 : i < 12) (z3 z4 z5 z6 z7 z8 z9 : Int) (z10 : ByteArray) (z11 : List ByteArray) (hz : I64 z3 ∧ I64 z8 ∧ I64 z9) (out : List DIns) (ho : out.length ≤ 12) (hw : WfP out)
    (next : ∀ out', WfP out' → out'.length = out.length + 1 → ∃ q, P_ref23_Few_0 L0 ((p, ((i + 1 : Nat) : Int)), out') = some q ∧ WfP q) : ∀ (m k : Nat) (ms : List DMatcher), k + m = 3 → ms.length ≤ k →
    ∃ q, P_ref23_Few_1 L0 ((p, ((i : Int), (k : Int))), ((z3, (z4, (z5, (z6, (z7, (z8, (z9, (z10, z11)))))))), (ms, out))) = some q ∧ WfP q := by
  have hii : (0 : Int) ≤ (i : Int) ∧ (i : Int) < (p.length : Int) := by omega
  have fin : ∀ (k : Nat) (ms : List DMatcher), k ≤ 3 → ms.length ≤ k → (¬ ((k : Int) < (((rdx .ins p (i : Int)).ms.length : Nat) : Int)) ∨ ¬ (k : Int) < 3) →
      ∃ q, P_ref23_Few_1 L0 ((p, ((i : Int), (k : Int))), ((z3, (z4, (z5, (z6, (z7, (z8, (z9, (z10, z11)))))))), (ms, out))) = some q ∧ WfP q := by
    intro k ms hk hb hor
    obtain ⟨q, h1, h2⟩ := Few_two hp hi hi12 z3 z4 z5 z6 z7 z8 z9 z10 ms hz (by omega) out ho hw next 3 0 [] rfl (by simp)
    replace h1 : P_ref23_Few_2 L0 ((p, ((i : Int), 0)), ((z3, (z4, (z5, (z6, (z7, (z8, (z9, z10))))))), (ms, ([], out)))) = some q := h1
    refine ⟨q, ?_, h2⟩
    refine go_ref23_Few_1 _ _ _ _ _ _ _ _ _ _ _ _ _ _ ?_
    unfold B_ref23_Few_1
    rw [if_pos (decide_eq_true hii)]
    by_cases c1 : (k : Int) < (((rdx .ins p (i : Int)).ms.length : Nat) : Int)
    · have c2 : ¬ (k : Int) < 3 := hor.resolve_left (fun h => h c1)
      rw [if_pos (decide_eq_true c1), if_neg (by simpa using c2), h1]
    · rw [if_neg (by simpa using c1), h1]
  intro m
  induction m with
  | zero => intro k ms hk hb; exact fin k ms (by omega) hb (.inr (by omega))
  | succ m ih =>
    intro k ms hk hb
    by_cases c1 : (k : Int) < (((rdx .ins p (i : Int)).ms.length : Nat) : Int)
    · obtain ⟨q, h1, h2⟩ := ih (k + 1) (ms ++ [rdx .matcher (rdx .ins p (i : Int)).ms (k : Int)]) (by omega) (by simp; omega)
      refine ⟨q, ?_, h2⟩
      refine go_ref23_Few_1 _ _ _ _ _ _ _ _ _ _ _ _ _ _ ?_
      unfold B_ref23_Few_1
      have w : IntKind.wrap .i64 ((k : Int) + 1) = ((k + 1 : Nat) : Int) := by rw [wrap64 (by omega) (by omega)]; omega
      rw [if_pos (decide_eq_true hii), if_pos (decide_eq_true c1), if_pos (decide_eq_true (show (k : Int) < 3 by omega)), if_pos (decide_eq_true hii), if_pos (decide_eq_true ⟨by omega, c1⟩), if_pos (by simp only [Bool.true_and, decide_eq_true_eq, List.length_cons, List.length_nil]; omega), w, h1]
    · exact fin k ms (by omega) hb (.inl c1)
theorem Few_zero : ∀ (m i : Nat) (out : List DIns), i + m = 12 → out.length = i → WfP out → ∃ q, P_ref23_Few_0 L0 ((p, (i : Int)), out) = some q ∧ WfP q := by
  intro m
  induction m with
  | zero =>
    intro i out hi ho hw
    refine ⟨out, ?_, hw⟩
    refine go_ref23_Few_0 _ _ _ ?_
    unfold B_ref23_Few_0
    have c2 : ¬ (i : Int) < 12 := by omega
    by_cases c1 : (i : Int) < (p.length : Int)
    · rw [if_pos (decide_eq_true c1), if_neg (by simpa using c2)]
    · rw [if_neg (by simpa using c1)]
  | succ m ih =>
    intro i out hi ho hw
    by_cases c1 : (i : Int) < (p.length : Int)
    · have hii : (0 : Int) ≤ (i : Int) ∧ (i : Int) < (p.length : Int) := by omega
      have hins := hp.rdx hii.1 hii.2
      obtain ⟨s, hs⟩ := Short_ok (rdx .ins p (i : Int)).name
      obtain ⟨q, h1, h2⟩ := Few_one hp (i := i) (by omega) (by omega) (rdx .ins p (i : Int)).kind (rdx .ins p (i : Int)).fn (rdx .ins p (i : Int)).window (rdx .ins p (i : Int)).offset (rdx .ins p (i : Int)).k (rdx .ins p (i : Int)).num.num (rdx .ins p (i : Int)).num.den s (rdx .ins p (i : Int)).by_ ⟨hins.kind, hins.num, hins.den⟩ out (by omega) hw (fun out' hw' hl => ih (i + 1) out' (by omega) (by omega) hw') 3 0 [] rfl (by simp)
      replace h1 : P_ref23_Few_1 L0 ((p, ((i : Int), 0)), (((rdx .ins p (i : Int)).kind, ((rdx .ins p (i : Int)).fn, ((rdx .ins p (i : Int)).window, ((rdx .ins p (i : Int)).offset, ((rdx .ins p (i : Int)).k, ((rdx .ins p (i : Int)).num.num, ((rdx .ins p (i : Int)).num.den, (s, (rdx .ins p (i : Int)).by_)))))))), ([], out))) = some q := h1
      refine ⟨q, ?_, h2⟩
      refine go_ref23_Few_0 _ _ _ ?_
      unfold B_ref23_Few_0
      rw [if_pos (decide_eq_true c1), if_pos (decide_eq_true (show (i : Int) < 12 by omega)), if_pos (decide_eq_true hii), hs]
      exact h1
    · refine ⟨out, ?_, hw⟩
      refine go_ref23_Few_0 _ _ _ ?_
      unfold B_ref23_Few_0
      rw [if_neg (by simpa using c1)]
theorem Few_ok : ∃ q, S_ref23_Few L0 p = some q ∧ WfP q := by
  obtain ⟨q, h1, h2⟩ := Few_zero hp 12 0 [] rfl rfl (fun i hi => by cases hi)
  refine ⟨q, ?_, h2⟩
  refine go_ref23_Few _ ?_
  unfold B_ref23_Few
  exact h1
end
theorem compile_made {e : DExpr} (h : Made e) : S_plan_Compile L0 e = some (postC e, 0) ∧ S_ref23_Compile L0 e = some (postC e, 0) ∧ WfP (postC e) ∧ (postC e).length ≤ 15 := by
  refine ⟨?_, ?_, ?_, ?_⟩
  · rw [plan_Compile_ok h.few h.wf]; unfold compileC; rw [if_pos h.valid]
  · rw [ref23_Compile_ok h.few h.wf]; unfold compileC; rw [if_pos h.valid]
  · exact wfI_post _ e (Nat.le_refl _) h.wf (small_of_valid _ e (Nat.le_refl _) (ValidC_zero h.valid).2.2)
  · rw [postC_length _ e (Nat.le_refl _)]; exact h.nodes
theorem tdiv7 {n : Int} (h : I64 n) : IntKind.wrap .i64 (Int.tdiv n 7) = Int.tdiv n 7 ∧ I64 (Int.tdiv n 7) := by
  obtain ⟨h1, h2⟩ := h
  have h3 : I64 (Int.tdiv n 7) := by
    unfold I64
    rcases Int.le_total 0 n with h | h
    · rw [Int.tdiv_eq_ediv_of_nonneg h]; omega
    · have : Int.tdiv n 7 = -(Int.tdiv (-n) 7) := by rw [Int.neg_tdiv, Int.neg_neg]
      rw [this, Int.tdiv_eq_ediv_of_nonneg (by omega)]
      omega
  exact ⟨wrap64 h3.1 h3.2, h3⟩
theorem PlanTree_pure {l : List Int} {raw : List DIns} {at_ how v : Int} (hl : I64s l) (hr : WfP raw) (h1 : I64 at_) (h2 : I64 how) (h3 : I64 v) : S_law23_PlanTree L0 (l, (raw, (at_, (how, v)))) = some true := by
  refine go_law23_PlanTree _ _ _ _ _ ?_
  unfold B_law23_PlanTree
  obtain ⟨e, e1, me⟩ := Expr_ok hl
  obtain ⟨_, c2, wA, lA⟩ := compile_made me
  obtain ⟨q, f1, f2⟩ := Few_ok hr
  obtain ⟨x, x1, x2, x3⟩ := Changed_ok wA (by omega) h1 h2 h3
  obtain ⟨t1, t1'⟩ := tdiv7 h1
  obtain ⟨t2, t2'⟩ := tdiv7 h2
  obtain ⟨t3, t3'⟩ := tdiv7 h3
  obtain ⟨y, y1, y2, y3⟩ := Changed_ok x2 (by omega) t1' t2' t3'
  rw [e1]
  simp only [Option.bind_some, eE_eq, c2, f1, x1, rebuilds_ok wA, rebuilds_ok f2, rebuilds_ok x2, if_true, t1, t2, t3, y1, rebuilds_ok y2, lives_ok]
end Go.AM
/-
  Variable length integers and texts, as the program writes them and as the reference does.
-/
namespace Go.AM
open Go
set_option maxRecDepth 100000
def uintC (n : Nat) : List Int := if h : n < 128 then [(n : Int)] else ((n % 128 + 128 : Nat) : Int) :: uintC (n / 128)
termination_by n
decreasing_by omega
def zigC (x : Int) : Nat := if x < 0 then (-(x + 1)).toNat * 2 + 1 else x.toNat * 2
def intC (x : Int) : List Int := uintC (zigC x)
def textC (s : ByteArray) : List Int := uintC s.size ++ bytesOf s
theorem uintC_len : ∀ (k n : Nat), n < 128 ^ (k + 1) → (uintC n).length ≤ k + 1 := by
  intro k
  induction k with
  | zero => intro n h; rw [uintC, dif_pos (by simpa using h)]; simp
  | succ k ih =>
    intro n h
    rw [uintC]
    split
    · simp
    · have : n / 128 < 128 ^ (k + 1) := by rw [Nat.div_lt_iff_lt_mul (by decide), ← Nat.pow_succ]; exact h
      have := ih _ this
      simp only [List.length_cons]; omega
theorem uintC_ten {n : Nat} (h : n < 18446744073709551616) : (uintC n).length ≤ 10 := uintC_len 9 n (by omega)
theorem zigC_lt {x : Int} (h : I64 x) : zigC x < 18446744073709551616 := by
  obtain ⟨h1, h2⟩ := h
  unfold zigC; split <;> omega
theorem intC_len {x : Int} (h : I64 x) : (intC x).length ≤ 10 := uintC_ten (zigC_lt h)
theorem bytesOf_len (s : ByteArray) : (bytesOf s).length = s.size := by simp [bytesOf]
theorem or128 (b : BitVec 8) : (b ||| 128#8).toNat = b.toNat % 128 + 128 := by
  revert b
  decide +kernel
theorem byte_or (n : Nat) : IntKind.wrap .u8 (((BitVec.toNat ((BitVec.ofInt 8 (IntKind.wrap .u8 (n : Int))) ||| (BitVec.ofInt 8 128))) : Nat) : Int) = ((n % 128 + 128 : Nat) : Int) := by
  rw [show BitVec.ofInt 8 128 = 128#8 from rfl, or128, wrapu8, wrapu8, BitVec.toNat_ofInt]
  omega
theorem wire_Uint_loop : ∀ (k n : Nat) (l : List Int), n < 128 ^ (k + 1) → l.length + k + 1 ≤ 140737488355328 → P_wire_Writer_Uint_0 L0 ((n : Int), l) = some (l ++ uintC n) := by
  intro k
  induction k with
  | zero =>
    intro n l h hl
    have h' : n < 128 := by simpa using h
    refine go_wire_Writer_Uint_0 _ _ ?_
    unfold B_wire_Writer_Uint_0
    rw [if_neg (by simp only [decide_eq_true_eq]; omega), if_pos (by simp only [Bool.true_and, decide_eq_true_eq, List.length_cons, List.length_nil]; omega), uintC, dif_pos h', wrapu8]
    congr 3; omega
  | succ k ih =>
    intro n l h hl
    refine go_wire_Writer_Uint_0 _ _ ?_
    unfold B_wire_Writer_Uint_0
    by_cases h' : n < 128
    · rw [if_neg (by simp only [decide_eq_true_eq]; omega), if_pos (by simp only [Bool.true_and, decide_eq_true_eq, List.length_cons, List.length_nil]; omega), uintC, dif_pos h', wrapu8]
      congr 3; omega
    · have hd : n / 128 < 128 ^ (k + 1) := by rw [Nat.div_lt_iff_lt_mul (by decide), ← Nat.pow_succ]; exact h
      have e : Int.fdiv (n : Int) (2 ^ 7) = ((n / 128 : Nat) : Int) := by
        rw [Int.fdiv_eq_ediv_of_nonneg _ (by decide)]; omega
      rw [if_pos (by simp only [decide_eq_true_eq]; omega), if_pos (by simp only [Bool.true_and, decide_eq_true_eq, List.length_cons, List.length_nil]; omega), e, byte_or, ih _ _ hd (by simp only [List.length_append, List.length_cons, List.length_nil]; omega)]
      conv => rhs; rw [uintC, dif_neg h']
      simp
theorem wire_Uint_ok {n : Nat} {l : List Int} (h : n < 18446744073709551616) (hl : l.length ≤ 100000000) : S_wire_Writer_Uint L0 ((n : Int), l) = some (l ++ uintC n) := by
  refine go_wire_Writer_Uint _ _ ?_
  unfold B_wire_Writer_Uint
  exact wire_Uint_loop 9 n l (by omega) (by omega)
theorem zigzag_ok {x : Int} (h : I64 x) : S_wire_zigzag L0 x = some ((zigC x : Nat) : Int) := by
  refine go_wire_zigzag _ ?_
  unfold B_wire_zigzag zigC
  obtain ⟨h1, h2⟩ := h
  by_cases hx : x < 0
  · have e1 : Int.fdiv x (2 ^ 63) = -1 := by rw [Int.fdiv_eq_ediv_of_nonneg _ (by decide)]; omega
    have e2 : BitVec.ofInt 64 (IntKind.wrap .u64 (-1)) = BitVec.allOnes 64 := by decide
    have e3 : IntKind.wrap .u64 (IntKind.wrap .u64 x * (2 ^ 1)) = 2 * x + 18446744073709551616 := by
      show (x % 18446744073709551616 * 2 ^ 1) % 18446744073709551616 = _
      omega
    rw [e1, e2, e3, BitVec.xor_allOnes, BitVec.toNat_not, BitVec.toNat_ofInt, if_pos hx]
    congr 1
    rw [wrapu64 (by omega) (by omega)]
    omega
  · have e1 : Int.fdiv x (2 ^ 63) = 0 := by rw [Int.fdiv_eq_ediv_of_nonneg _ (by decide)]; omega
    have e2 : BitVec.ofInt 64 (IntKind.wrap .u64 0) = 0#64 := by decide
    have e3 : IntKind.wrap .u64 (IntKind.wrap .u64 x * (2 ^ 1)) = 2 * x := by
      show (x % 18446744073709551616 * 2 ^ 1) % 18446744073709551616 = _
      omega
    rw [e1, e2, e3, BitVec.xor_zero, BitVec.toNat_ofInt, if_neg hx]
    congr 1
    rw [wrapu64 (by omega) (by omega)]
    omega
theorem wire_Int_ok {x : Int} {l : List Int} (h : I64 x) (hl : l.length ≤ 100000000) : S_wire_Writer_Int L0 (x, l) = some (l ++ intC x) := by
  refine go_wire_Writer_Int _ _ ?_
  unfold B_wire_Writer_Int
  rw [zigzag_ok h, Option.bind_some, wire_Uint_ok (zigC_lt h) hl]
  rfl
theorem wire_Text_ok {s : ByteArray} {l : List Int} (h : s.size ≤ 100000000) (hl : l.length ≤ 100000000) : S_wire_Writer_Text L0 (s, l) = some (l ++ textC s) := by
  refine go_wire_Writer_Text _ _ ?_
  unfold B_wire_Writer_Text
  rw [wrapu64 (by omega) (by omega), wire_Uint_ok (by omega) hl, Option.bind_some]
  have := uintC_ten (n := s.size) (by omega)
  rw [if_pos (by simp only [Bool.true_and, decide_eq_true_eq, List.length_append, bytesOf_len]; omega)]
  simp [textC]
/-- The reference. -/
theorem ref_Uint_loop : ∀ (k n : Nat) (l : List Int), n < 128 ^ (k + 1) → n < 18446744073709551616 → l.length + k + 1 ≤ 140737488355328 → P_ref02_Uint_0 L0 ((n : Int), l) = some (l ++ uintC n) := by
  intro k
  induction k with
  | zero =>
    intro n l h hn hl
    have h' : n < 128 := by simpa using h
    refine go_ref02_Uint_0 _ _ ?_
    unfold B_ref02_Uint_0
    rw [if_neg (by simp only [decide_eq_true_eq]; omega), if_pos (by simp only [Bool.true_and, decide_eq_true_eq, List.length_cons, List.length_nil]; omega), uintC, dif_pos h', wrapu8]
    congr 3; omega
  | succ k ih =>
    intro n l h hn hl
    refine go_ref02_Uint_0 _ _ ?_
    unfold B_ref02_Uint_0
    by_cases h' : n < 128
    · rw [if_neg (by simp only [decide_eq_true_eq]; omega), if_pos (by simp only [Bool.true_and, decide_eq_true_eq, List.length_cons, List.length_nil]; omega), uintC, dif_pos h', wrapu8]
      congr 3; omega
    · have hd : n / 128 < 128 ^ (k + 1) := by rw [Nat.div_lt_iff_lt_mul (by decide), ← Nat.pow_succ]; exact h
      have e : IntKind.wrap .u64 (Int.tdiv (n : Int) 128) = ((n / 128 : Nat) : Int) := by
        rw [Int.tdiv_eq_ediv_of_nonneg (by omega), wrapu64 (by omega) (by omega)]; omega
      have e2 : IntKind.wrap .u8 (IntKind.wrap .u64 (128 + Int.tmod (n : Int) 128)) = ((n % 128 + 128 : Nat) : Int) := by
        rw [Int.tmod_eq_emod_of_nonneg (by omega), wrapu64 (by omega) (by omega), wrapu8]; omega
      rw [if_pos (by simp only [decide_eq_true_eq]; omega), if_pos (by simp only [Bool.true_and, decide_eq_true_eq, List.length_cons, List.length_nil]; omega), e, e2, ih _ _ hd (by omega) (by simp only [List.length_append, List.length_cons, List.length_nil]; omega)]
      conv => rhs; rw [uintC, dif_neg h']
      simp
theorem ref02_Uint_ok {n : Nat} (h : n < 18446744073709551616) : S_ref02_Uint L0 (n : Int) = some (uintC n) := by
  refine go_ref02_Uint _ ?_
  unfold B_ref02_Uint
  rw [ref_Uint_loop 9 n [] (by omega) h (by simp)]
  rfl
theorem ref02_Zigzag_ok {x : Int} (h : I64 x) : S_ref02_Zigzag L0 x = some ((zigC x : Nat) : Int) := by
  refine go_ref02_Zigzag _ ?_
  unfold B_ref02_Zigzag zigC
  obtain ⟨h1, h2⟩ := h
  by_cases hx : x < 0
  · have e1 : IntKind.wrap .i64 (0 - IntKind.wrap .i64 (x + 1)) = -(x + 1) := by rw [wrap64 (x := x + 1) (by omega) (by omega), wrap64 (by omega) (by omega)]; omega
    rw [if_pos (by simpa using hx), if_pos hx, e1]
    congr 1
    rw [wrapu64 (x := -(x + 1)) (by omega) (by omega), wrapu64 (x := 2 * -(x + 1)) (by omega) (by omega), wrapu64 (by omega) (by omega)]
    omega
  · rw [if_neg (by simpa using hx), if_neg hx]
    congr 1
    rw [wrapu64 (x := x) (by omega) (by omega), wrapu64 (by omega) (by omega)]
    omega
theorem ref02_Int_ok {x : Int} (h : I64 x) : S_ref02_Int L0 x = some (intC x) := by
  refine go_ref02_Int _ ?_
  unfold B_ref02_Int
  rw [ref02_Zigzag_ok h, Option.bind_some, ref02_Uint_ok (zigC_lt h)]
  rfl
theorem ref02_Raw_ok {s : ByteArray} (h : s.size ≤ 100000000) : S_ref02_Raw L0 (bytesOf s) = some (textC s) := by
  refine go_ref02_Raw _ ?_
  unfold B_ref02_Raw
  have := uintC_ten (n := s.size) (by omega)
  rw [bytesOf_len, wrapu64 (by omega) (by omega), ref02_Uint_ok (by omega), Option.bind_some]
  rw [if_pos (by simp only [Bool.true_and, decide_eq_true_eq]; omega)]
  rfl
end Go.AM
/-
  Encode: what the program writes is what the reference writes.
-/
namespace Go.AM
open Go
set_option maxRecDepth 100000
/-- A plan that is checked is the plan of its tree. -/
theorem postL_append : ∀ a b : List DExpr, postL (a ++ b) = postL a ++ postL b
  | [], b => rfl
  | x :: a, b => by rw [List.cons_append, postL, postL, postL_append a b, List.append_assoc]
theorem fold_post : ∀ (p : List DIns) (st st' : List DExpr), foldT p st = some st' → postL st' = postL st ++ p
  | [], st, st', h => by cases h; simp
  | i :: p, st, st', h => by
    rw [foldT] at h
    cases hp : plant i st with
    | none => rw [hp] at h; cases h
    | some s =>
      rw [hp, Option.bind_some] at h
      rw [fold_post p s st' h]
      unfold plant at hp
      split at hp
      · cases hp
      · have e := (Option.some.inj hp).symm
        have hs : st.take (st.length - pops i.kind) ++ st.drop (st.length - pops i.kind) = st := List.take_append_drop _ _
        have : postL s = postL st ++ [i] := by
          rw [e, postL_append]
          conv => rhs; rw [← hs, postL_append]
          rw [postL, postC_eq, postL]
          simp only [List.append_nil, List.append_assoc]
          rfl
        rw [this]; simp
theorem checked {p : List DIns} (h : (treeC p).2 = 0) : ∃ e, p = postC e ∧ ValidC e = 0 ∧ p.length ≤ 200 ∧ treeC p = (e, 0) := by
  unfold treeC at h ⊢
  split at h
  · cases h
  · rename_i hl
    rw [if_neg hl]
    match hf : foldT p [], h with
    | none, h => cases h
    | some [], h => cases h
    | some [e], h =>
      have hv : ValidC e = 0 := by
        by_cases hv : ValidC e = 0
        · exact hv
        · unfold endT at h
          simp only [if_neg hv] at h
          exact h
      refine ⟨e, ?_, hv, by omega, ?_⟩
      · have := fold_post p [] [e] hf
        rw [postL, postL, postL] at this
        simpa using this.symm
      · show (if ValidC e = 0 then (e, (0 : Int)) else _) = _
        rw [if_pos hv]
    | some (_ :: _ :: _), h => cases h
/-- A small instruction. -/
structure Tame (i : DIns) : Prop where
  kind : I64 i.kind
  fn : I64 i.fn
  window : I64 i.window
  offset : I64 i.offset
  k : I64 i.k
  num : I64 i.num.num
  den : I64 i.num.den
  name : i.name.size ≤ 16
  ms : i.ms.length ≤ 8
  bys : i.by_.length ≤ 8
  mats : ∀ m ∈ i.ms, m.name.size ≤ 16 ∧ I64 m.kind ∧ m.value.size ≤ 16
  keys : ∀ s ∈ i.by_, s.size ≤ 16
theorem nameB_size {s : ByteArray} (h : nameB s = true) : s.size ≤ 16 := by
  unfold nameB at h
  simp only [Bool.and_eq_true, decide_eq_true_eq] at h
  exact h.1.2
theorem bysFrom_size : ∀ (l : List ByteArray) (o : Option ByteArray), bysFrom o l = true → ∀ s ∈ l, s.size ≤ 16
  | [], _, _, s, hs => by cases hs
  | x :: r, o, h, s, hs => by
    unfold bysFrom at h
    rw [Bool.and_eq_true, Bool.and_eq_true] at h
    rcases List.mem_cons.1 hs with rfl | hs
    · exact nameB_size h.1.1
    · exact bysFrom_size r _ h.2 s hs
theorem I64_small {x : Int} (h0 : -1000000 ≤ x) (h1 : x ≤ 1000000) : I64 x := by unfold I64; omega
theorem tame_of {e : DExpr} (hv : validC e = 0) (hw : WfI (insOf e)) : Tame (insOf e) := by
  obtain ⟨h1, h2, h3, h4, h5, _⟩ := validC_parts hv
  have hn : (e.kind ≠ 1 → e.name = zeroS) ∧ (0 ≤ e.fn ∧ e.fn ≤ 7) ∧ (e.kind ≠ 1 → e.window = 0 ∧ e.offset = 0) := by
    unfold shapedB at h1
    split at h1
    · simp only [Bool.and_eq_true, decide_eq_true_eq, same_iff] at h1
      exact ⟨fun _ => h1.1.1.2, by omega, fun _ => ⟨h1.1.1.1.1.1.2, h1.1.1.1.1.2⟩⟩
    split at h1
    · rename_i _ hk
      simp only [Bool.and_eq_true, decide_eq_true_eq] at h1
      exact ⟨fun h => absurd hk h, by omega, fun h => absurd hk h⟩
    split at h1
    · simp only [Bool.and_eq_true, decide_eq_true_eq, same_iff] at h1
      exact ⟨fun _ => h1.1.2, by omega, fun _ => ⟨h1.1.1.1.2, h1.1.1.2⟩⟩
    split at h1
    · simp only [Bool.and_eq_true, decide_eq_true_eq, same_iff] at h1
      exact ⟨fun _ => h1.1.1.2, by omega, fun _ => ⟨h1.1.1.1.1.1.2, h1.1.1.1.1.2⟩⟩
    · cases h1
  unfold namedB at h2
  simp only [Bool.and_eq_true, List.all_eq_true] at h2
  obtain ⟨⟨n1, n2⟩, n3⟩ := h2
  have hr : (e.kind = 1 → 0 ≤ e.offset ∧ e.offset ≤ 4096 ∧ 0 ≤ e.window ∧ e.window ≤ 4096) ∧ 0 ≤ e.k ∧ e.k ≤ 4096 := by
    unfold rangedB at h5
    split at h5
    · simp only [Bool.and_eq_true, decide_eq_true_eq] at h5
      obtain ⟨⟨o1, o2⟩, h5⟩ := h5
      split at h5
      · simp only [Bool.and_eq_true, decide_eq_true_eq] at h5
        exact ⟨fun _ => by omega, by omega⟩
      · simp only [Bool.and_eq_true, decide_eq_true_eq] at h5
        obtain ⟨⟨w1, w2⟩, h5⟩ := h5
        split at h5
        · simp only [Bool.and_eq_true, decide_eq_true_eq] at h5
          exact ⟨fun _ => by omega, by omega⟩
        · simp only [decide_eq_true_eq] at h5
          exact ⟨fun _ => by omega, by omega⟩
    · rename_i hk
      split at h5
      · simp only [Bool.and_eq_true, decide_eq_true_eq] at h5
        exact ⟨fun h => absurd h hk, by omega⟩
      · simp only [decide_eq_true_eq] at h5
        exact ⟨fun h => absurd h hk, by omega⟩
  have hwo : I64 e.window ∧ I64 e.offset := by
    by_cases hk : e.kind = 1
    · have := hr.1 hk; exact ⟨I64_small (by omega) (by omega), I64_small (by omega) (by omega)⟩
    · have := hn.2.2 hk; exact ⟨I64_small (by omega) (by omega), I64_small (by omega) (by omega)⟩
  refine ⟨hw.kind, I64_small (x := e.fn) (by omega) (by omega), hwo.1, hwo.2, I64_small (x := e.k) (by omega) (by omega), hw.num, hw.den, ?_, h3, h4, ?_, bysFrom_size _ _ n3⟩
  · show e.name.size ≤ 16
    by_cases hk : e.kind = 1
    · rw [hk] at n1
      simp only [decide_true, Bool.not_true, Bool.false_or, Bool.and_eq_true] at n1
      exact nameB_size n1.1
    · rw [hn.1 hk]; decide
  · intro m hm
    have := n2 m hm
    unfold matcherB valueB at this
    simp only [Bool.and_eq_true, decide_eq_true_eq] at this
    exact ⟨nameB_size this.1.1.1, I64_small (by omega) (by omega), this.2.1⟩
theorem tame_post : ∀ n, ∀ e : DExpr, nodes e ≤ n → validC e = 0 → WfP (postC e) → ∀ i ∈ postC e, Tame i := by
  intro n
  induction n with
  | zero => intro e h; have := nodes_pos e; omega
  | succ n ih =>
    intro e h hv hw i hi
    obtain ⟨_, _, _, _, _, h6⟩ := validC_parts hv
    rw [nodes_eq] at h
    rw [postC_eq] at hi hw
    rcases List.mem_append.1 hi with hi | hi
    · have hL : ∀ l : List DExpr, nodesL l ≤ n → validL l = 0 → WfP (postL l) → ∀ i ∈ postL l, Tame i := by
        intro l
        induction l with
        | nil => intro _ _ _ i hi; simp [postL] at hi
        | cons k l ihl =>
          intro hn hk hw i hi
          rw [nodesL] at hn
          have hk1 := validL_mem hk k (by simp)
          have hl : validL l = 0 := by rw [validL, if_pos hk1] at hk; exact hk
          rw [postL] at hi hw
          rcases List.mem_append.1 hi with hi | hi
          · exact ih k (by omega) hk1 (fun j hj => hw j (by simp [hj])) i hi
          · exact ihl (by omega) hl (fun j hj => hw j (by simp [hj])) i hi
      exact hL e.kids (by omega) h6 (fun j hj => hw j (by simp [hj])) i hi
    · rw [List.mem_singleton.1 hi]
      exact tame_of hv (hw _ (by simp))
theorem checked_tame {p : List DIns} (h : (treeC p).2 = 0) (hw : WfP p) : ∀ i ∈ p, Tame i := by
  obtain ⟨e, rfl, h2, _⟩ := checked h
  exact tame_post _ e (Nat.le_refl _) (ValidC_zero h2).2.2 hw

/-- What Encode writes. -/
def intsC : List Int → List Int
  | [] => []
  | x :: r => intC x ++ intsC r
def headC (i : DIns) : List Int := [i.kind, i.fn, i.window, i.offset, i.k, i.num.num, i.num.den]
def matC (m : DMatcher) : List Int := textC m.name ++ (intC m.kind ++ textC m.value)
def matsC : List DMatcher → List Int
  | [] => []
  | m :: r => matC m ++ matsC r
def keysC : List ByteArray → List Int
  | [] => []
  | s :: r => textC s ++ keysC r
def insC (i : DIns) : List Int := intsC (headC i) ++ (textC i.name ++ (intC i.ms.length ++ (matsC i.ms ++ (intC i.by_.length ++ keysC i.by_))))
def inssC : List DIns → List Int
  | [] => []
  | i :: r => insC i ++ inssC r
def encC (p : List DIns) : List Int := intC p.length ++ inssC p
theorem textC_len {s : ByteArray} (h : s.size ≤ 16) : (textC s).length ≤ 26 := by
  have := uintC_ten (n := s.size) (by omega)
  unfold textC; rw [List.length_append, bytesOf_len]; omega
theorem matsC_len : ∀ l : List DMatcher, (∀ m ∈ l, m.name.size ≤ 16 ∧ I64 m.kind ∧ m.value.size ≤ 16) → (matsC l).length ≤ l.length * 62
  | [], _ => by simp [matsC]
  | m :: r, h => by
    obtain ⟨h1, h2, h3⟩ := h m (by simp)
    have a := textC_len h1
    have b := intC_len h2
    have c := textC_len h3
    have d := matsC_len r (fun m hm => h m (by simp [hm]))
    unfold matsC matC
    simp only [List.length_append, List.length_cons]; omega
theorem keysC_len : ∀ l : List ByteArray, (∀ m ∈ l, m.size ≤ 16) → (keysC l).length ≤ l.length * 26
  | [], _ => by simp [keysC]
  | m :: r, h => by
    have a := textC_len (h m (by simp))
    have d := keysC_len r (fun m hm => h m (by simp [hm]))
    unfold keysC
    simp only [List.length_append, List.length_cons]; omega
theorem intsC_len : ∀ l : List Int, (∀ m ∈ l, I64 m) → (intsC l).length ≤ l.length * 10
  | [], _ => by simp [intsC]
  | m :: r, h => by
    have a := intC_len (h m (by simp))
    have d := intsC_len r (fun m hm => h m (by simp [hm]))
    unfold intsC
    simp only [List.length_append, List.length_cons]; omega
theorem Tame.head {i : DIns} (h : Tame i) : ∀ x ∈ headC i, I64 x := by
  intro x hx
  simp only [headC, List.mem_cons, List.not_mem_nil, or_false] at hx
  rcases hx with rfl | rfl | rfl | rfl | rfl | rfl | rfl
  · exact h.kind
  · exact h.fn
  · exact h.window
  · exact h.offset
  · exact h.k
  · exact h.num
  · exact h.den
theorem insC_len {i : DIns} (h : Tame i) : (insC i).length ≤ 1000 := by
  have a := intsC_len _ h.head
  have b := textC_len h.name
  have c := matsC_len _ h.mats
  have d := keysC_len _ h.keys
  have e := intC_len (x := (i.ms.length : Int)) (I64_small (by omega) (by have := h.ms; omega))
  have f := intC_len (x := (i.by_.length : Int)) (I64_small (by omega) (by have := h.bys; omega))
  have g := h.ms
  have k := h.bys
  have : (headC i).length = 7 := rfl
  unfold insC
  simp only [List.length_append]; omega
theorem inssC_len : ∀ p : List DIns, (∀ i ∈ p, Tame i) → (inssC p).length ≤ p.length * 1000
  | [], _ => by simp [inssC]
  | i :: r, h => by
    have a := insC_len (h i (by simp))
    have d := inssC_len r (fun m hm => h m (by simp [hm]))
    unfold inssC
    simp only [List.length_append, List.length_cons]; omega
/-- The program. -/
theorem plan_ints_loop (xs : List Int) (hx : xs.length ≤ 100) (hi : ∀ x ∈ xs, I64 x) : ∀ (suf pre : List Int) (l : List Int), xs = pre ++ suf → l.length + suf.length * 10 ≤ 100000000 → P_plan_ints_0 L0 ((xs, ((xs.length : Int), (pre.length : Int))), l) = some (l ++ intsC suf)
  | [], pre, l, he, hl => by
    refine go_plan_ints_0 _ _ _ _ ?_
    unfold B_plan_ints_0
    have : ¬ (pre.length : Int) < (xs.length : Int) := by rw [he]; simp
    rw [if_neg (by simpa using this)]
    simp [intsC]
  | x :: suf, pre, l, he, hl => by
    refine go_plan_ints_0 _ _ _ _ ?_
    unfold B_plan_ints_0
    have h1 : (pre.length : Int) < (xs.length : Int) := by rw [he]; simp; omega
    have hx1 : I64 x := hi x (by rw [he]; simp)
    have hr : rdx (.i .i64) xs (pre.length : Int) = x := by rw [he]; exact rdx_mid (.i .i64) pre x suf
    have hs : IntKind.wrap .i64 ((pre.length : Int) + 1) = ((pre ++ [x]).length : Int) := idx_step pre x suf (by rw [← he]; unfold big; omega)
    have hln := intC_len hx1
    simp only [List.length_cons] at hl
    rw [if_pos (by simpa using h1), if_pos (by simp only [decide_eq_true_eq]; omega), hr, wire_Int_ok hx1 (by omega), Option.bind_some, hs,
      plan_ints_loop xs hx hi suf (pre ++ [x]) _ (by rw [he]; simp) (by rw [List.length_append]; omega)]
    simp [intsC]
theorem plan_ints_ok {xs l : List Int} (hx : xs.length ≤ 100) (hi : ∀ x ∈ xs, I64 x) (hl : l.length ≤ 10000000) : S_plan_ints L0 (xs, l) = some (l ++ intsC xs) := by
  refine go_plan_ints _ _ ?_
  unfold B_plan_ints
  exact plan_ints_loop xs hx hi xs [] l rfl (by omega)
theorem plan_int_ok {x : Int} {l : List Int} (hi : I64 x) (hl : l.length ≤ 10000000) : S_plan_ints L0 ([x], l) = some (l ++ intC x) := by
  rw [plan_ints_ok (by simp) (by intro y hy; rw [List.mem_singleton.1 hy]; exact hi) hl]
  simp [intsC]
section
variable {p : List DIns} (hp : p.length ≤ 200) (ht : ∀ i ∈ p, Tame i)
theorem Encode_keys (n m : Int) (xs : List ByteArray) (hx : xs.length ≤ 8) (hk : ∀ s ∈ xs, s.size ≤ 16) : ∀ (suf pre : List ByteArray) (l : List Int), xs = pre ++ suf → l.length + suf.length * 26 ≤ 10000000 →
    ∀ z, P_plan_Encode_0 L0 ((p, (n, IntKind.wrap .i64 (m + 1))), l ++ keysC suf) = some z → P_plan_Encode_2 L0 ((p, (n, (m, (xs, ((xs.length : Int), (pre.length : Int)))))), l) = some z
  | [], pre, l, he, hl, z, hz => by
    refine go_plan_Encode_2 _ _ _ _ _ _ _ ?_
    unfold B_plan_Encode_2
    have : ¬ (pre.length : Int) < (xs.length : Int) := by rw [he]; simp
    rw [if_neg (by simpa using this)]
    simpa [keysC] using hz
  | x :: suf, pre, l, he, hl, z, hz => by
    refine go_plan_Encode_2 _ _ _ _ _ _ _ ?_
    unfold B_plan_Encode_2
    have h1 : (pre.length : Int) < (xs.length : Int) := by rw [he]; simp; omega
    have hx1 : x.size ≤ 16 := hk x (by rw [he]; simp)
    have hr : rdx .str xs (pre.length : Int) = x := by rw [he]; exact rdx_mid .str pre x suf
    have hs : IntKind.wrap .i64 ((pre.length : Int) + 1) = ((pre ++ [x]).length : Int) := idx_step pre x suf (by rw [← he]; unfold big; omega)
    have hln := textC_len hx1
    simp only [List.length_cons] at hl
    rw [if_pos (by simpa using h1), if_pos (by simp only [decide_eq_true_eq]; omega), hr, wire_Text_ok (by omega) (by omega), Option.bind_some, hs]
    exact Encode_keys n m xs hx hk suf (pre ++ [x]) _ (by rw [he]; simp) (by rw [List.length_append]; omega) z (by simpa [keysC] using hz)
theorem Encode_mats (n m : Int) (i : DIns) (hi : Tame i) (xs : List DMatcher) (hx : xs.length ≤ 8) (hk : ∀ s ∈ xs, s.name.size ≤ 16 ∧ I64 s.kind ∧ s.value.size ≤ 16) : ∀ (suf pre : List DMatcher) (l : List Int), xs = pre ++ suf → l.length + suf.length * 62 ≤ 5000000 →
    ∀ z, P_plan_Encode_0 L0 ((p, (n, IntKind.wrap .i64 (m + 1))), ((l ++ matsC suf) ++ intC i.by_.length) ++ keysC i.by_) = some z → P_plan_Encode_1 L0 ((p, (n, (m, (xs, ((xs.length : Int), (pre.length : Int)))))), (i, l)) = some z
  | [], pre, l, he, hl, z, hz => by
    refine go_plan_Encode_1 _ _ _ _ _ _ _ _ ?_
    unfold B_plan_Encode_1
    have hk := hi.bys
    have hln := intC_len (x := (i.by_.length : Int)) (I64_small (by omega) (by omega))
    have : ¬ (pre.length : Int) < (xs.length : Int) := by rw [he]; simp
    rw [if_neg (by simpa using this), plan_int_ok (I64_small (by omega) (by omega)) (by omega), Option.bind_some]
    exact Encode_keys n m i.by_ hi.bys hi.keys i.by_ [] _ rfl (by simp only [List.length_append]; omega) z (by simpa [matsC] using hz)
  | x :: suf, pre, l, he, hl, z, hz => by
    refine go_plan_Encode_1 _ _ _ _ _ _ _ _ ?_
    unfold B_plan_Encode_1
    have h1 : (pre.length : Int) < (xs.length : Int) := by rw [he]; simp; omega
    obtain ⟨a1, a2, a3⟩ := hk x (by rw [he]; simp)
    have hr : rdx .matcher xs (pre.length : Int) = x := by rw [he]; exact rdx_mid .matcher pre x suf
    have hs : IntKind.wrap .i64 ((pre.length : Int) + 1) = ((pre ++ [x]).length : Int) := idx_step pre x suf (by rw [← he]; unfold big; omega)
    have b1 := textC_len a1
    have b2 := intC_len a2
    have b3 := textC_len a3
    simp only [List.length_cons] at hl
    rw [if_pos (by simpa using h1), if_pos (by simp only [decide_eq_true_eq]; omega), hr, wire_Text_ok (by omega) (by omega), Option.bind_some,
      plan_int_ok a2 (by simp only [List.length_append]; omega), Option.bind_some, wire_Text_ok (by omega) (by simp only [List.length_append]; omega), Option.bind_some, hs]
    exact Encode_mats n m i hi xs hx hk suf (pre ++ [x]) _ (by rw [he]; simp) (by simp only [List.length_append]; omega) z (by simpa [matsC, matC] using hz)
include hp ht in
theorem Encode_all : ∀ (suf pre : List DIns) (l : List Int), p = pre ++ suf → l.length + suf.length * 1000 ≤ 1000000 → P_plan_Encode_0 L0 ((p, ((p.length : Int), (pre.length : Int))), l) = some (l ++ inssC suf, 0)
  | [], pre, l, he, hl => by
    refine go_plan_Encode_0 _ _ _ _ ?_
    unfold B_plan_Encode_0
    have : ¬ (pre.length : Int) < (p.length : Int) := by rw [he]; simp
    have hd : S_wire_Writer_Done L0 l = some (l, l) := by
      refine go_wire_Writer_Done _ ?_
      unfold B_wire_Writer_Done
      rw [if_pos (by simp only [decide_eq_true_eq]; omega)]
    rw [if_neg (by simpa using this), hd]
    simp [inssC]
  | x :: suf, pre, l, he, hl => by
    refine go_plan_Encode_0 _ _ _ _ ?_
    unfold B_plan_Encode_0
    have h1 : (pre.length : Int) < (p.length : Int) := by rw [he]; simp; omega
    have hx := ht x (by rw [he]; simp)
    have hr : rdx .ins p (pre.length : Int) = x := by rw [he]; exact rdx_mid .ins pre x suf
    have hs : IntKind.wrap .i64 ((pre.length : Int) + 1) = ((pre ++ [x]).length : Int) := idx_step pre x suf (by rw [← he]; unfold big; omega)
    have b0 := insC_len hx
    have b1 := intsC_len _ hx.head
    have b2 := textC_len hx.name
    have hm := hx.ms
    have b3 := intC_len (x := (x.ms.length : Int)) (I64_small (by omega) (by omega))
    have hh : (headC x).length = 7 := rfl
    simp only [List.length_cons] at hl
    have hints : S_plan_ints L0 ((x.kind :: (x.fn :: (x.window :: (x.offset :: (x.k :: (x.num.num :: (x.num.den :: []))))))), l) = some (l ++ intsC (headC x)) := plan_ints_ok (xs := headC x) (by omega) hx.head (by omega)
    rw [if_pos (by simpa using h1), if_pos (by simp only [decide_eq_true_eq]; omega)]
    simp only [hr]
    rw [hints, Option.bind_some, wire_Text_ok (by have := hx.name; omega) (by simp only [List.length_append]; omega), Option.bind_some,
      plan_int_ok (I64_small (by omega) (by omega)) (by simp only [List.length_append]; omega), Option.bind_some]
    refine Encode_mats (p.length : Int) (pre.length : Int) x hx x.ms hx.ms hx.mats x.ms [] _ rfl (by simp only [List.length_append]; omega) _ ?_
    rw [hs, Encode_all suf (pre ++ [x]) _ (by rw [he]; simp) (by simp only [insC, List.length_append] at b0 ⊢; omega)]
    simp [inssC, insC]
end
theorem plan_Encode_ok {p : List DIns} (hw : WfP p) : S_plan_Encode L0 p = some (if (treeC p).2 = 0 then encC p else [], (treeC p).2) := by
  refine go_plan_Encode _ ?_
  unfold B_plan_Encode
  rw [plan_Check_ok hw, Option.bind_some]
  by_cases h : (treeC p).2 = 0
  · obtain ⟨e, h1, h2, h3, h4⟩ := checked h
    have ht := checked_tame h hw
    have hln := intC_len (x := (p.length : Int)) (I64_small (by omega) (by omega))
    have hp1 := plan_int_ok (x := (p.length : Int)) (l := []) (I64_small (by omega) (by omega)) (by simp)
    have hall := Encode_all h3 ht p [] (intC p.length) rfl (by omega)
    rw [if_neg (by simp [h]), if_pos h, hp1, Option.bind_some, h]
    simpa [encC] using hall
  · rw [if_pos (by simpa using h), if_neg h]
end Go.AM
/-
  Encode: the reference, and the law.
-/
namespace Go.AM
open Go
set_option maxRecDepth 100000
section
variable {p : List DIns} (hp : p.length ≤ 200) (ht : ∀ i ∈ p, Tame i)
theorem pre_in {A : Type} {xs pre suf : List A} {x : A} (he : xs = pre ++ x :: suf) : (0 : Int) ≤ (pre.length : Int) ∧ (pre.length : Int) < (xs.length : Int) := by
  rw [he]; simp; omega
theorem write_keys {m : Int} (hm : 0 ≤ m ∧ m < (p.length : Int)) {i : DIns} (hr : rdx .ins p m = i) (hi : Tame i) : ∀ (suf pre : List ByteArray) (l : List Int), i.by_ = pre ++ suf → l.length + suf.length * 26 ≤ 10000000 →
    ∀ z, P_ref23_write_0 L0 ((p, IntKind.wrap .i64 (m + 1)), l ++ keysC suf) = some z → P_ref23_write_3 L0 ((p, (m, (pre.length : Int))), l) = some z
  | [], pre, l, he, hl, z, hz => by
    refine go_ref23_write_3 _ _ _ _ ?_
    unfold B_ref23_write_3
    have : ¬ (pre.length : Int) < (i.by_.length : Int) := by rw [he]; simp
    rw [if_pos (by simpa using hm), hr, if_neg (by simpa using this)]
    simpa [keysC] using hz
  | x :: suf, pre, l, he, hl, z, hz => by
    refine go_ref23_write_3 _ _ _ _ ?_
    unfold B_ref23_write_3
    have h1 := pre_in he
    have hx1 : x.size ≤ 16 := hi.keys x (by rw [he]; simp)
    have hr2 : rdx .str i.by_ (pre.length : Int) = x := by rw [he]; exact rdx_mid .str pre x suf
    have hb := hi.bys
    have hs : IntKind.wrap .i64 ((pre.length : Int) + 1) = ((pre ++ [x]).length : Int) := idx_step pre x suf (by rw [← he]; unfold big; omega)
    have hln := textC_len hx1
    simp only [List.length_cons] at hl
    rw [if_pos (by simpa using hm), hr, if_pos (by simpa using h1.2), if_pos (by simpa using hm), if_pos (by simpa using h1), hr2, if_pos (by simp only [decide_eq_true_eq]; omega),
      ref02_Raw_ok (by omega), Option.bind_some, if_pos (by simp only [Bool.true_and, decide_eq_true_eq]; omega), hs]
    exact write_keys hm hr hi suf (pre ++ [x]) _ (by rw [he]; simp) (by rw [List.length_append]; omega) z (by simpa [keysC] using hz)
theorem write_mats {m : Int} (hm : 0 ≤ m ∧ m < (p.length : Int)) {i : DIns} (hr : rdx .ins p m = i) (hi : Tame i) : ∀ (suf pre : List DMatcher) (l : List Int), i.ms = pre ++ suf → l.length + suf.length * 62 ≤ 5000000 →
    ∀ z, P_ref23_write_0 L0 ((p, IntKind.wrap .i64 (m + 1)), ((l ++ matsC suf) ++ intC i.by_.length) ++ keysC i.by_) = some z → P_ref23_write_2 L0 ((p, (m, (pre.length : Int))), l) = some z
  | [], pre, l, he, hl, z, hz => by
    refine go_ref23_write_2 _ _ _ _ ?_
    unfold B_ref23_write_2
    have hk := hi.bys
    have hln := intC_len (x := (i.by_.length : Int)) (I64_small (by omega) (by omega))
    have : ¬ (pre.length : Int) < (i.ms.length : Int) := by rw [he]; simp
    rw [if_pos (by simpa using hm), hr, if_neg (by simpa using this), if_pos (by simpa using hm), ref02_Int_ok (I64_small (by omega) (by omega)), Option.bind_some,
      if_pos (by simp only [Bool.true_and, decide_eq_true_eq]; omega)]
    exact write_keys hm hr hi i.by_ [] _ rfl (by simp only [List.length_append]; omega) z (by simpa [matsC] using hz)
  | x :: suf, pre, l, he, hl, z, hz => by
    refine go_ref23_write_2 _ _ _ _ ?_
    unfold B_ref23_write_2
    have h1 := pre_in he
    obtain ⟨a1, a2, a3⟩ := hi.mats x (by rw [he]; simp)
    have hr2 : rdx .matcher i.ms (pre.length : Int) = x := by rw [he]; exact rdx_mid .matcher pre x suf
    have hb := hi.ms
    have hs : IntKind.wrap .i64 ((pre.length : Int) + 1) = ((pre ++ [x]).length : Int) := idx_step pre x suf (by rw [← he]; unfold big; omega)
    have b1 := textC_len a1
    have b2 := intC_len a2
    have b3 := textC_len a3
    simp only [List.length_cons] at hl
    rw [if_pos (by simpa using hm), hr, if_pos (by simpa using h1.2), if_pos (by simpa using hm), if_pos (by simpa using h1), hr2, if_pos (by simp only [decide_eq_true_eq]; omega),
      ref02_Raw_ok (by omega), Option.bind_some, if_pos (by simp only [Bool.true_and, decide_eq_true_eq]; omega),
      ref02_Int_ok a2, Option.bind_some, if_pos (by simp only [Bool.true_and, decide_eq_true_eq, List.length_append]; omega), if_pos (by simp only [decide_eq_true_eq]; omega),
      ref02_Raw_ok (by omega), Option.bind_some, if_pos (by simp only [Bool.true_and, decide_eq_true_eq, List.length_append]; omega), hs]
    exact write_mats hm hr hi suf (pre ++ [x]) _ (by rw [he]; simp) (by simp only [List.length_append]; omega) z (by simpa [matsC, matC] using hz)
theorem write_ints {m : Int} (hm : 0 ≤ m ∧ m < (p.length : Int)) {i : DIns} (hr : rdx .ins p m = i) (hi : Tame i) (xs : List Int) (hx : xs.length ≤ 100) (hxi : ∀ x ∈ xs, I64 x) : ∀ (suf pre : List Int) (l : List Int), xs = pre ++ suf → l.length + suf.length * 10 ≤ 2000000 →
    ∀ z, P_ref23_write_0 L0 ((p, IntKind.wrap .i64 (m + 1)), (((((l ++ intsC suf) ++ textC i.name) ++ intC i.ms.length) ++ matsC i.ms) ++ intC i.by_.length) ++ keysC i.by_) = some z → P_ref23_write_1 L0 ((p, (m, (pre.length : Int))), (l, xs)) = some z
  | [], pre, l, he, hl, z, hz => by
    refine go_ref23_write_1 _ _ _ _ _ ?_
    unfold B_ref23_write_1
    have hk := hi.ms
    have hn := hi.name
    have hn2 := textC_len hn
    have hln := intC_len (x := (i.ms.length : Int)) (I64_small (by omega) (by omega))
    have : ¬ (pre.length : Int) < (xs.length : Int) := by rw [he]; simp
    rw [if_neg (by simpa using this), if_pos (by simpa using hm), hr, if_pos (by simp only [decide_eq_true_eq]; omega), ref02_Raw_ok (by omega), Option.bind_some,
      if_pos (by simp only [Bool.true_and, decide_eq_true_eq]; omega), if_pos (by simpa using hm), ref02_Int_ok (I64_small (by omega) (by omega)), Option.bind_some,
      if_pos (by simp only [Bool.true_and, decide_eq_true_eq, List.length_append]; omega)]
    exact write_mats hm hr hi i.ms [] _ rfl (by simp only [List.length_append]; omega) z (by simpa [intsC] using hz)
  | x :: suf, pre, l, he, hl, z, hz => by
    refine go_ref23_write_1 _ _ _ _ _ ?_
    unfold B_ref23_write_1
    have h1 := pre_in he
    have a1 := hxi x (by rw [he]; simp)
    have hr2 : rdx (.i .i64) xs (pre.length : Int) = x := by rw [he]; exact rdx_mid (.i .i64) pre x suf
    have hs : IntKind.wrap .i64 ((pre.length : Int) + 1) = ((pre ++ [x]).length : Int) := idx_step pre x suf (by rw [← he]; unfold big; omega)
    have b1 := intC_len a1
    simp only [List.length_cons] at hl
    rw [if_pos (by simpa using h1.2), if_pos (by simpa using h1), if_pos (by simp only [decide_eq_true_eq]; omega), hr2, ref02_Int_ok a1, Option.bind_some,
      if_pos (by simp only [Bool.true_and, decide_eq_true_eq]; omega), hs]
    exact write_ints hm hr hi xs hx hxi suf (pre ++ [x]) _ (by rw [he]; simp) (by simp only [List.length_append]; omega) z (by simpa [intsC] using hz)
include hp ht in
theorem write_all : ∀ (suf pre : List DIns) (l : List Int), p = pre ++ suf → l.length + suf.length * 1000 ≤ 1000000 → P_ref23_write_0 L0 ((p, (pre.length : Int)), l) = some (l ++ inssC suf)
  | [], pre, l, he, hl => by
    refine go_ref23_write_0 _ _ _ ?_
    unfold B_ref23_write_0
    have : ¬ (pre.length : Int) < (p.length : Int) := by rw [he]; simp
    rw [if_neg (by simpa using this)]
    simp [inssC]
  | x :: suf, pre, l, he, hl => by
    refine go_ref23_write_0 _ _ _ ?_
    unfold B_ref23_write_0
    have h1 := pre_in he
    have hx := ht x (by rw [he]; simp)
    have hr : rdx .ins p (pre.length : Int) = x := by rw [he]; exact rdx_mid .ins pre x suf
    have hs : IntKind.wrap .i64 ((pre.length : Int) + 1) = ((pre ++ [x]).length : Int) := idx_step pre x suf (by rw [← he]; unfold big; omega)
    have b0 := insC_len hx
    have hh : (headC x).length = 7 := rfl
    simp only [List.length_cons] at hl
    rw [if_pos (by simpa using h1.2)]
    simp only [decide_eq_true h1, if_true]
    rw [hr]
    refine write_ints h1 hr hx (headC x) (by omega) hx.head (headC x) [] l rfl (by omega) _ ?_
    rw [hs, write_all suf (pre ++ [x]) _ (by rw [he]; simp) (by simp only [insC, List.length_append] at b0 ⊢; omega)]
    simp [inssC, insC]
end
theorem ref23_Encode_ok {p : List DIns} (hw : WfP p) : S_ref23_Encode L0 p = some (if (treeC p).2 = 0 then encC p else [], (treeC p).2) := by
  refine go_ref23_Encode _ ?_
  unfold B_ref23_Encode
  rw [ref23_Check_ok hw, Option.bind_some]
  by_cases h : (treeC p).2 = 0
  · obtain ⟨e, h1, h2, h3, h4⟩ := checked h
    have ht := checked_tame h hw
    have hln := intC_len (x := (p.length : Int)) (I64_small (by omega) (by omega))
    have hall := write_all h3 ht p [] (intC p.length) rfl (by omega)
    have hwr : S_ref23_write L0 p = some (encC p) := by
      refine go_ref23_write _ ?_
      unfold B_ref23_write
      rw [ref02_Int_ok (I64_small (by omega) (by omega)), Option.bind_some]
      exact hall
    rw [if_neg (by simp [h]), if_pos h, hwr, Option.bind_some, h]
  · rw [if_pos (by simpa using h), if_neg h]
theorem SameBytes_self {l : List Int} (hl : l.length ≤ big) : S_ref01_SameBytes L0 (l, l) = some true := by
  have hloop : ∀ (suf pre : List Int), l = pre ++ suf → P_ref01_SameBytes_0 L0 (l, (l, (pre.length : Int))) = some true := by
    intro suf
    induction suf with
    | nil =>
      intro pre he
      refine go_ref01_SameBytes_0 _ _ _ ?_
      unfold B_ref01_SameBytes_0
      have : ¬ (pre.length : Int) < (l.length : Int) := by rw [he]; simp
      rw [if_neg (by simpa using this)]
    | cons x suf ih =>
      intro pre he
      refine go_ref01_SameBytes_0 _ _ _ ?_
      unfold B_ref01_SameBytes_0
      have h1 := pre_in he
      have hs : IntKind.wrap .i64 ((pre.length : Int) + 1) = ((pre ++ [x]).length : Int) := idx_step pre x suf (by rw [← he]; exact hl)
      rw [if_pos (by simpa using h1.2), if_pos (by simpa using h1), if_pos (by simpa using h1), if_neg (by simp), hs]
      exact ih (pre ++ [x]) (by rw [he]; simp)
  refine go_ref01_SameBytes _ _ ?_
  unfold B_ref01_SameBytes
  rw [if_neg (by simp)]
  exact hloop l [] rfl
theorem encC_len {p : List DIns} (h : (treeC p).2 = 0) (hw : WfP p) : (encC p).length ≤ 300000 := by
  obtain ⟨e, h1, h2, h3, h4⟩ := checked h
  have hln := intC_len (x := (p.length : Int)) (I64_small (by omega) (by omega))
  have := inssC_len p (checked_tame h hw)
  unfold encC; rw [List.length_append]; omega
theorem encodes_ok {p : List DIns} (hw : WfP p) : S_law23_encodes L0 p = some true := by
  refine go_law23_encodes _ ?_
  unfold B_law23_encodes
  rw [plan_Encode_ok hw, ref23_Encode_ok hw]
  simp only [Option.bind_some, beq_self_eq_true, if_true]
  rw [SameBytes_self]
  · rfl
  · split
    · have := encC_len (by assumption) hw; unfold big; omega
    · simp
theorem PlanEncode_pure {l : List Int} {at_ how v : Int} (hl : I64s l) (h1 : I64 at_) (h2 : I64 how) (h3 : I64 v) : S_law23_PlanEncode L0 (l, (at_, (how, v))) = some true := by
  refine go_law23_PlanEncode _ _ _ _ ?_
  unfold B_law23_PlanEncode
  obtain ⟨e, e1, me⟩ := Expr_ok hl
  obtain ⟨_, c2, wA, lA⟩ := compile_made me
  obtain ⟨x, x1, x2, x3⟩ := Changed_ok wA (by omega) h1 h2 h3
  rw [e1]
  simp only [Option.bind_some, eE_eq, c2]
  rw [encodes_ok wA, Option.bind_some, if_pos rfl, x1, Option.bind_some, encodes_ok x2, Option.bind_some, if_pos rfl, lives_ok]
  rfl
end Go.AM
/-
  Labels matched, and the uses of declarations.
-/
namespace Go.AM
open Go
set_option maxRecDepth 100000
noncomputable def getC : List DLabel → ByteArray → ByteArray
  | [], _ => zeroS
  | l :: r, n => if same l.name n = true then l.value else getC r n
noncomputable def holdC (m : DMatcher) (v : ByteArray) : Bool :=
  if m.kind = 0 then same v m.value else if m.kind = 1 then !(same v m.value) else if m.kind = 2 then m.value.data.toList.isPrefixOf v.data.toList else false
noncomputable def matchC (ls : List DLabel) : List DMatcher → Bool
  | [] => true
  | m :: r => holdC m (getC ls m.name) && matchC ls r
noncomputable def selB (d : DDecl) (i : DIns) : Bool := decide (i.kind = 1) && (same i.name d.name && matchC d.labels i.ms)
noncomputable def usesC (p : List DIns) (ds : List DDecl) : List Int := ds.map fun d => ((p.countP (selB d) : Nat) : Int)
/-- The program's lookup. -/
theorem labels_Get_loop (xs : List DLabel) (n : ByteArray) (hx : xs.length ≤ big) : ∀ (suf pre : List DLabel), xs = pre ++ suf → P_labels_Get_0 L0 (n, (xs, ((xs.length : Int), (pre.length : Int)))) = some (getC suf n)
  | [], pre, he => by
    refine go_labels_Get_0 _ _ _ _ ?_
    unfold B_labels_Get_0
    have : ¬ (pre.length : Int) < (xs.length : Int) := by rw [he]; simp
    rw [if_neg (by simpa using this)]
    rfl
  | x :: suf, pre, he => by
    refine go_labels_Get_0 _ _ _ _ ?_
    unfold B_labels_Get_0
    have h1 := pre_in he
    have hr : rdx .label xs (pre.length : Int) = x := by rw [he]; exact rdx_mid .label pre x suf
    have hs : IntKind.wrap .i64 ((pre.length : Int) + 1) = ((pre ++ [x]).length : Int) := idx_step pre x suf (by rw [← he]; exact hx)
    rw [if_pos (by simpa using h1.2), if_pos (by simpa using h1), hr, str_same, hs, labels_Get_loop xs n hx suf (pre ++ [x]) (by rw [he]; simp)]
    rw [getC]
    split <;> rfl
theorem labels_Get_ok {xs : List DLabel} {n : ByteArray} (hx : xs.length ≤ big) : S_labels_Get L0 (xs, n) = some (getC xs n) := by
  refine go_labels_Get _ _ ?_
  unfold B_labels_Get
  exact labels_Get_loop xs n hx xs [] rfl
theorem ref05_Get_loop (xs : List DLabel) (n : ByteArray) (hx : xs.length ≤ big) : ∀ (suf pre : List DLabel), xs = pre ++ suf → P_ref05_Get_0 L0 (xs, (n, (pre.length : Int))) = some (getC suf n)
  | [], pre, he => by
    refine go_ref05_Get_0 _ _ _ ?_
    unfold B_ref05_Get_0
    have : ¬ (pre.length : Int) < (xs.length : Int) := by rw [he]; simp
    rw [if_neg (by simpa using this)]
    rfl
  | x :: suf, pre, he => by
    refine go_ref05_Get_0 _ _ _ ?_
    unfold B_ref05_Get_0
    have h1 := pre_in he
    have hr : rdx .label xs (pre.length : Int) = x := by rw [he]; exact rdx_mid .label pre x suf
    have hs : IntKind.wrap .i64 ((pre.length : Int) + 1) = ((pre ++ [x]).length : Int) := idx_step pre x suf (by rw [← he]; exact hx)
    rw [if_pos (by simpa using h1.2), if_pos (by simpa using h1), hr, str_same, hs, ref05_Get_loop xs n hx suf (pre ++ [x]) (by rw [he]; simp)]
    rw [getC]
    by_cases hn : same x.name n = true
    · rw [if_pos hn, if_pos hn, if_pos (by simpa using h1)]
    · rw [if_neg hn, if_neg hn]
theorem ref05_Get_ok {xs : List DLabel} {n : ByteArray} (hx : xs.length ≤ big) : S_ref05_Get L0 (xs, n) = some (getC xs n) := by
  refine go_ref05_Get _ _ ?_
  unfold B_ref05_Get
  exact ref05_Get_loop xs n hx xs [] rfl
theorem prefix_take : ∀ (p s : List UInt8), p.length ≤ s.length → (p.isPrefixOf s = true ↔ s.take p.length = p)
  | [], s, _ => by simp
  | a :: p, [], h => by simp at h
  | a :: p, b :: s, h => by
    simp only [List.length_cons, Nat.add_le_add_iff_right] at h
    simp only [List.isPrefixOf_cons_cons, List.length_cons, List.take_succ_cons, List.cons.injEq, Bool.and_eq_true, beq_iff_eq, prefix_take p s h]
    rw [eq_comm (a := a)]
theorem ref05_holds_ok (m : DMatcher) (v : ByteArray) : S_ref05_holds L0 (m, v) = some (holdC m v) := by
  refine go_ref05_holds _ _ ?_
  unfold B_ref05_holds holdC
  by_cases k0 : m.kind = 0
  · rw [if_pos (by simpa using k0), if_pos k0, str_same]
  rw [if_neg (by simpa using k0), if_neg k0]
  by_cases k1 : m.kind = 1
  · rw [if_pos (by simpa using k1), if_pos k1, str_same]
  rw [if_neg (by simpa using k1), if_neg k1]
  by_cases k2 : m.kind = 2
  · rw [if_pos (by simpa using k2), if_pos k2]
    have hsz := str_size v
    have hsz2 := str_size m.value
    by_cases hl : m.value.size ≤ v.size
    · rw [if_pos (by simp only [decide_eq_true_eq]; omega), if_pos (by simp only [decide_eq_true_eq]; omega), str_same, Int.toNat_natCast, extract_bs, List.drop_zero]
      congr 1
      rw [Bool.eq_iff_iff, same_iff, prefix_take _ _ (by omega), hsz2]
      constructor
      · intro h
        have := congrArg (fun s : ByteArray => s.data.toList) h
        simpa [bs_data] using this
      · intro h; rw [h, bs_self]
    · rw [if_neg (by simp only [decide_eq_true_eq]; omega)]
      congr 1
      cases hp : m.value.data.toList.isPrefixOf v.data.toList with
      | false => rfl
      | true => have := (List.isPrefixOf_iff_prefix.1 hp).length_le; omega
  · rw [if_neg (by simpa using k2), if_neg k2]
theorem labels_Match_loop (ls : List DLabel) (hl : ls.length ≤ big) (xs : List DMatcher) (hx : xs.length ≤ big) : ∀ (suf pre : List DMatcher), xs = pre ++ suf → P_labels_Match_0 L0 (ls, (xs, ((xs.length : Int), (pre.length : Int)))) = some (matchC ls suf)
  | [], pre, he => by
    refine go_labels_Match_0 _ _ _ _ ?_
    unfold B_labels_Match_0
    have : ¬ (pre.length : Int) < (xs.length : Int) := by rw [he]; simp
    rw [if_neg (by simpa using this)]
    rfl
  | x :: suf, pre, he => by
    refine go_labels_Match_0 _ _ _ _ ?_
    unfold B_labels_Match_0
    have h1 := pre_in he
    have hr : rdx .matcher xs (pre.length : Int) = x := by rw [he]; exact rdx_mid .matcher pre x suf
    have hs : IntKind.wrap .i64 ((pre.length : Int) + 1) = ((pre ++ [x]).length : Int) := idx_step pre x suf (by rw [← he]; exact hx)
    rw [if_pos (by simpa using h1.2), if_pos (by simpa using h1), hr, labels_Get_ok hl, Option.bind_some, str_same, hs, labels_Match_loop ls hl xs hx suf (pre ++ [x]) (by rw [he]; simp)]
    rw [matchC, holdC]
    generalize getC ls x.name = v
    by_cases k0 : x.kind = 0
    · rw [if_pos (by simpa using k0), if_pos k0]
      cases same v x.value <;> simp
    rw [if_neg (by simpa using k0), if_neg k0]
    by_cases k1 : x.kind = 1
    · rw [if_pos (by simpa using k1), if_pos k1]
      cases same v x.value <;> simp
    rw [if_neg (by simpa using k1), if_neg k1]
    by_cases k2 : x.kind = 2
    · rw [if_pos (by simpa using k2), if_pos k2, show base_HasPrefix (v, x.value) = some (x.value.data.toList.isPrefixOf v.data.toList) from rfl, Option.bind_some]
      cases x.value.data.toList.isPrefixOf v.data.toList <;> simp
    · rw [if_neg (by simpa using k2), if_neg k2]
      simp
theorem labels_Match_ok {ls : List DLabel} (hl : ls.length ≤ big) {xs : List DMatcher} (hx : xs.length ≤ big) : S_labels_Match L0 (ls, xs) = some (matchC ls xs) := by
  refine go_labels_Match _ _ ?_
  unfold B_labels_Match
  exact labels_Match_loop ls hl xs hx xs [] rfl
theorem ref05_Match_loop (ls : List DLabel) (hl : ls.length ≤ big) (xs : List DMatcher) (hx : xs.length ≤ big) : ∀ (suf pre : List DMatcher), xs = pre ++ suf → P_ref05_Match_0 L0 (ls, (xs, (pre.length : Int))) = some (matchC ls suf)
  | [], pre, he => by
    refine go_ref05_Match_0 _ _ _ ?_
    unfold B_ref05_Match_0
    have : ¬ (pre.length : Int) < (xs.length : Int) := by rw [he]; simp
    rw [if_neg (by simpa using this)]
    rfl
  | x :: suf, pre, he => by
    refine go_ref05_Match_0 _ _ _ ?_
    unfold B_ref05_Match_0
    have h1 := pre_in he
    have hr : rdx .matcher xs (pre.length : Int) = x := by rw [he]; exact rdx_mid .matcher pre x suf
    have hs : IntKind.wrap .i64 ((pre.length : Int) + 1) = ((pre ++ [x]).length : Int) := idx_step pre x suf (by rw [← he]; exact hx)
    rw [if_pos (by simpa using h1.2), if_pos (by simpa using h1), if_pos (by simpa using h1), hr, ref05_Get_ok hl, Option.bind_some, ref05_holds_ok, Option.bind_some, hs,
      ref05_Match_loop ls hl xs hx suf (pre ++ [x]) (by rw [he]; simp)]
    rw [matchC]
    cases holdC x (getC ls x.name) <;> simp
theorem ref05_Match_ok {ls : List DLabel} (hl : ls.length ≤ big) {xs : List DMatcher} (hx : xs.length ≤ big) : S_ref05_Match L0 (ls, xs) = some (matchC ls xs) := by
  refine go_ref05_Match _ _ ?_
  unfold B_ref05_Match
  exact ref05_Match_loop ls hl xs hx xs [] rfl
section
variable {p : List DIns} (hp : p.length ≤ 200) (ht : ∀ i ∈ p, Tame i) {ds : List DDecl} (hd : ds.length ≤ 1000) (hls : ∀ d ∈ ds, d.labels.length ≤ big)
include hd hls in
theorem Uses_one (n m : Int) (i : DIns) (hi : Tame i) (f : DDecl → Nat) (hf : ∀ d, f d ≤ 200) : ∀ (suf pre : List DDecl), ds = pre ++ suf → ∀ z,
    P_plan_Uses_0 L0 ((ds, (p, (n, IntKind.wrap .i64 (m + 1)))), ds.map fun d => (((if selB d i then f d + 1 else f d) : Nat) : Int)) = some z →
    P_plan_Uses_1 L0 ((ds, (p, (n, (m, (ds, ((ds.length : Int), (pre.length : Int))))))), (i, (pre.map fun d => (((if selB d i then f d + 1 else f d) : Nat) : Int)) ++ (suf.map fun d => ((f d : Nat) : Int)))) = some z
  | [], pre, he, z, hz => by
    refine go_plan_Uses_1 _ _ _ _ _ _ _ _ _ ?_
    unfold B_plan_Uses_1
    have : ¬ (pre.length : Int) < (ds.length : Int) := by rw [he]; simp
    rw [if_neg (by simpa using this)]
    rw [List.append_nil] at he
    rw [List.map_nil, List.append_nil, ← he]
    exact hz
  | x :: suf, pre, he, z, hz => by
    refine go_plan_Uses_1 _ _ _ _ _ _ _ _ _ ?_
    unfold B_plan_Uses_1
    have h1 := pre_in he
    have hr : rdx .decl ds (pre.length : Int) = x := by rw [he]; exact rdx_mid .decl pre x suf
    have hs : IntKind.wrap .i64 ((pre.length : Int) + 1) = ((pre ++ [x]).length : Int) := idx_step pre x suf (by rw [← he]; unfold big; omega)
    have hms : i.ms.length ≤ big := by have := hi.ms; unfold big; omega
    have hlx : x.labels.length ≤ big := hls x (by rw [he]; simp)
    have ih := Uses_one n m i hi f hf suf (pre ++ [x]) (by rw [he]; simp) z hz
    rw [List.map_append, List.map_cons, List.map_nil, List.append_assoc, List.cons_append, List.nil_append] at ih
    rw [if_pos (by simpa using h1.2), if_pos (by simpa using h1), hr, hs]
    by_cases hk : i.kind = 1
    · rw [if_pos (by simpa using hk), str_same]
      cases hn : same i.name x.name with
      | true =>
        rw [if_pos rfl, labels_Match_ok hlx hms, Option.bind_some]
        cases hm : matchC x.labels i.ms with
        | true =>
          have hsel : selB x i = true := by unfold selB; simp [hk, hn, hm]
          have hl : ((pre.map fun d => (((if selB d i then f d + 1 else f d) : Nat) : Int)) ++ ((x :: suf).map fun d => ((f d : Nat) : Int))).length = ds.length := by rw [he]; simp
          have hget : rdx (.i .i64) ((pre.map fun d => (((if selB d i then f d + 1 else f d) : Nat) : Int)) ++ ((x :: suf).map fun d => ((f d : Nat) : Int))) (pre.length : Int) = ((f x : Nat) : Int) := by
            rw [List.map_cons]
            exact rdx_mid2 (.i .i64) (pre' := pre) (by simp) _ _
          have hfx := hf x
          have hw : IntKind.wrap .i64 (((f x : Nat) : Int) + 1) = ((f x + 1 : Nat) : Int) := by rw [wrap64 (by omega) (by omega)]; omega
          rw [if_pos rfl, hget, hw, hl]
          have hnat : Int.toNat (pre.length : Int) < ds.length := by omega
          simp only [decide_eq_true h1, decide_eq_true hnat, if_true]
          rw [if_pos hsel] at ih
          have hz0 : pre.length - (pre.map fun d => (((if selB d i then f d + 1 else f d) : Nat) : Int)).length = 0 := by simp
          rw [Int.toNat_natCast, List.map_cons, List.set_append_right _ _ (by simp), hz0, List.set_cons_zero]
          exact ih
        | false =>
          have hsel : ¬ selB x i = true := by unfold selB; simp [hk, hn, hm]
          rw [if_neg (by simp)]
          rw [if_neg hsel] at ih
          exact ih
      | false =>
        have hsel : ¬ selB x i = true := by unfold selB; simp [hk, hn]
        rw [if_neg (by simp)]
        rw [if_neg hsel] at ih
        exact ih
    · have hsel : ¬ selB x i = true := by unfold selB; simp [hk]
      rw [if_neg (by simpa using hk)]
      rw [if_neg hsel] at ih
      exact ih
include hp ht hd hls in
theorem Uses_all : ∀ (suf pre : List DIns), p = pre ++ suf → P_plan_Uses_0 L0 ((ds, (p, ((p.length : Int), (pre.length : Int)))), ds.map fun d => ((pre.countP (selB d) : Nat) : Int)) = some (usesC p ds)
  | [], pre, he => by
    refine go_plan_Uses_0 _ _ _ _ _ ?_
    unfold B_plan_Uses_0
    have : ¬ (pre.length : Int) < (p.length : Int) := by rw [he]; simp
    rw [if_neg (by simpa using this)]
    rw [List.append_nil] at he
    rw [he]; rfl
  | x :: suf, pre, he => by
    refine go_plan_Uses_0 _ _ _ _ _ ?_
    unfold B_plan_Uses_0
    have h1 := pre_in he
    have hr : rdx .ins p (pre.length : Int) = x := by rw [he]; exact rdx_mid .ins pre x suf
    have hs : IntKind.wrap .i64 ((pre.length : Int) + 1) = ((pre ++ [x]).length : Int) := idx_step pre x suf (by rw [← he]; unfold big; omega)
    rw [if_pos (by simpa using h1.2), if_pos (by simpa using h1)]
    simp only [hr]
    refine Uses_one hd hls (p.length : Int) (pre.length : Int) x (ht x (by rw [he]; simp)) (fun d => pre.countP (selB d)) (fun d => ?_) ds [] rfl _ ?_
    · have := List.countP_le_length (p := selB d) (l := pre)
      have h2 : pre.length < p.length := by omega
      omega
    · rw [hs]
      have ih := Uses_all suf (pre ++ [x]) (by rw [he]; simp)
      have hcount : (ds.map fun d => (((if selB d x then pre.countP (selB d) + 1 else pre.countP (selB d)) : Nat) : Int)) = ds.map fun d => (((pre ++ [x]).countP (selB d) : Nat) : Int) := by
        refine List.map_congr_left fun d _ => ?_
        rw [List.countP_append, List.countP_singleton]
        split <;> rfl
      rw [hcount]
      exact ih
theorem zeros_eq : List.replicate ds.length (0 : Int) = ds.map fun d => ((([] : List DIns).countP (selB d) : Nat) : Int) := by
  simp [List.map_const']
end
theorem plan_Uses_ok {p : List DIns} (hw : WfP p) {ds : List DDecl} (hd : ds.length ≤ 1000) (hls : ∀ d ∈ ds, d.labels.length ≤ big) : S_plan_Uses L0 (p, ds) = some (if (treeC p).2 = 0 then usesC p ds else []) := by
  refine go_plan_Uses _ _ ?_
  unfold B_plan_Uses
  rw [plan_Check_ok hw, Option.bind_some]
  by_cases h : (treeC p).2 = 0
  · obtain ⟨e, h1, h2, h3, h4⟩ := checked h
    have ht := checked_tame h hw
    rw [if_neg (by simp [h]), if_pos h, if_pos (decide_eq_true ⟨rfl, by omega, by omega⟩), Int.toNat_natCast, zeros_eq]
    exact Uses_all h3 ht hd hls p [] rfl
  · rw [if_pos (by simpa using h), if_neg h]
section
variable {p : List DIns} (hp : p.length ≤ 200) (ht : ∀ i ∈ p, Tame i) {ds : List DDecl} (hd : ds.length ≤ 1000) (hls : ∀ d ∈ ds, d.labels.length ≤ big)
include hp ht in
theorem Ref_one (m : Int) (hm : 0 ≤ m ∧ m < (ds.length : Int)) (x : DDecl) (hx : rdx .decl ds m = x) (hlx : x.labels.length ≤ big) (out : List Int) (ho : out.length ≤ 1000) : ∀ (suf pre : List DIns), p = pre ++ suf → ∀ z,
    P_ref23_Uses_0 L0 ((p, (ds, IntKind.wrap .i64 (m + 1))), out ++ [((p.countP (selB x) : Nat) : Int)]) = some z →
    P_ref23_Uses_1 L0 ((p, (ds, (m, (((pre.countP (selB x) : Nat) : Int), (pre.length : Int))))), out) = some z
  | [], pre, he, z, hz => by
    refine go_ref23_Uses_1 _ _ _ _ _ _ ?_
    unfold B_ref23_Uses_1
    have : ¬ (pre.length : Int) < (p.length : Int) := by rw [he]; simp
    rw [if_neg (by simpa using this), if_pos (by simp only [Bool.true_and, decide_eq_true_eq, List.length_cons, List.length_nil]; omega)]
    rw [List.append_nil] at he
    rw [← he]; exact hz
  | i :: suf, pre, he, z, hz => by
    refine go_ref23_Uses_1 _ _ _ _ _ _ ?_
    unfold B_ref23_Uses_1
    have h1 := pre_in he
    have hr : rdx .ins p (pre.length : Int) = i := by rw [he]; exact rdx_mid .ins pre i suf
    have hs : IntKind.wrap .i64 ((pre.length : Int) + 1) = ((pre ++ [i]).length : Int) := idx_step pre i suf (by rw [← he]; unfold big; omega)
    have hi := ht i (by rw [he]; simp)
    have hms : i.ms.length ≤ big := by have := hi.ms; unfold big; omega
    have ih := Ref_one m hm x hx hlx out ho suf (pre ++ [i]) (by rw [he]; simp) z hz
    have hnode : S_ref23_node L0 i = some i := go_ref23_node _ rfl
    have hc := List.countP_le_length (p := selB x) (l := pre)
    have hw : IntKind.wrap .i64 (((pre.countP (selB x) : Nat) : Int) + 1) = ((pre.countP (selB x) + 1 : Nat) : Int) := by rw [wrap64 (by omega) (by omega)]; omega
    rw [List.countP_append, List.countP_singleton] at ih
    rw [if_pos (by simpa using h1.2), if_pos (by simpa using h1), hr, hs, hw]
    by_cases hk : i.kind = 1
    · have hsl : ∀ e : DExpr, e.name = i.name → e.ms = i.ms → S_ref08_Selects L0 (e, x) = some (selB x i) := by
        intro e e1 e2
        refine go_ref08_Selects _ _ ?_
        unfold B_ref08_Selects selB
        rw [str_same, e1, e2, ref05_Match_ok hlx hms, same_comm]
        cases same i.name x.name <;> simp [hk]
      rw [if_pos (by simpa using hk), if_pos (by simpa using h1), hnode]
      simp only [Option.bind_some]
      rw [if_pos (by simpa using hm), hx, hsl _ rfl rfl, Option.bind_some]
      by_cases hsel : selB x i = true
      · rw [if_pos hsel]; rw [if_pos hsel] at ih; exact ih
      · rw [if_neg hsel]; rw [if_neg hsel] at ih; exact ih
    · have hsel : ¬ selB x i = true := by unfold selB; simp [hk]
      rw [if_neg (by simpa using hk)]
      rw [if_neg hsel] at ih
      exact ih
include hp ht hd hls in
theorem Ref_all : ∀ (suf pre : List DDecl), ds = pre ++ suf → P_ref23_Uses_0 L0 ((p, (ds, (pre.length : Int))), usesC p pre) = some (usesC p ds)
  | [], pre, he => by
    refine go_ref23_Uses_0 _ _ _ _ ?_
    unfold B_ref23_Uses_0
    have : ¬ (pre.length : Int) < (ds.length : Int) := by rw [he]; simp
    rw [if_neg (by simpa using this)]
    rw [List.append_nil] at he
    rw [he]
  | x :: suf, pre, he => by
    refine go_ref23_Uses_0 _ _ _ _ ?_
    unfold B_ref23_Uses_0
    have h1 := pre_in he
    have hr : rdx .decl ds (pre.length : Int) = x := by rw [he]; exact rdx_mid .decl pre x suf
    have hs : IntKind.wrap .i64 ((pre.length : Int) + 1) = ((pre ++ [x]).length : Int) := idx_step pre x suf (by rw [← he]; unfold big; omega)
    rw [if_pos (by simpa using h1.2)]
    refine Ref_one hp ht (pre.length : Int) h1 x hr (hls x (by rw [he]; simp)) (usesC p pre) (by unfold usesC; rw [List.length_map]; omega) p [] rfl _ ?_
    rw [hs]
    have ih := Ref_all suf (pre ++ [x]) (by rw [he]; simp)
    have : usesC p (pre ++ [x]) = usesC p pre ++ [((p.countP (selB x) : Nat) : Int)] := by unfold usesC; simp
    rw [← this]; exact ih
end
theorem ref23_Uses_ok {p : List DIns} (hw : WfP p) {ds : List DDecl} (hd : ds.length ≤ 1000) (hls : ∀ d ∈ ds, d.labels.length ≤ big) : S_ref23_Uses L0 (p, ds) = some (if (treeC p).2 = 0 then usesC p ds else []) := by
  refine go_ref23_Uses _ _ ?_
  unfold B_ref23_Uses
  rw [ref23_Check_ok hw, Option.bind_some]
  by_cases h : (treeC p).2 = 0
  · obtain ⟨e, h1, h2, h3, h4⟩ := checked h
    have ht := checked_tame h hw
    rw [if_neg (by simp [h]), if_pos h]
    exact Ref_all h3 ht hd hls ds [] rfl
  · rw [if_pos (by simpa using h), if_neg h]
theorem SameInts_self {l : List Int} (hl : l.length ≤ big) : S_ref01_SameInts L0 (l, l) = some true := by
  have hloop : ∀ (suf pre : List Int), l = pre ++ suf → P_ref01_SameInts_0 L0 (l, (l, (pre.length : Int))) = some true := by
    intro suf
    induction suf with
    | nil =>
      intro pre he
      refine go_ref01_SameInts_0 _ _ _ ?_
      unfold B_ref01_SameInts_0
      have : ¬ (pre.length : Int) < (l.length : Int) := by rw [he]; simp
      rw [if_neg (by simpa using this)]
    | cons x suf ih =>
      intro pre he
      refine go_ref01_SameInts_0 _ _ _ ?_
      unfold B_ref01_SameInts_0
      have h1 := pre_in he
      have hs : IntKind.wrap .i64 ((pre.length : Int) + 1) = ((pre ++ [x]).length : Int) := idx_step pre x suf (by rw [← he]; exact hl)
      rw [if_pos (by simpa using h1.2), if_pos (by simpa using h1), if_pos (by simpa using h1), if_neg (by simp), hs]
      exact ih (pre ++ [x]) (by rw [he]; simp)
  refine go_ref01_SameInts _ _ ?_
  unfold B_ref01_SameInts
  rw [if_neg (by simp)]
  exact hloop l [] rfl
end Go.AM
/-
  Declarations made from numbers; PlanUses: the plain law.
-/
namespace Go.AM
open Go
set_option maxRecDepth 100000
def setNames : List ByteArray := [⟨#[97]⟩, ⟨#[97, 98]⟩, ⟨#[98]⟩, ⟨#[106, 111, 98]⟩, ⟨#[120, 95, 49]⟩, ⟨#[122, 111, 110, 101]⟩]
def setValues : List ByteArray := [⟨#[97]⟩, ⟨#[97, 98]⟩, ⟨#[98]⟩, ⟨#[120, 49]⟩, ⟨#[126, 33]⟩, ⟨#[48]⟩]
theorem Set_loop {l : List Int} (hl : I64s l) : ∀ (k i : Nat) (w : Int) (ls : List DLabel), i + k = 6 → ls.length ≤ i → 0 ≤ w ∧ w < 64 → ∃ r, P_ref05_Set_0 L0 ((l, (setNames, (w, (i : Int)))), (setValues, ls)) = some r ∧ r.length ≤ 6 := by
  intro k
  induction k with
  | zero =>
    intro i w ls hi hls hw
    refine ⟨ls, ?_, by omega⟩
    refine go_ref05_Set_0 _ _ _ _ _ _ ?_
    unfold B_ref05_Set_0
    have : ¬ (i : Int) < ((setNames.length : Nat) : Int) := by have : setNames.length = 6 := rfl; omega
    rw [if_neg (by simpa using this)]
  | succ k ih =>
    intro i w ls hi hls hw
    have ln : ((setNames.length : Nat) : Int) = 6 := rfl
    have lv : ((setValues.length : Nat) : Int) = 6 := rfl
    have lv' : setValues.length = 6 := rfl
    have hi1 : IntKind.wrap .i64 ((i : Int) + 1) = ((i + 1 : Nat) : Int) := by rw [wrap64 (by omega) (by omega)]; omega
    have ht : Int.tdiv w 2 = w / 2 := Int.tdiv_eq_ediv_of_nonneg hw.1
    have hw2 : IntKind.wrap .i64 (Int.tdiv w 2) = w / 2 := by rw [ht, wrap64 (by omega) (by omega)]
    have r6 := pick_range (l := l) (i := i + 1) (m := 6) (by omega)
    by_cases hodd : Int.tmod w 2 = 1
    · obtain ⟨r, h1, h2⟩ := ih (i + 1) (w / 2) (ls ++ [⟨rdx .str setNames (i : Int), rdx .str setValues (pickC l (i + 1) 6)⟩]) (by omega) (by simp; omega) (by omega)
      refine ⟨r, ?_, h2⟩
      refine go_ref05_Set_0 _ _ _ _ _ _ ?_
      unfold B_ref05_Set_0
      rw [if_pos (decide_eq_true (by omega)), if_pos (by simpa using hodd), if_pos (decide_eq_true (by omega)), hi1, Pick_ok hl _ (by omega), Option.bind_some,
        if_pos (decide_eq_true (by omega)), if_pos (decide_eq_true (by omega)), if_pos (by simp only [Bool.true_and, decide_eq_true_eq, List.length_cons, List.length_nil]; omega), hw2]
      exact h1
    · obtain ⟨r, h1, h2⟩ := ih (i + 1) (w / 2) ls (by omega) (by omega) (by omega)
      refine ⟨r, ?_, h2⟩
      refine go_ref05_Set_0 _ _ _ _ _ _ ?_
      unfold B_ref05_Set_0
      rw [if_pos (decide_eq_true (by omega)), if_neg (by simpa using hodd), hi1, hw2]
      exact h1
theorem Set_ok {l : List Int} (hl : I64s l) : ∃ r, S_ref05_Set L0 l = some r ∧ r.length ≤ 6 := by
  have r0 := pick_range (l := l) (i := 0) (m := 64) (by omega)
  obtain ⟨r, h1, h2⟩ := Set_loop hl 6 0 (pickC l 0 64) [] rfl (by simp) r0
  refine ⟨r, ?_, h2⟩
  refine go_ref05_Set _ ?_
  unfold B_ref05_Set
  have hp : S_ref01_Pick L0 (l, ((0 : Int), (64 : Int))) = some (pickC l 0 64) := Pick_ok hl 0 (m := 64) (by omega)
  have hn : S_ref05_Names L0 () = some setNames := go_ref05_Names rfl
  have hv : S_ref05_values L0 () = some setValues := go_ref05_values rfl
  rw [hn, hv]
  simp only [Option.bind_some]
  rw [hp]
  exact h1
def dNames : List ByteArray := [⟨#[99, 112, 117]⟩, ⟨#[109, 101, 109]⟩, ⟨#[97]⟩]
def dUnits : List DUnit := [⟨0, 0, 1⟩, ⟨0, 1, 0⟩, ⟨1, 0, 0⟩, ⟨0, 0, 0⟩, ⟨-2, 0, 3⟩, ⟨0, -3, -3⟩, ⟨4, 0, 0⟩, ⟨0, 0, -4⟩]
theorem Decls_loop {l : List Int} (hl : I64s l) : ∀ (k i : Nat) (ds : List DDecl), (i + k : Int) = pickC l 0 6 → ds.length ≤ i → (∀ d ∈ ds, d.labels.length ≤ 6) → ∃ r, P_ref08_Decls_0 L0 ((l, (i : Int)), (dNames, (dUnits, ds))) = some r ∧ r.length ≤ 6 ∧ ∀ d ∈ r, d.labels.length ≤ 6 := by
  intro k
  have r0 := pick_range (l := l) (i := 0) (m := 6) (by omega)
  have hp : S_ref01_Pick L0 (l, ((0 : Int), (6 : Int))) = some (pickC l 0 6) := Pick_ok hl 0 (m := 6) (by omega)
  induction k with
  | zero =>
    intro i ds hi hds hls
    refine ⟨ds, ?_, by omega, hls⟩
    refine go_ref08_Decls_0 _ _ _ _ _ ?_
    unfold B_ref08_Decls_0
    rw [hp]
    simp only [Option.bind_some]
    rw [if_neg (by simp only [decide_eq_true_eq]; omega)]
  | succ k ih =>
    intro i ds hi hds hls
    have w0 : IntKind.wrap .i64 (4 * (i : Int)) = 4 * (i : Int) := wrap64 (by omega) (by omega)
    have w1 : IntKind.wrap .i64 (4 * (i : Int) + 1) = ((4 * i + 1 : Nat) : Int) := by rw [wrap64 (by omega) (by omega)]; omega
    have w2 : IntKind.wrap .i64 (4 * (i : Int) + 2) = ((4 * i + 2 : Nat) : Int) := by rw [wrap64 (by omega) (by omega)]; omega
    have w3 : IntKind.wrap .i64 (4 * (i : Int) + 3) = ((4 * i + 3 : Nat) : Int) := by rw [wrap64 (by omega) (by omega)]; omega
    have w4 : IntKind.wrap .i64 ((i : Int) + 1) = ((i + 1 : Nat) : Int) := by rw [wrap64 (by omega) (by omega)]; omega
    have r1 := pick_range (l := l) (i := 4 * i + 1) (m := 3) (by omega)
    have r2 := pick_range (l := l) (i := 4 * i + 2) (m := 40) (by omega)
    have r3 := pick_range (l := l) (i := 4 * i + 3) (m := 100000) (by omega)
    have ln : ((dNames.length : Nat) : Int) = 3 := rfl
    have lu : ((dUnits.length : Nat) : Int) = 8 := rfl
    have ln' : dNames.length = 3 := rfl
    have lu' : dUnits.length = 8 := rfl
    have hd64 : IntKind.wrap .i64 (Int.tdiv (pickC l (4 * i + 3) 100000) 64) = pickC l (4 * i + 3) 100000 / 64 := by
      rw [Int.tdiv_eq_ediv_of_nonneg r3.1, wrap64 (by omega) (by omega)]
    obtain ⟨ls, hs1, hs2⟩ := Set_ok (l := [pickC l (4 * i + 3) 100000, pickC l (4 * i + 3) 100000 / 64, pickC l (4 * i + 3) 100000 / 64, pickC l (4 * i + 3) 100000 / 64, pickC l (4 * i + 3) 100000 / 64, pickC l (4 * i + 3) 100000 / 64, pickC l (4 * i + 3) 100000 / 64]) (by
      intro n hn
      simp only [List.mem_cons, List.not_mem_nil, or_false] at hn
      unfold I64
      omega)
    have hcont : ∀ u : DUnit, ∃ r, P_ref08_Decls_0 L0 ((l, ((i + 1 : Nat) : Int)), (dNames, (dUnits, ds ++ [⟨rdx .str dNames (pickC l (4 * i + 1) 3), ls, u, 0, 0, 0, 0, 0, 0, 0⟩]))) = some r ∧ r.length ≤ 6 ∧ ∀ d ∈ r, d.labels.length ≤ 6 := by
      intro u
      refine ih (i + 1) _ (by omega) (by simp; omega) ?_
      intro d hd
      rcases List.mem_append.1 hd with h | h
      · exact hls d h
      · rw [List.mem_singleton.1 h]; exact hs2
    by_cases hc : pickC l (4 * i + 2) 40 ≥ 8
    · obtain ⟨r, h1, h2⟩ := hcont (rdx .unit dUnits (pickC l (4 * i + 1) 3))
      refine ⟨r, ?_, h2⟩
      refine go_ref08_Decls_0 _ _ _ _ _ ?_
      unfold B_ref08_Decls_0
      rw [hp]
      simp only [Option.bind_some]
      rw [if_pos (decide_eq_true (by omega)), w0, w1, w2, w3, w4, Pick_ok hl _ (by omega), Pick_ok hl _ (by omega), Pick_ok hl _ (by omega)]
      simp only [Option.bind_some, hd64]
      rw [if_pos (decide_eq_true (by omega)), hs1, Option.bind_some, if_pos (decide_eq_true (by omega)), if_pos (decide_eq_true (by omega)), if_pos (decide_eq_true (by omega)), if_pos (decide_eq_true (by omega)),
        if_pos (by simp only [Bool.true_and, decide_eq_true_eq, List.length_cons, List.length_nil]; omega)]
      exact h1
    · obtain ⟨r, h1, h2⟩ := hcont (rdx .unit dUnits (pickC l (4 * i + 2) 40))
      refine ⟨r, ?_, h2⟩
      refine go_ref08_Decls_0 _ _ _ _ _ ?_
      unfold B_ref08_Decls_0
      rw [hp]
      simp only [Option.bind_some]
      rw [if_pos (decide_eq_true (by omega)), w0, w1, w2, w3, w4, Pick_ok hl _ (by omega), Pick_ok hl _ (by omega), Pick_ok hl _ (by omega)]
      simp only [Option.bind_some, hd64]
      rw [if_neg (by simp only [decide_eq_true_eq]; omega), hs1, Option.bind_some, if_pos (decide_eq_true (by omega)), if_pos (decide_eq_true (by omega)), if_pos (decide_eq_true (by omega)), if_pos (decide_eq_true (by omega)),
        if_pos (by simp only [Bool.true_and, decide_eq_true_eq, List.length_cons, List.length_nil]; omega)]
      exact h1
theorem Decls_ok {l : List Int} (hl : I64s l) : ∃ r, S_ref08_Decls L0 l = some r ∧ r.length ≤ 6 ∧ ∀ d ∈ r, d.labels.length ≤ 6 := by
  have r0 := pick_range (l := l) (i := 0) (m := 6) (by omega)
  obtain ⟨k, hk⟩ := Int.eq_ofNat_of_zero_le r0.1
  obtain ⟨r, h1, h2⟩ := Decls_loop hl k 0 [] (by omega) (by simp) (by intro d hd; cases hd)
  refine ⟨r, ?_, h2⟩
  refine go_ref08_Decls _ ?_
  unfold B_ref08_Decls
  exact h1
theorem Query_ok {l : List Int} (hl : I64s l) : ∃ e, S_ref08_Query L0 l = some e ∧ Made e := by
  have hn3 : ∀ s ∈ dNames, nameB s = true ∧ hasS wGroups s = false := good_names (by decide +kernel)
  have hn1 : ∀ s ∈ [(⟨#[99, 112, 117]⟩ : ByteArray)], nameB s = true ∧ hasS wGroups s = false := good_names (by decide +kernel)
  obtain ⟨e3, a1, a2⟩ := Make_ok (l := l) (names := dNames) (most := 5) ⟨hl, hn3, by decide, by decide, by omega, by omega⟩
  have hbody : ∀ z, B_ref08_Query L0 l = some z → S_ref08_Query L0 l = some z := fun z h => go_ref08_Query _ h
  unfold B_ref08_Query at hbody
  have a1' : S_ref07_Make L0 (l, (((⟨#[99, 112, 117]⟩ : ByteArray) :: ((⟨#[109, 101, 109]⟩ : ByteArray) :: ((⟨#[97]⟩ : ByteArray) :: []))), (5 : Int))) = some e3 := a1
  by_cases h0 : (l.length : Int) > 0
  · rw [if_pos (decide_eq_true h0), if_pos (decide_eq_true (by omega))] at hbody
    by_cases hev : Int.tmod (List.getD l 0 (dflt (.i .i64))) 2 = 0
    · rw [if_pos (by simpa using hev), if_pos (decide_eq_true (by omega))] at hbody
      obtain ⟨e1, b1, b2⟩ := Make_ok (l := List.take (Int.toNat ((l.length : Int) - 1)) (List.drop 1 l)) (names := [(⟨#[99, 112, 117]⟩ : ByteArray)]) (most := 5) ⟨fun n hn => hl n (List.mem_of_mem_drop (List.mem_of_mem_take hn)), hn1, by decide, by decide, by omega, by omega⟩
      exact ⟨e1, hbody _ ((congrArg (Option.bind · _) b1).trans (by simp)), b2⟩
    · rw [if_neg (by simpa using hev)] at hbody
      exact ⟨e3, hbody _ ((congrArg (Option.bind · _) a1').trans (by simp)), a2⟩
  · rw [if_neg (by simpa using h0)] at hbody
    exact ⟨e3, hbody _ ((congrArg (Option.bind · _) a1').trans (by simp)), a2⟩
theorem PlanUses_pure {l1 l2 : List Int} {at_ how v : Int} (hl1 : I64s l1) (hl2 : I64s l2) (h1 : I64 at_) (h2 : I64 how) (h3 : I64 v) : S_law23_PlanUses L0 (l1, (l2, (at_, (how, v)))) = some true := by
  refine go_law23_PlanUses _ _ _ _ _ ?_
  unfold B_law23_PlanUses
  obtain ⟨ds, d1, d2, d3⟩ := Decls_ok hl1
  obtain ⟨e, e1, me⟩ := Query_ok hl2
  obtain ⟨_, c2, wA, lA⟩ := compile_made me
  obtain ⟨x, x1, x2, x3⟩ := Changed_ok wA (by omega) h1 h2 h3
  have hls : ∀ d ∈ ds, d.labels.length ≤ big := fun d hd => by have := d3 d hd; unfold big; omega
  have hlen : ∀ p : List DIns, (if (treeC p).2 = 0 then usesC p ds else []).length ≤ big := by
    intro p
    split
    · unfold usesC; rw [List.length_map]; unfold big; omega
    · simp
  rw [d1, Option.bind_some, e1]
  simp only [Option.bind_some, eE_eq, c2]
  rw [x1, Option.bind_some, plan_Uses_ok wA (by omega) hls, ref23_Uses_ok wA (by omega) hls]
  simp only [Option.bind_some]
  rw [SameInts_self (hlen _), plan_Uses_ok x2 (by omega) hls, ref23_Uses_ok x2 (by omega) hls]
  simp only [Option.bind_some, if_true]
  rw [SameInts_self (hlen _), plan_Uses_ok wA (ds := []) (by simp) (by intro d hd; cases hd), Option.bind_some, if_pos rfl, Option.bind_some, lives_ok]
  rw [if_pos (by unfold usesC; simp)]
  rfl
end Go.AM
