/-
  The plain law: what the functions compute, part 0.
-/
import Derived.Test.YtcihhhkmekdbnaaGreatDoorMg
/-
  Plain lemmas: numbers in their range, elements of lists, strings as lists of bytes.
-/
namespace Go.AM
open Go
set_option maxRecDepth 100000
attribute [simp] eE_eq
theorem wrap64 {x : Int} (h1 : -9223372036854775808 ≤ x) (h2 : x ≤ 9223372036854775807) : IntKind.wrap .i64 x = x := by
  simp only [IntKind.wrap, IntKind.bits, IntKind.signed]
  simp
  omega
theorem wrapu64 {x : Int} (h1 : 0 ≤ x) (h2 : x ≤ 18446744073709551615) : IntKind.wrap .u64 x = x := by
  simp only [IntKind.wrap, IntKind.bits, IntKind.signed]
  simp
  omega
theorem wrapu8 {x : Int} : IntKind.wrap .u8 x = x % 256 := by
  simp [IntKind.wrap, IntKind.bits, IntKind.signed]
abbrev big : Nat := 140737488355328
theorem rdx_mid (t : TC) (pre : List (Den t)) (k : Den t) (suf : List (Den t)) : rdx t (pre ++ k :: suf) (pre.length : Int) = k := by
  simp [rdx]
theorem idx_lt {A : Type} (pre : List A) (k : A) (suf : List A) : (pre.length : Int) < ((pre ++ k :: suf).length : Int) := by
  simp; omega
theorem idx_in {A : Type} (pre : List A) (k : A) (suf : List A) : (0 : Int) ≤ (pre.length : Int) ∧ (pre.length : Int) < ((pre ++ k :: suf).length : Int) := ⟨by omega, idx_lt pre k suf⟩
theorem idx_step {A : Type} (pre : List A) (k : A) (suf : List A) (h : (pre ++ k :: suf).length ≤ big) : IntKind.wrap .i64 ((pre.length : Int) + 1) = ((pre ++ [k]).length : Int) := by
  simp only [List.length_append, List.length_cons] at h
  rw [wrap64 (by omega) (by unfold big at h; omega)]
  simp
theorem str_beq (a b : ByteArray) : (a.toList == b.toList) = decide (a = b) := by
  rw [ByteArray.toList_eq, ByteArray.toList_eq]
  by_cases h : a = b
  · subst h; simp
  · have : ¬ a.data = b.data := fun e => h (ByteArray.ext e)
    simp [h, this]
theorem str_nil (a : ByteArray) : (a = zeroS) ↔ a.data.toList = [] := by
  constructor
  · rintro rfl; rfl
  · intro h; exact ByteArray.ext (Array.ext' h)
theorem str_size (a : ByteArray) : a.size = a.data.toList.length := Array.length_toList.symm

mutual
/-- How many nodes a tree has. -/
def nodes : DExpr → Nat
  | ⟨_, _, _, _, _, _, _, _, _, kids⟩ => 1 + nodesL kids
def nodesL : List DExpr → Nat
  | [] => 0
  | k :: r => nodes k + nodesL r
end
mutual
/-- How deep a tree is. -/
def depth : DExpr → Nat
  | ⟨_, _, _, _, _, _, _, _, _, kids⟩ => depthL kids + 1
def depthL : List DExpr → Nat
  | [] => 0
  | k :: r => max (depth k) (depthL r)
end
theorem nodes_eq (e : DExpr) : nodes e = 1 + nodesL e.kids := by cases e; rw [nodes]
theorem depth_eq (e : DExpr) : depth e = depthL e.kids + 1 := by cases e; rw [depth]
theorem nodes_pos (e : DExpr) : 0 < nodes e := by rw [nodes_eq]; omega
theorem nodes_mem {k : DExpr} : ∀ {l : List DExpr}, k ∈ l → nodes k ≤ nodesL l
  | a :: l, h => by
    rw [nodesL]
    rcases List.mem_cons.1 h with rfl | h
    · omega
    · have := nodes_mem h; omega
theorem nodesL_append (a b : List DExpr) : nodesL (a ++ b) = nodesL a + nodesL b := by
  induction a with
  | nil => simp [nodesL]
  | cons k a ih => simp [nodesL, ih]; omega
theorem length_nodesL : ∀ l : List DExpr, l.length ≤ nodesL l
  | [] => by simp [nodesL]
  | k :: l => by
    have h1 := length_nodesL l
    have h2 := nodes_pos k
    simp only [List.length_cons, nodesL]
    omega
theorem depth_mem {k : DExpr} : ∀ {l : List DExpr}, k ∈ l → depth k ≤ depthL l
  | a :: l, h => by
    rw [depthL]
    rcases List.mem_cons.1 h with rfl | h
    · omega
    · have := depth_mem h; omega
theorem depth_le_nodes : ∀ n, ∀ e : DExpr, nodes e ≤ n → depth e ≤ nodes e := by
  intro n
  induction n with
  | zero => intro e h; have := nodes_pos e; omega
  | succ n ih =>
    intro e h
    rw [nodes_eq] at h
    rw [nodes_eq, depth_eq]
    suffices ∀ l : List DExpr, nodesL l ≤ n → depthL l ≤ nodesL l by have := this e.kids (by omega); omega
    intro l
    induction l with
    | nil => intro _; simp [depthL]
    | cons k l ihl =>
      intro hl
      rw [nodesL] at hl
      rw [nodesL, depthL]
      have := ih k (by omega)
      have := ihl (by omega)
      omega
/-- Trees that fit into memory: for the counts. -/
abbrev Few (e : DExpr) : Prop := nodes e ≤ big
theorem Few.kids {e : DExpr} (h : Few e) : e.kids.length ≤ big := by
  have := length_nodesL e.kids
  rw [Few, nodes_eq] at h
  omega
theorem Few.mem {e k : DExpr} (h : Few e) (hk : k ∈ e.kids) : Few k := by
  have := nodes_mem hk
  rw [Few, nodes_eq] at h
  unfold Few
  omega

/-- The counts of the program. -/
theorem parser_Nodes_loop (xs : List DExpr) (hx : xs.length ≤ big) (h : ∀ k ∈ xs, S_parser_Nodes L0 k = some (nodes k : Int)) : ∀ (suf pre : List DExpr) (acc : Int), xs = pre ++ suf → 0 ≤ acc → acc + nodesL suf ≤ 281474976710656 →
    P_parser_Nodes_0 L0 (acc, (xs, ((xs.length : Int), (pre.length : Int)))) = some (acc + nodesL suf)
  | [], pre, acc, he, h0, hb => by
    refine go_parser_Nodes_0 _ _ _ _ ?_
    unfold B_parser_Nodes_0
    simp [he, nodesL]
  | k :: suf, pre, acc, he, h0, hb => by
    refine go_parser_Nodes_0 _ _ _ _ ?_
    unfold B_parser_Nodes_0
    subst he
    rw [if_pos (decide_eq_true (idx_lt pre k suf)), if_pos (decide_eq_true (idx_in pre k suf)), rdx_mid .expr, eE_eq, h k (by simp)]
    rw [nodesL] at hb
    simp only [Option.bind_some]
    rw [idx_step pre k suf hx, wrap64 (by omega) (by omega)]
    have := parser_Nodes_loop (pre ++ k :: suf) hx h suf (pre ++ [k]) (acc + nodes k) (by simp) (by omega) (by omega)
    rw [this, nodesL]
    congr 1
    omega
theorem parser_Nodes_ok : ∀ n, ∀ e : DExpr, nodes e ≤ n → Few e → S_parser_Nodes L0 e = some (nodes e : Int) := by
  intro n
  induction n with
  | zero => intro e h; have := nodes_pos e; omega
  | succ n ih =>
    intro e h hf
    refine go_parser_Nodes _ ?_
    unfold B_parser_Nodes
    have hn := nodes_eq e
    have hf' : nodes e ≤ big := hf
    have := parser_Nodes_loop e.kids hf.kids (fun k hk => ih k (by have := nodes_mem hk; omega) (hf.mem hk)) e.kids [] 1 rfl (by omega) (by unfold big at hf'; omega)
    rw [hn]
    simpa using this
end Go.AM
/-
  Counts of trees, equality of trees: what the program's and the reference's functions compute.
-/
namespace Go.AM
open Go
set_option maxRecDepth 100000
theorem ref07_Nodes_loop (e : DExpr) (hx : e.kids.length ≤ big) (h : ∀ k ∈ e.kids, S_ref07_Nodes L0 k = some (nodes k : Int)) : ∀ (suf pre : List DExpr) (acc : Int), e.kids = pre ++ suf → 0 ≤ acc → acc + nodesL suf ≤ 281474976710656 →
    P_ref07_Nodes_0 L0 ((acc, (pre.length : Int)), e) = some (acc + nodesL suf)
  | [], pre, acc, he, h0, hb => by
    refine go_ref07_Nodes_0 _ _ _ ?_
    unfold B_ref07_Nodes_0
    simp [he, nodesL]
  | k :: suf, pre, acc, he, h0, hb => by
    refine go_ref07_Nodes_0 _ _ _ ?_
    unfold B_ref07_Nodes_0
    rw [nodesL] at hb
    have hk := h k (by rw [he]; simp)
    have hx' := hx
    rw [he] at hx'
    have := ref07_Nodes_loop e hx h suf (pre ++ [k]) (acc + nodes k) (by simp [he]) (by omega) (by omega)
    simp only [eE_eq, he]
    rw [if_pos (decide_eq_true (idx_lt pre k suf)), if_pos (decide_eq_true (idx_in pre k suf)), rdx_mid .expr, hk]
    simp only [Option.bind_some]
    rw [idx_step pre k suf hx', wrap64 (by omega) (by omega), this, nodesL]
    congr 1
    omega
theorem ref07_Nodes_ok : ∀ n, ∀ e : DExpr, nodes e ≤ n → Few e → S_ref07_Nodes L0 e = some (nodes e : Int) := by
  intro n
  induction n with
  | zero => intro e h; have := nodes_pos e; omega
  | succ n ih =>
    intro e h hf
    refine go_ref07_Nodes _ ?_
    unfold B_ref07_Nodes
    have hn := nodes_eq e
    have hf' : nodes e ≤ big := hf
    have := ref07_Nodes_loop e hf.kids (fun k hk => ih k (by have := nodes_mem hk; omega) (hf.mem hk)) e.kids [] 1 rfl (by omega) (by unfold big at hf'; omega)
    rw [hn]
    simpa using this
theorem max_ite (a b : Nat) : (if (b : Int) > (a : Int) then (b : Int) else (a : Int)) = ((max b a : Nat) : Int) := by
  split <;> omega
theorem parser_Depth_loop (xs : List DExpr) (hx : xs.length ≤ big) (h : ∀ k ∈ xs, S_parser_Depth L0 k = some (depth k : Int)) : ∀ (suf pre : List DExpr) (acc : Nat), xs = pre ++ suf → max acc (depthL suf) ≤ 281474976710656 →
    P_parser_Depth_0 L0 ((acc : Int), (xs, ((xs.length : Int), (pre.length : Int)))) = some ((max acc (depthL suf) + 1 : Nat) : Int)
  | [], pre, acc, he, hb => by
    refine go_parser_Depth_0 _ _ _ _ ?_
    unfold B_parser_Depth_0
    simp only [depthL] at hb
    simp [he, depthL]
    rw [wrap64 (by omega) (by omega)]
  | k :: suf, pre, acc, he, hb => by
    refine go_parser_Depth_0 _ _ _ _ ?_
    unfold B_parser_Depth_0
    subst he
    rw [if_pos (decide_eq_true (idx_lt pre k suf)), if_pos (decide_eq_true (idx_in pre k suf)), rdx_mid .expr, eE_eq, h k (by simp)]
    rw [depthL] at hb
    simp only [Option.bind_some]
    rw [idx_step pre k suf hx, max_ite]
    have := parser_Depth_loop (pre ++ k :: suf) hx h suf (pre ++ [k]) (max (depth k) acc) (by simp) (by omega)
    rw [this, depthL]
    congr 2
    omega
theorem parser_Depth_ok : ∀ n, ∀ e : DExpr, nodes e ≤ n → Few e → S_parser_Depth L0 e = some (depth e : Int) := by
  intro n
  induction n with
  | zero => intro e h; have := nodes_pos e; omega
  | succ n ih =>
    intro e h hf
    refine go_parser_Depth _ ?_
    unfold B_parser_Depth
    have hn := nodes_eq e
    have hf' : nodes e ≤ big := hf
    have hd := depth_le_nodes _ e (Nat.le_refl _)
    have hde := depth_eq e
    have := parser_Depth_loop e.kids hf.kids (fun k hk => ih k (by have := nodes_mem hk; omega) (hf.mem hk)) e.kids [] 0 rfl (by unfold big at hf'; omega)
    rw [depth_eq]
    simpa using this
theorem ref07_Depth_loop (e : DExpr) (hx : e.kids.length ≤ big) (h : ∀ k ∈ e.kids, S_ref07_Depth L0 k = some (depth k : Int)) : ∀ (suf pre : List DExpr) (acc : Nat), e.kids = pre ++ suf → max acc (depthL suf) ≤ 281474976710656 →
    P_ref07_Depth_0 L0 (((acc : Int), (pre.length : Int)), e) = some ((max acc (depthL suf) + 1 : Nat) : Int)
  | [], pre, acc, he, hb => by
    refine go_ref07_Depth_0 _ _ _ ?_
    unfold B_ref07_Depth_0
    simp only [depthL] at hb
    simp [he, depthL]
    rw [wrap64 (by omega) (by omega)]
  | k :: suf, pre, acc, he, hb => by
    refine go_ref07_Depth_0 _ _ _ ?_
    unfold B_ref07_Depth_0
    have hk := h k (by rw [he]; simp)
    have hx' := hx
    rw [he] at hx'
    rw [depthL] at hb
    have := ref07_Depth_loop e hx h suf (pre ++ [k]) (max (depth k) acc) (by simp [he]) (by omega)
    simp only [eE_eq, he]
    rw [if_pos (decide_eq_true (idx_lt pre k suf)), if_pos (decide_eq_true (idx_in pre k suf)), rdx_mid .expr, hk]
    simp only [Option.bind_some]
    rw [idx_step pre k suf hx', max_ite, this, depthL]
    congr 2
    omega
theorem ref07_Depth_ok : ∀ n, ∀ e : DExpr, nodes e ≤ n → Few e → S_ref07_Depth L0 e = some (depth e : Int) := by
  intro n
  induction n with
  | zero => intro e h; have := nodes_pos e; omega
  | succ n ih =>
    intro e h hf
    refine go_ref07_Depth _ ?_
    unfold B_ref07_Depth
    have hn := nodes_eq e
    have hf' : nodes e ≤ big := hf
    have hd := depth_le_nodes _ e (Nat.le_refl _)
    have hde := depth_eq e
    have := ref07_Depth_loop e hf.kids (fun k hk => ih k (by have := nodes_mem hk; omega) (hf.mem hk)) e.kids [] 0 rfl (by unfold big at hf'; omega)
    rw [depth_eq]
    simpa using this
def large (e : DExpr) : Bool := decide (depth e > 12) || decide (nodes e > 200)
theorem parser_tooLarge_ok {e : DExpr} (h : Few e) : S_parser_tooLarge L0 e = some (large e) := by
  refine go_parser_tooLarge _ ?_
  unfold B_parser_tooLarge
  simp only [eE_eq, parser_Depth_ok _ e (Nat.le_refl _) h, parser_Nodes_ok _ e (Nat.le_refl _) h, Option.bind_some, decide_eq_true_eq, large]
  split
  · have : depth e > 12 := by omega
    simp [this]
  · have : ¬ depth e > 12 := by omega
    simp only [this, decide_false, Bool.false_or, Option.some.injEq]
    congr 1
    exact propext ⟨fun h => by omega, fun h => by omega⟩

/-- Equality of lists of strings, of matchers. -/
theorem neq_len {A B : Type} (a : List A) (b : List B) : (((a.length : Nat) : Int) != ((b.length : Nat) : Int)) = decide (a.length ≠ b.length) := by
  by_cases h : a.length = b.length
  · simp [h]
  · have : ¬ ((a.length : Nat) : Int) = ((b.length : Nat) : Int) := by omega
    simp [h, this]
theorem idx_in2 {A B : Type} {pre' : List A} {pre : List B} (h : pre'.length = pre.length) (k : B) (suf : List B) : (0 : Int) ≤ (pre'.length : Int) ∧ (pre'.length : Int) < ((pre ++ k :: suf).length : Int) := by rw [h]; exact idx_in pre k suf
theorem rdx_mid2 (t : TC) {A : Type} {pre' : List A} {pre : List (Den t)} (h : pre'.length = pre.length) (k : Den t) (suf : List (Den t)) : rdx t (pre ++ k :: suf) (pre'.length : Int) = k := by rw [h]; exact rdx_mid t pre k suf
open Classical in
/-- Two things are the same. -/
noncomputable def same {A : Type} (a b : A) : Bool := decide (a = b)
theorem same_iff {A : Type} {a b : A} : same a b = true ↔ a = b := by simp [same]
theorem same_self {A : Type} (a : A) : same a a = true := same_iff.2 rfl
theorem same_false {A : Type} {a b : A} (h : ¬ a = b) : same a b = false := by simp [same, h]
theorem same_congr {A B : Type} {a b : A} {c d : B} (h : a = b ↔ c = d) : same a b = same c d := by
  rw [Bool.eq_iff_iff, same_iff, same_iff, h]
theorem str_same (a b : ByteArray) : (a.toList == b.toList) = same a b := by
  rw [str_beq, Bool.eq_iff_iff, same_iff, decide_eq_true_iff]
theorem int_same (a b : Int) : (a == b) = same a b := by
  rw [Bool.eq_iff_iff, same_iff, beq_iff_eq]
theorem matcher_eq (a b : DMatcher) : allB [a.name.toList == b.name.toList, a.kind == b.kind, a.value.toList == b.value.toList] = same a b := by
  cases a; cases b
  simp only [allB, str_same, int_same]
  rw [Bool.eq_iff_iff]
  simp [same_iff]
theorem frac_eq (a b : DFrac) : allB [a.num == b.num, a.den == b.den] = same a b := by
  cases a; cases b
  simp only [allB, int_same]
  rw [Bool.eq_iff_iff]
  simp [same_iff]
theorem same_cons {A : Type} {a b : A} {l r : List A} : same (a :: l) (b :: r) = (same a b && same l r) := by
  rw [Bool.eq_iff_iff]
  simp [same_iff]
theorem slices_Equal_Matcher_loop (xs ys : List DMatcher) (hx : xs.length ≤ big) : ∀ (suf suf' pre pre' : List DMatcher), xs = pre ++ suf → ys = pre' ++ suf' → pre.length = pre'.length → suf.length = suf'.length →
    P_slices_Equal_Matcher_0 L0 (xs, (ys, ((xs.length : Int), (pre.length : Int)))) = some (same suf suf')
  | [], [], pre, pre', he, he', hp, hs => by
    refine go_slices_Equal_Matcher_0 _ _ _ _ ?_
    unfold B_slices_Equal_Matcher_0
    simp [he, same_self]
  | [], _ :: _, pre, pre', he, he', hp, hs => by simp at hs
  | _ :: _, [], pre, pre', he, he', hp, hs => by simp at hs
  | k :: suf, k' :: suf', pre, pre', he, he', hp, hs => by
    refine go_slices_Equal_Matcher_0 _ _ _ _ ?_
    unfold B_slices_Equal_Matcher_0
    subst he he'
    rw [if_pos (decide_eq_true (idx_lt pre k suf)), if_pos (decide_eq_true (idx_in pre k suf)), if_pos (decide_eq_true (idx_in2 hp k' suf')), rdx_mid .matcher, rdx_mid2 .matcher hp, matcher_eq]
    have := slices_Equal_Matcher_loop (pre ++ k :: suf) (pre' ++ k' :: suf') hx suf suf' (pre ++ [k]) (pre' ++ [k']) (by simp) (by simp) (by simp [hp]) (by simpa using hs)
    rw [idx_step pre k suf hx, this, same_cons]
    cases same k k' <;> simp
theorem slices_Equal_Matcher_ok {a b : List DMatcher} (h : a.length ≤ big) : S_slices_Equal_Matcher L0 (a, b) = some (same a b) := by
  refine go_slices_Equal_Matcher _ _ ?_
  unfold B_slices_Equal_Matcher
  rw [neq_len]
  by_cases hl : a.length = b.length
  · simp only [hl, ne_eq, not_true_eq_false, decide_false, Bool.false_eq_true, if_false]
    have := slices_Equal_Matcher_loop a b h a b [] [] rfl rfl rfl hl
    simpa [hl] using this
  · simp only [hl, ne_eq, not_false_eq_true, decide_true, if_true]
    rw [same_false (fun e => hl (by rw [e]))]
theorem ref07_sameMatchers_loop (xs ys : List DMatcher) (hx : xs.length ≤ big) : ∀ (suf suf' pre pre' : List DMatcher), xs = pre ++ suf → ys = pre' ++ suf' → pre.length = pre'.length → suf.length = suf'.length →
    P_ref07_sameMatchers_0 L0 (xs, (ys, (pre.length : Int))) = some (same suf suf')
  | [], [], pre, pre', he, he', hp, hs => by
    refine go_ref07_sameMatchers_0 _ _ _ ?_
    unfold B_ref07_sameMatchers_0
    simp [he, same_self]
  | [], _ :: _, pre, pre', he, he', hp, hs => by simp at hs
  | _ :: _, [], pre, pre', he, he', hp, hs => by simp at hs
  | k :: suf, k' :: suf', pre, pre', he, he', hp, hs => by
    refine go_ref07_sameMatchers_0 _ _ _ ?_
    unfold B_ref07_sameMatchers_0
    subst he he'
    rw [if_pos (decide_eq_true (idx_lt pre k suf)), if_pos (decide_eq_true (idx_in pre k suf)), if_pos (decide_eq_true (idx_in2 hp k' suf')), rdx_mid .matcher, rdx_mid2 .matcher hp, matcher_eq]
    have := ref07_sameMatchers_loop (pre ++ k :: suf) (pre' ++ k' :: suf') hx suf suf' (pre ++ [k]) (pre' ++ [k']) (by simp) (by simp) (by simp [hp]) (by simpa using hs)
    rw [idx_step pre k suf hx, this, same_cons]
    cases same k k' <;> simp
theorem ref07_sameMatchers_ok {a b : List DMatcher} (h : a.length ≤ big) : S_ref07_sameMatchers L0 (a, b) = some (same a b) := by
  refine go_ref07_sameMatchers _ _ ?_
  unfold B_ref07_sameMatchers
  rw [neq_len]
  by_cases hl : a.length = b.length
  · simp only [hl, ne_eq, not_true_eq_false, decide_false, Bool.false_eq_true, if_false]
    have := ref07_sameMatchers_loop a b h a b [] [] rfl rfl rfl hl
    simpa [hl] using this
  · simp only [hl, ne_eq, not_false_eq_true, decide_true, if_true]
    rw [same_false (fun e => hl (by rw [e]))]
theorem slices_Equal_string_loop (xs ys : List ByteArray) (hx : xs.length ≤ big) : ∀ (suf suf' pre pre' : List ByteArray), xs = pre ++ suf → ys = pre' ++ suf' → pre.length = pre'.length → suf.length = suf'.length →
    P_slices_Equal_string_0 L0 (xs, (ys, ((xs.length : Int), (pre.length : Int)))) = some (same suf suf')
  | [], [], pre, pre', he, he', hp, hs => by
    refine go_slices_Equal_string_0 _ _ _ _ ?_
    unfold B_slices_Equal_string_0
    simp [he, same_self]
  | [], _ :: _, pre, pre', he, he', hp, hs => by simp at hs
  | _ :: _, [], pre, pre', he, he', hp, hs => by simp at hs
  | k :: suf, k' :: suf', pre, pre', he, he', hp, hs => by
    refine go_slices_Equal_string_0 _ _ _ _ ?_
    unfold B_slices_Equal_string_0
    subst he he'
    rw [if_pos (decide_eq_true (idx_lt pre k suf)), if_pos (decide_eq_true (idx_in pre k suf)), if_pos (decide_eq_true (idx_in2 hp k' suf')), rdx_mid .str, rdx_mid2 .str hp, str_same]
    have := slices_Equal_string_loop (pre ++ k :: suf) (pre' ++ k' :: suf') hx suf suf' (pre ++ [k]) (pre' ++ [k']) (by simp) (by simp) (by simp [hp]) (by simpa using hs)
    rw [idx_step pre k suf hx, this, same_cons]
    cases same k k' <;> simp
theorem slices_Equal_string_ok {a b : List ByteArray} (h : a.length ≤ big) : S_slices_Equal_string L0 (a, b) = some (same a b) := by
  refine go_slices_Equal_string _ _ ?_
  unfold B_slices_Equal_string
  rw [neq_len]
  by_cases hl : a.length = b.length
  · simp only [hl, ne_eq, not_true_eq_false, decide_false, Bool.false_eq_true, if_false]
    have := slices_Equal_string_loop a b h a b [] [] rfl rfl rfl hl
    simpa [hl] using this
  · simp only [hl, ne_eq, not_false_eq_true, decide_true, if_true]
    rw [same_false (fun e => hl (by rw [e]))]
theorem ref01_SameTexts_loop (xs ys : List ByteArray) (hx : xs.length ≤ big) : ∀ (suf suf' pre pre' : List ByteArray), xs = pre ++ suf → ys = pre' ++ suf' → pre.length = pre'.length → suf.length = suf'.length →
    P_ref01_SameTexts_0 L0 (xs, (ys, (pre.length : Int))) = some (same suf suf')
  | [], [], pre, pre', he, he', hp, hs => by
    refine go_ref01_SameTexts_0 _ _ _ ?_
    unfold B_ref01_SameTexts_0
    simp [he, same_self]
  | [], _ :: _, pre, pre', he, he', hp, hs => by simp at hs
  | _ :: _, [], pre, pre', he, he', hp, hs => by simp at hs
  | k :: suf, k' :: suf', pre, pre', he, he', hp, hs => by
    refine go_ref01_SameTexts_0 _ _ _ ?_
    unfold B_ref01_SameTexts_0
    subst he he'
    rw [if_pos (decide_eq_true (idx_lt pre k suf)), if_pos (decide_eq_true (idx_in pre k suf)), if_pos (decide_eq_true (idx_in2 hp k' suf')), rdx_mid .str, rdx_mid2 .str hp, str_same]
    have := ref01_SameTexts_loop (pre ++ k :: suf) (pre' ++ k' :: suf') hx suf suf' (pre ++ [k]) (pre' ++ [k']) (by simp) (by simp) (by simp [hp]) (by simpa using hs)
    rw [idx_step pre k suf hx, this, same_cons]
    cases same k k' <;> simp
theorem ref01_SameTexts_ok {a b : List ByteArray} (h : a.length ≤ big) : S_ref01_SameTexts L0 (a, b) = some (same a b) := by
  refine go_ref01_SameTexts _ _ ?_
  unfold B_ref01_SameTexts
  rw [neq_len]
  by_cases hl : a.length = b.length
  · simp only [hl, ne_eq, not_true_eq_false, decide_false, Bool.false_eq_true, if_false]
    have := ref01_SameTexts_loop a b h a b [] [] rfl rfl rfl hl
    simpa [hl] using this
  · simp only [hl, ne_eq, not_false_eq_true, decide_true, if_true]
    rw [same_false (fun e => hl (by rw [e]))]

/-- Lists that fit into memory, in a whole tree. -/
inductive Sized : DExpr → Prop
  | mk (e : DExpr) : e.ms.length ≤ big → e.by_.length ≤ big → (∀ k ∈ e.kids, Sized k) → Sized e
theorem Sized.ms {e : DExpr} (h : Sized e) : e.ms.length ≤ big := by cases h; assumption
theorem Sized.bys {e : DExpr} (h : Sized e) : e.by_.length ≤ big := by cases h; assumption
theorem Sized.kid {e k : DExpr} (h : Sized e) (hk : k ∈ e.kids) : Sized k := by cases h; rename_i h; exact h k hk
theorem expr_same (a b : DExpr) : same a b = (same a.kind b.kind && (same a.fn b.fn && (same a.window b.window && (same a.offset b.offset && (same a.k b.k && (same a.num b.num && (same a.name b.name && (same a.ms b.ms && (same a.by_ b.by_ && same a.kids b.kids))))))))) := by
  cases a; cases b
  rw [Bool.eq_iff_iff]
  simp [same_iff]
theorem slices_EqualFunc_loop (xs ys : List DExpr) (hx : xs.length ≤ big) (h : ∀ a ∈ xs, ∀ b ∈ ys, S_parser_Equal L0 (a, b) = some (same a b)) : ∀ (suf suf' pre pre' : List DExpr), xs = pre ++ suf → ys = pre' ++ suf' → pre.length = pre'.length → suf.length = suf'.length →
    P_slices_EqualFunc_Expr_0 L0 (ys, (xs, ((xs.length : Int), (pre.length : Int)))) = some (same suf suf')
  | [], [], pre, pre', he, he', hp, hs => by
    refine go_slices_EqualFunc_Expr_0 _ _ _ _ ?_
    unfold B_slices_EqualFunc_Expr_0
    simp [he, same_self]
  | [], _ :: _, pre, pre', he, he', hp, hs => by simp at hs
  | _ :: _, [], pre, pre', he, he', hp, hs => by simp at hs
  | k :: suf, k' :: suf', pre, pre', he, he', hp, hs => by
    refine go_slices_EqualFunc_Expr_0 _ _ _ _ ?_
    unfold B_slices_EqualFunc_Expr_0
    subst he he'
    rw [if_pos (decide_eq_true (idx_lt pre k suf)), if_pos (decide_eq_true (idx_in pre k suf)), if_pos (decide_eq_true (idx_in2 hp k' suf')), rdx_mid .expr, rdx_mid2 .expr hp, eE_eq, eE_eq, h k (by simp) k' (by simp)]
    have := slices_EqualFunc_loop (pre ++ k :: suf) (pre' ++ k' :: suf') hx h suf suf' (pre ++ [k]) (pre' ++ [k']) (by simp) (by simp) (by simp [hp]) (by simpa using hs)
    simp only [Option.bind_some]
    rw [idx_step pre k suf hx, this, same_cons]
    cases same k k' <;> simp
theorem parser_Equal_ok : ∀ n, ∀ a b : DExpr, nodes a ≤ n → Few a → Sized a → S_parser_Equal L0 (a, b) = some (same a b) := by
  intro n
  induction n with
  | zero => intro a b h; have := nodes_pos a; omega
  | succ n ih =>
    intro a b h hf hs
    refine go_parser_Equal _ _ ?_
    unfold B_parser_Equal
    have hn := nodes_eq a
    have hk : S_slices_EqualFunc_Expr L0 (a.kids, b.kids) = some (same a.kids b.kids) := by
      refine go_slices_EqualFunc_Expr _ _ ?_
      unfold B_slices_EqualFunc_Expr
      rw [neq_len]
      by_cases hl : a.kids.length = b.kids.length
      · simp only [hl, ne_eq, not_true_eq_false, decide_false, Bool.false_eq_true, if_false]
        have := slices_EqualFunc_loop a.kids b.kids hf.kids (fun k hk k' _ => ih k k' (by have := nodes_mem hk; omega) (hf.mem hk) (hs.kid hk)) a.kids b.kids [] [] rfl rfl rfl hl
        simpa [hl] using this
      · simp only [hl, ne_eq, not_false_eq_true, decide_true, if_true]
        rw [same_false (fun e => hl (by rw [e]))]
    rw [expr_same, frac_eq, slices_Equal_Matcher_ok hs.ms, slices_Equal_string_ok hs.bys, hk]
    simp only [int_same, str_same, Option.bind_some]
    cases same a.kind b.kind <;> cases same a.fn b.fn <;> cases same a.window b.window <;> cases same a.offset b.offset <;> cases same a.k b.k <;> cases same a.num b.num <;> cases same a.name b.name <;> cases same a.ms b.ms <;> cases same a.by_ b.by_ <;> rfl
theorem ref07_Equal_loop (x y : DExpr) (hx : x.kids.length ≤ big) (h : ∀ a ∈ x.kids, ∀ b ∈ y.kids, S_ref07_Equal L0 (a, b) = some (same a b)) : ∀ (suf suf' pre pre' : List DExpr), x.kids = pre ++ suf → y.kids = pre' ++ suf' → pre.length = pre'.length → suf.length = suf'.length →
    P_ref07_Equal_0 L0 ((pre.length : Int), (x, y)) = some (same suf suf')
  | [], [], pre, pre', he, he', hp, hs => by
    refine go_ref07_Equal_0 _ _ _ ?_
    unfold B_ref07_Equal_0
    simp [he, same_self]
  | [], _ :: _, pre, pre', he, he', hp, hs => by simp at hs
  | _ :: _, [], pre, pre', he, he', hp, hs => by simp at hs
  | k :: suf, k' :: suf', pre, pre', he, he', hp, hs => by
    refine go_ref07_Equal_0 _ _ _ ?_
    unfold B_ref07_Equal_0
    have := ref07_Equal_loop x y hx h suf suf' (pre ++ [k]) (pre' ++ [k']) (by simp [he]) (by simp [he']) (by simp [hp]) (by simpa using hs)
    have hk := h k (by rw [he]; simp) k' (by rw [he']; simp)
    have hx' := hx
    rw [he] at hx'
    simp only [eE_eq, he, he']
    rw [if_pos (decide_eq_true (idx_lt pre k suf)), if_pos (decide_eq_true (idx_in pre k suf)), if_pos (decide_eq_true (idx_in2 hp k' suf')), rdx_mid .expr, rdx_mid2 .expr hp, hk]
    simp only [Option.bind_some]
    rw [idx_step pre k suf hx', this, same_cons]
    cases same k k' <;> simp
theorem ref07_Equal_ok : ∀ n, ∀ a b : DExpr, nodes a ≤ n → Few a → Sized a → S_ref07_Equal L0 (a, b) = some (same a b) := by
  intro n
  induction n with
  | zero => intro a b h; have := nodes_pos a; omega
  | succ n ih =>
    intro a b h hf hs
    refine go_ref07_Equal _ _ ?_
    unfold B_ref07_Equal
    have hn := nodes_eq a
    rw [expr_same, frac_eq, ref07_sameMatchers_ok hs.ms, ref01_SameTexts_ok hs.bys, neq_len]
    simp only [bne, int_same, str_same, Option.bind_some, eE_eq]
    by_cases hl : a.kids.length = b.kids.length
    · have := ref07_Equal_loop a b hf.kids (fun k hk k' _ => ih k k' (by have := nodes_mem hk; omega) (hf.mem hk) (hs.kid hk)) a.kids b.kids [] [] rfl rfl rfl hl
      simp only [List.length_nil] at this
      replace this : P_ref07_Equal_0 L0 (0, (a, b)) = some (same a.kids b.kids) := this
      simp only [hl, ne_eq, not_true_eq_false, decide_false, Bool.false_eq_true, if_false]
      rw [this]
      cases same a.kind b.kind <;> cases same a.fn b.fn <;> cases same a.window b.window <;> cases same a.offset b.offset <;> cases same a.k b.k <;> cases same a.num b.num <;> cases same a.name b.name <;> cases same a.ms b.ms <;> cases same a.by_ b.by_ <;> rfl
    · simp only [hl, ne_eq, not_false_eq_true, decide_true, if_true]
      rw [same_false (fun e => hl (by rw [e])) (a := a.kids) (b := b.kids)]
      cases same a.kind b.kind <;> cases same a.fn b.fn <;> cases same a.window b.window <;> cases same a.offset b.offset <;> cases same a.k b.k <;> cases same a.num b.num <;> cases same a.name b.name <;> cases same a.ms b.ms <;> cases same a.by_ b.by_ <;> rfl
end Go.AM
/-
  Names and values of labels: what the program's and the reference's functions compute.
-/
namespace Go.AM
open Go
set_option maxRecDepth 100000
theorem get_mid {s : ByteArray} {pre suf : List UInt8} {b : UInt8} (he : s.data.toList = pre ++ b :: suf) : s.get! (pre.length + 0) = b := by
  obtain ⟨⟨l⟩⟩ := s
  have he : l = pre ++ b :: suf := he
  subst he
  show (Array.mk (pre ++ b :: suf))[pre.length]! = b
  simp
theorem decode_ascii {s : ByteArray} {pre suf : List UInt8} {b : UInt8} (he : s.data.toList = pre ++ b :: suf) (hb : b.toNat < 128) : Utf8.decode s pre.length = (b.toNat, 1) := by
  have hg : s.get! (pre.length + 0) = b := by
    exact get_mid he
  unfold Utf8.decode
  simp only [hg]
  rw [if_pos hb]
theorem decode_other {s : ByteArray} {pre suf : List UInt8} {b : UInt8} (he : s.data.toList = pre ++ b :: suf) (hb : ¬ b.toNat < 128) : 128 ≤ (Utf8.decode s pre.length).1 := by
  have hg : s.get! (pre.length + 0) = b := by
    exact get_mid he
  unfold Utf8.decode
  simp only [hg]
  rw [if_neg hb]
  have he : 128 ≤ Utf8.runeError := by decide
  split
  · split <;> simp_all
  · split
    · split
      · rename_i h; simp at h; show 128 ≤ _; omega
      · exact he
    · split
      · split
        · rename_i h; simp at h; show 128 ≤ _; omega
        · exact he
      · exact he
theorem bt_mid {s : ByteArray} {pre suf : List UInt8} {b : UInt8} (he : s.data.toList = pre ++ b :: suf) : bt s (pre.length : Int) = (b.toNat : Int) := by
  have hl : pre.length < s.size := by rw [str_size, he]; simp
  unfold bt
  have h1 : ((pre.length : Int)).toNat = pre.length := by simp
  rw [dif_pos (by rw [h1]; exact hl)]
  congr 2
  have h2 : s[((pre.length : Int)).toNat]'(by rw [h1]; exact hl) = s.data.toList[pre.length]'(by rw [he]; simp) := by
    simp only [h1]
    rfl
  rw [h2]
  simp [he]
def letterB (n : Nat) : Bool := decide (97 ≤ n) && decide (n ≤ 122)
def otherB (n : Nat) : Bool := (decide (48 ≤ n) && decide (n ≤ 57)) || decide (n = 95)
def nameFrom : Bool → List UInt8 → Bool
  | _, [] => true
  | first, b :: r => (letterB b.toNat || (!first && otherB b.toNat)) && nameFrom false r
/-- What is a name. -/
def nameB (s : ByteArray) : Bool := decide (1 ≤ s.size) && decide (s.size ≤ 16) && nameFrom true s.data.toList
def plainB (n : Nat) : Bool := decide (33 ≤ n) && decide (n ≤ 126) && !(n == 34 || n == 92 || n == 44 || n == 123 || n == 125)
def valueB (s : ByteArray) : Bool := decide (s.size ≤ 16) && s.data.toList.all fun b => plainB b.toNat
def matcherB (m : DMatcher) : Bool := nameB m.name && decide (0 ≤ m.kind) && decide (m.kind ≤ 2) && valueB m.value
theorem size_mid {s : ByteArray} {pre suf : List UInt8} {b : UInt8} (he : s.data.toList = pre ++ b :: suf) : pre.length < s.size := by
  rw [str_size, he]; simp
theorem labels_Name_loop (s : ByteArray) : ∀ (suf pre : List UInt8), s.data.toList = pre ++ suf → P_labels_Name_0 L0 (s, pre.length) = some (nameFrom (decide (pre.length = 0)) suf)
  | [], pre, he => by
    refine go_labels_Name_0 _ _ ?_
    unfold B_labels_Name_0
    have : ¬ pre.length < s.size := by rw [str_size, he]; simp
    simp [this, nameFrom]
  | b :: suf, pre, he => by
    refine go_labels_Name_0 _ _ ?_
    unfold B_labels_Name_0
    rw [if_pos (decide_eq_true (size_mid he))]
    have hz : (((pre.length : Nat) : Int) == 0) = decide (pre.length = 0) := by
      rw [Bool.eq_iff_iff]; simp
    by_cases hb : b.toNat < 128
    · have ih := labels_Name_loop s suf (pre ++ [b]) (by simp [he])
      rw [show (pre ++ [b]).length = pre.length + 1 by simp] at ih
      rw [decode_ascii he hb, hz]
      simp only [ih, nameFrom, letterB, otherB]
      have hn : decide (pre.length + 1 = 0) = false := by simp
      rw [hn]
      generalize b.toNat = n at *
      generalize decide (pre.length = 0) = z
      by_cases h1 : 97 ≤ n
      · by_cases h2 : n ≤ 122
        · have e1 : (48 : Int) ≤ n := by omega
          have e2 : ¬ n ≤ 57 := by omega
          have e3 : ¬ (n : Int) ≤ 57 := by omega
          have e4 : (n : Int) ≤ 122 := by omega
          have e5 : (97 : Int) ≤ n := by omega
          simp [h1, h2, e1, e3, e4, e5]
        · have e1 : (48 : Int) ≤ n := by omega
          have e2 : ¬ n ≤ 57 := by omega
          have e3 : ¬ (n : Int) ≤ 57 := by omega
          have e4 : ¬ (n : Int) ≤ 122 := by omega
          have e5 : (97 : Int) ≤ n := by omega
          have e6 : ¬ (n : Int) = 95 := by omega
          have e7 : ¬ n = 95 := by omega
          cases z <;> simp [h1, h2, e1, e2, e3, e4, e5, e6, e7]
      · have e5 : ¬ (97 : Int) ≤ n := by omega
        by_cases h3 : 48 ≤ n
        · have e1 : (48 : Int) ≤ n := by omega
          by_cases h4 : n ≤ 57
          · have e3 : (n : Int) ≤ 57 := by omega
            cases z <;> simp [h1, h3, h4, e1, e3, e5]
          · have e3 : ¬ (n : Int) ≤ 57 := by omega
            by_cases h6 : n = 95
            · have e6 : (n : Int) = 95 := by omega
              cases z <;> simp [h6]
            · have e6 : ¬ (n : Int) = 95 := by omega
              cases z <;> simp [h1, h3, h4, e1, e3, e5, e6, h6]
        · have e1 : ¬ (48 : Int) ≤ n := by omega
          have h6 : ¬ n = 95 := by omega
          have e6 : ¬ (n : Int) = 95 := by omega
          cases z <;> simp [h1, h3, e1, e5, e6, h6]
    · have h := decode_other he hb
      rw [hz]
      have hf : letterB b.toNat = false := by unfold letterB; simp; omega
      have ho : otherB b.toNat = false := by unfold otherB; simp; omega
      simp only [nameFrom, hf, ho]
      generalize (Utf8.decode s pre.length).1 = n at *
      have e1 : (48 : Int) ≤ n := by omega
      have e3 : ¬ (n : Int) ≤ 57 := by omega
      have e4 : ¬ (n : Int) ≤ 122 := by omega
      have e5 : (97 : Int) ≤ n := by omega
      have e6 : ¬ (n : Int) = 95 := by omega
      generalize decide (pre.length = 0) = z
      cases z <;> simp [e1, e3, e4, e5, e6]
theorem labels_Name_ok (s : ByteArray) : S_labels_Name L0 s = some (nameB s) := by
  refine go_labels_Name _ ?_
  unfold B_labels_Name
  rw [str_beq]
  have hs := str_size s
  by_cases h : s = zeroS
  · subst h; rfl
  · have h' : ¬ s.data.toList = [] := fun e => h ((str_nil s).2 e)
    have h1 : 1 ≤ s.size := by rw [hs]; cases hq : s.data.toList with
      | nil => exact absurd hq h'
      | cons a l => simp
    simp only [h, decide_false, Bool.false_eq_true, if_false, nameB, h1, decide_true, Bool.true_and]
    have hl := labels_Name_loop s s.data.toList [] rfl
    simp only [List.length_nil, decide_true] at hl
    rw [hl]
    by_cases h2 : s.size ≤ 16
    · have : ¬ (s.size : Int) > 16 := by omega
      simp [h2, this]
    · have : (s.size : Int) > 16 := by omega
      simp [h2, this]
theorem ref05_letter_ok (n : Nat) : S_ref05_letter L0 (n : Int) = some (letterB n) := by
  refine go_ref05_letter _ ?_
  unfold B_ref05_letter letterB
  by_cases h1 : 97 ≤ n
  · have e : (n : Int) ≥ 97 := by omega
    by_cases h2 : n ≤ 122
    · have e2 : (n : Int) ≤ 122 := by omega
      simp [h1, h2, e, e2]
    · have e2 : ¬ (n : Int) ≤ 122 := by omega
      simp [h1, h2, e, e2]
  · have e : ¬ (n : Int) ≥ 97 := by omega
    simp [h1, e]
theorem str_in {s : ByteArray} {pre suf : List UInt8} {b : UInt8} (he : s.data.toList = pre ++ b :: suf) : (0 : Int) ≤ (pre.length : Int) ∧ (pre.length : Int) < (s.size : Int) := by
  have := size_mid he
  omega
theorem str_step {s : ByteArray} {pre suf : List UInt8} {b : UInt8} (he : s.data.toList = pre ++ b :: suf) (hb : s.size ≤ big) : IntKind.wrap .i64 ((pre.length : Int) + 1) = ((pre ++ [b]).length : Int) := by
  have := size_mid he
  unfold big at hb
  rw [wrap64 (by omega) (by omega)]
  simp
theorem ref05_Name_loop (s : ByteArray) (hs : s.size ≤ big) : ∀ (suf pre : List UInt8), s.data.toList = pre ++ suf → P_ref05_Name_0 L0 (s, (pre.length : Int)) = some (nameFrom (decide (pre.length = 0)) suf)
  | [], pre, he => by
    refine go_ref05_Name_0 _ _ ?_
    unfold B_ref05_Name_0
    have : ¬ (pre.length : Int) < (s.size : Int) := by rw [str_size, he]; simp
    simp [this, nameFrom]
  | b :: suf, pre, he => by
    refine go_ref05_Name_0 _ _ ?_
    unfold B_ref05_Name_0
    have hin := str_in he
    have hz : (((pre.length : Nat) : Int) == 0) = decide (pre.length = 0) := by
      rw [Bool.eq_iff_iff]; simp
    have ih := ref05_Name_loop s hs suf (pre ++ [b]) (by simp [he])
    have hn : decide ((pre ++ [b]).length = 0) = false := by simp
    rw [hn] at ih
    rw [if_pos (decide_eq_true hin.2), if_pos (decide_eq_true hin)]
    simp only [decide_eq_true hin, if_true]
    rw [bt_mid he, hz, str_step he hs, ih, ref05_letter_ok]
    simp only [nameFrom, Option.bind_some]
    generalize decide (pre.length = 0) = z
    have ho : otherB b.toNat = ((decide ((48 : Int) ≤ b.toNat) && decide ((b.toNat : Int) ≤ 57)) || ((b.toNat : Int) == 95)) := by
      unfold otherB
      rw [Bool.eq_iff_iff]; simp; omega
    rw [ho]
    cases letterB b.toNat <;> cases z <;> by_cases h1 : (48 : Int) ≤ b.toNat <;> by_cases h2 : (b.toNat : Int) ≤ 57 <;> by_cases h3 : (b.toNat : Int) = 95 <;> simp [h1, h2, h3]
theorem ref05_Name_ok (s : ByteArray) : S_ref05_Name L0 s = some (nameB s) := by
  refine go_ref05_Name _ ?_
  unfold B_ref05_Name nameB
  by_cases h1 : 1 ≤ s.size
  · have e1 : ¬ (s.size : Int) < 1 := by omega
    by_cases h2 : s.size ≤ 16
    · have e2 : ¬ (s.size : Int) > 16 := by omega
      have hl := ref05_Name_loop s (by unfold big; omega) s.data.toList [] rfl
      simp only [List.length_nil, decide_true] at hl
      replace hl : P_ref05_Name_0 L0 (s, 0) = some (nameFrom true s.data.toList) := hl
      simp [h1, h2, e1, e2, hl]
    · have e2 : (s.size : Int) > 16 := by omega
      simp [h2, e1, e2]
  · have e1 : (s.size : Int) < 1 := by omega
    simp [h1, e1]
theorem labels_Value_loop (s : ByteArray) : ∀ (suf pre : List UInt8), s.data.toList = pre ++ suf → P_labels_Value_0 L0 (s, pre.length) = some (suf.all fun b => plainB b.toNat)
  | [], pre, he => by
    refine go_labels_Value_0 _ _ ?_
    unfold B_labels_Value_0
    have : ¬ pre.length < s.size := by rw [str_size, he]; simp
    simp [this]
  | b :: suf, pre, he => by
    refine go_labels_Value_0 _ _ ?_
    unfold B_labels_Value_0
    rw [if_pos (decide_eq_true (size_mid he))]
    by_cases hb : b.toNat < 128
    · have ih := labels_Value_loop s suf (pre ++ [b]) (by simp [he])
      rw [show (pre ++ [b]).length = pre.length + 1 by simp] at ih
      rw [decode_ascii he hb]
      simp only [ih, base_ContainsRune, containsRuneF, List.all_cons]
      generalize b.toNat = n at *
      by_cases h1 : n ≤ 32
      · have e1 : (n : Int) ≤ 32 := by omega
        have : plainB n = false := by unfold plainB; simp; omega
        simp [e1, this]
      · have e1 : ¬ (n : Int) ≤ 32 := by omega
        by_cases h2 : n > 126
        · have e2 : (n : Int) > 126 := by omega
          have : plainB n = false := by unfold plainB; simp; omega
          simp [e1, e2, this]
        · have e2 : ¬ (n : Int) > 126 := by omega
          have e3 : (0 : Int) ≤ n ∧ (n : Int) < 128 := by omega
          have e4 : (([34, 92, 44, 123, 125] : List UInt8).any fun b => ((b.toNat : Int) == (n : Int))) = (n == 34 || n == 92 || n == 44 || n == 123 || n == 125) := by
            rw [Bool.eq_iff_iff]; simp; omega
          have e5 : plainB n = !(n == 34 || n == 92 || n == 44 || n == 123 || n == 125) := by
            have h3 : 33 ≤ n := by omega
            have h4 : n ≤ 126 := by omega
            simp only [plainB, h3, h4, decide_true, Bool.true_and]
          simp only [e1, e2, e3, e4, e5, decide_false, Bool.false_eq_true, if_false, and_self, if_true, Option.bind_some]
          cases (n == 34 || n == 92 || n == 44 || n == 123 || n == 125) <;> simp
    · have h := decode_other he hb
      have hf : plainB b.toNat = false := by unfold plainB; simp; omega
      simp only [List.all_cons, hf]
      generalize (Utf8.decode s pre.length).1 = n at *
      have e1 : ¬ (n : Int) ≤ 32 := by omega
      have e2 : (n : Int) > 126 := by omega
      simp [e1, e2]
theorem labels_Value_ok (s : ByteArray) : S_labels_Value L0 s = some (valueB s) := by
  refine go_labels_Value _ ?_
  unfold B_labels_Value valueB
  have hl := labels_Value_loop s s.data.toList [] rfl
  simp only [List.length_nil] at hl
  by_cases h2 : s.size ≤ 16
  · have e2 : ¬ (s.size : Int) > 16 := by omega
    simp [h2, e2, hl]
  · have e2 : (s.size : Int) > 16 := by omega
    simp [h2, e2]
theorem ref05_Value_loop (s : ByteArray) (hs : s.size ≤ big) : ∀ (suf pre : List UInt8), s.data.toList = pre ++ suf → P_ref05_Value_0 L0 (s, (pre.length : Int)) = some (suf.all fun b => plainB b.toNat)
  | [], pre, he => by
    refine go_ref05_Value_0 _ _ ?_
    unfold B_ref05_Value_0
    have : ¬ (pre.length : Int) < (s.size : Int) := by rw [str_size, he]; simp
    simp [this]
  | b :: suf, pre, he => by
    refine go_ref05_Value_0 _ _ ?_
    unfold B_ref05_Value_0
    have hin := str_in he
    have ih := ref05_Value_loop s hs suf (pre ++ [b]) (by simp [he])
    rw [if_pos (decide_eq_true hin.2), if_pos (decide_eq_true hin)]
    rw [bt_mid he, str_step he hs, ih]
    simp only [List.all_cons]
    have hp : plainB b.toNat = (decide (¬ (b.toNat : Int) < 33) && decide (¬ (b.toNat : Int) > 126) && !((b.toNat : Int) == 34) && !((b.toNat : Int) == 92) && !((b.toNat : Int) == 44) && !((b.toNat : Int) == 123) && !((b.toNat : Int) == 125)) := by
      unfold plainB
      rw [Bool.eq_iff_iff]; simp; omega
    rw [hp]
    by_cases h1 : (b.toNat : Int) < 33
    · simp [h1]
    by_cases h2 : (b.toNat : Int) > 126
    · simp [h1, h2]
    simp only [h1, h2, decide_false, Bool.false_eq_true, if_false, not_false_eq_true, decide_true, Bool.true_and]
    cases ((b.toNat : Int) == 34) <;> cases ((b.toNat : Int) == 92) <;> cases ((b.toNat : Int) == 44) <;> cases ((b.toNat : Int) == 123) <;> cases ((b.toNat : Int) == 125) <;> simp
theorem ref05_Value_ok (s : ByteArray) : S_ref05_Value L0 s = some (valueB s) := by
  refine go_ref05_Value _ ?_
  unfold B_ref05_Value valueB
  by_cases h2 : s.size ≤ 16
  · have e2 : ¬ (s.size : Int) > 16 := by omega
    have hl := ref05_Value_loop s (by unfold big; omega) s.data.toList [] rfl
    replace hl : P_ref05_Value_0 L0 (s, 0) = some (s.data.toList.all fun b => plainB b.toNat) := hl
    simp [h2, e2, hl]
  · have e2 : (s.size : Int) > 16 := by omega
    simp [h2, e2]
theorem labels_ValidMatcher_ok (m : DMatcher) : S_labels_ValidMatcher L0 m = some (matcherB m) := by
  refine go_labels_ValidMatcher _ ?_
  unfold B_labels_ValidMatcher matcherB
  rw [labels_Name_ok, labels_Value_ok]
  simp only [Option.bind_some]
  cases nameB m.name <;> by_cases h1 : m.kind ≥ 0 <;> by_cases h2 : m.kind ≤ 2 <;> simp [h1, h2]
theorem ref05_ValidMatcher_ok (m : DMatcher) : S_ref05_ValidMatcher L0 m = some (matcherB m) := by
  refine go_ref05_ValidMatcher _ ?_
  unfold B_ref05_ValidMatcher matcherB
  rw [ref05_Name_ok, ref05_Value_ok]
  simp only [Option.bind_some]
  cases nameB m.name <;> by_cases h1 : m.kind ≥ 0 <;> by_cases h2 : m.kind ≤ 2 <;> simp [h1, h2]
end Go.AM
/-
  Lists of words; the names of a node: what the program's and the reference's functions compute.
-/
namespace Go.AM
open Go
set_option maxRecDepth 100000
noncomputable def findI (s : ByteArray) : List ByteArray → Int → Int
  | [], _ => -1
  | a :: l, i => if same a s = true then i else findI s l (i + 1)
theorem same_comm {A : Type} (a b : A) : same a b = same b a := same_congr ⟨Eq.symm, Eq.symm⟩
theorem ref07_find_loop (xs : List ByteArray) (s : ByteArray) (hx : xs.length ≤ big) : ∀ (suf pre : List ByteArray), xs = pre ++ suf → P_ref07_find_0 L0 (xs, (s, (pre.length : Int))) = some (findI s suf pre.length)
  | [], pre, he => by
    refine go_ref07_find_0 _ _ _ ?_
    unfold B_ref07_find_0
    simp [he, findI]
  | k :: suf, pre, he => by
    refine go_ref07_find_0 _ _ _ ?_
    unfold B_ref07_find_0
    subst he
    rw [if_pos (decide_eq_true (idx_lt pre k suf)), if_pos (decide_eq_true (idx_in pre k suf)), rdx_mid .str, str_same]
    have := ref07_find_loop (pre ++ k :: suf) s hx suf (pre ++ [k]) (by simp)
    rw [idx_step pre k suf hx, this, findI]
    split <;> simp
theorem ref07_find_ok {l : List ByteArray} (s : ByteArray) (h : l.length ≤ big) : S_ref07_find L0 (l, s) = some (findI s l 0) := by
  refine go_ref07_find _ _ ?_
  unfold B_ref07_find
  exact ref07_find_loop l s h l [] rfl
theorem slices_Index_loop (xs : List ByteArray) (s : ByteArray) (hx : xs.length ≤ big) : ∀ (suf pre : List ByteArray), xs = pre ++ suf → P_slices_Index_string_0 L0 (xs, (s, ((xs.length : Int), (pre.length : Int)))) = some (findI s suf pre.length)
  | [], pre, he => by
    refine go_slices_Index_string_0 _ _ _ _ ?_
    unfold B_slices_Index_string_0
    simp [he, findI]
  | k :: suf, pre, he => by
    refine go_slices_Index_string_0 _ _ _ _ ?_
    unfold B_slices_Index_string_0
    subst he
    rw [if_pos (decide_eq_true (idx_lt pre k suf)), if_pos (decide_eq_true (idx_in pre k suf)), rdx_mid .str, str_same, same_comm]
    have := slices_Index_loop (pre ++ k :: suf) s hx suf (pre ++ [k]) (by simp)
    rw [idx_step pre k suf hx, this, findI]
    split <;> simp
theorem slices_Index_string_ok {l : List ByteArray} (s : ByteArray) (h : l.length ≤ big) : S_slices_Index_string L0 (l, s) = some (findI s l 0) := by
  refine go_slices_Index_string _ _ ?_
  unfold B_slices_Index_string
  exact slices_Index_loop l s h l [] rfl
theorem findI_pos (s : ByteArray) : ∀ (l : List ByteArray) (i : Int), 0 ≤ i → (findI s l i ≥ 0 ↔ s ∈ l)
  | [], i, h => by simp [findI]
  | a :: l, i, h => by
    have ih := findI_pos s l (i + 1) (by omega)
    rw [findI]
    by_cases ha : a = s
    · subst ha; simp [same_self, h]
    · rw [same_false ha]
      simp only [Bool.false_eq_true, if_false, ih, List.mem_cons]
      constructor
      · exact .inr
      · rintro (h | h)
        · exact absurd h.symm ha
        · exact h
noncomputable def hasS (l : List ByteArray) (s : ByteArray) : Bool := decide (findI s l 0 ≥ 0)
theorem hasS_iff {l : List ByteArray} {s : ByteArray} : hasS l s = true ↔ s ∈ l := by
  unfold hasS
  rw [decide_eq_true_iff]
  exact findI_pos s l 0 (by omega)
theorem slices_Contains_string_ok {l : List ByteArray} (s : ByteArray) (h : l.length ≤ big) : S_slices_Contains_string L0 (l, s) = some (hasS l s) := by
  refine go_slices_Contains_string _ _ ?_
  unfold B_slices_Contains_string
  rw [slices_Index_string_ok s h]
  rfl

/-- The names of a node. -/
def bysFrom : Option ByteArray → List ByteArray → Bool
  | _, [] => true
  | o, s :: r => nameB s && (match o with | none => true | some p => !(Op.bytesLess s.toList p.toList || s.toList == p.toList)) && bysFrom (some s) r
def bysB (l : List ByteArray) : Bool := bysFrom none l
noncomputable def namedB (e : DExpr) : Bool := (!decide (e.kind = 1) || (nameB e.name && !hasS wGroups e.name)) && e.ms.all matcherB && bysB e.by_
def lastO : List ByteArray → Option ByteArray
  | [] => none
  | [a] => some a
  | _ :: b :: r => lastO (b :: r)
theorem lastO_snoc : ∀ (l : List ByteArray) (a : ByteArray), lastO (l ++ [a]) = some a
  | [], a => rfl
  | [b], a => rfl
  | b :: c :: l, a => lastO_snoc (c :: l) a
theorem rdx_last (pre : List ByteArray) (p k : ByteArray) (suf : List ByteArray) (hb : ((pre ++ [p]) ++ k :: suf).length ≤ big) : (0 ≤ IntKind.wrap .i64 (((pre ++ [p]).length : Int) - 1) ∧ IntKind.wrap .i64 (((pre ++ [p]).length : Int) - 1) < ((((pre ++ [p]) ++ k :: suf).length : Nat) : Int)) ∧ rdx .str ((pre ++ [p]) ++ k :: suf) (IntKind.wrap .i64 (((pre ++ [p]).length : Int) - 1)) = p := by
  have h1 : IntKind.wrap .i64 (((pre ++ [p]).length : Int) - 1) = (pre.length : Int) := by
    simp only [List.length_append, List.length_cons, List.length_nil] at hb ⊢
    unfold big at hb
    rw [wrap64 (by omega) (by omega)]
    omega
  rw [h1]
  refine ⟨⟨by omega, by simp only [List.length_append, List.length_cons, List.length_nil]; omega⟩, ?_⟩
  rw [List.append_assoc]
  exact rdx_mid .str pre p (k :: suf)
theorem parser_named_by (e : DExpr) (hx : e.by_.length ≤ big) : ∀ (suf pre : List ByteArray), e.by_ = pre ++ suf → P_parser_named_1 L0 ((e.by_, ((e.by_.length : Int), (pre.length : Int))), e) = some (bysFrom (lastO pre) suf)
  | [], pre, he => by
    refine go_parser_named_1 _ _ _ _ ?_
    unfold B_parser_named_1
    simp [he, bysFrom]
  | k :: suf, pre, he => by
    refine go_parser_named_1 _ _ _ _ ?_
    unfold B_parser_named_1
    have ih := parser_named_by e hx suf (pre ++ [k]) (by simp [he])
    have hx' := hx
    rw [he] at hx' ih
    simp only [eE_eq, he]
    rw [if_pos (decide_eq_true (idx_lt pre k suf)), if_pos (decide_eq_true (idx_in pre k suf)), rdx_mid .str, labels_Name_ok, idx_step pre k suf hx', ih, lastO_snoc]
    simp only [Option.bind_some, bysFrom]
    rcases List.eq_nil_or_concat pre with hp | ⟨pre', p, hp⟩
    · subst hp
      cases nameB k <;> simp [lastO]
    · rw [List.concat_eq_append] at hp
      subst hp
      obtain ⟨r1, r2⟩ := rdx_last pre' p k suf hx'
      have h0 : ((pre' ++ [p]).length : Int) > 0 := by simp only [List.length_append, List.length_cons, List.length_nil]; omega
      rw [if_pos (decide_eq_true r1), r2, lastO_snoc]
      simp only [decide_eq_true h0, if_true]
      cases nameB k <;> cases (Op.bytesLess k.toList p.toList || k.toList == p.toList) <;> simp
theorem parser_named_ms (e : DExpr) (hx : e.ms.length ≤ big) (hy : e.by_.length ≤ big) : ∀ (suf pre : List DMatcher), e.ms = pre ++ suf → P_parser_named_0 L0 ((e.ms, ((e.ms.length : Int), (pre.length : Int))), e) = some (suf.all matcherB && bysB e.by_)
  | [], pre, he => by
    refine go_parser_named_0 _ _ _ _ ?_
    unfold B_parser_named_0
    have := parser_named_by e hy e.by_ [] rfl
    simp only [List.length_nil] at this
    replace this : P_parser_named_1 L0 ((e.by_, ((e.by_.length : Int), 0)), e) = some (bysFrom (lastO []) e.by_) := this
    simp [he, this, bysB, lastO]
  | k :: suf, pre, he => by
    refine go_parser_named_0 _ _ _ _ ?_
    unfold B_parser_named_0
    have ih := parser_named_ms e hx hy suf (pre ++ [k]) (by simp [he])
    have hx' := hx
    rw [he] at hx' ih
    simp only [eE_eq, he]
    rw [if_pos (decide_eq_true (idx_lt pre k suf)), if_pos (decide_eq_true (idx_in pre k suf)), rdx_mid .matcher, labels_ValidMatcher_ok, idx_step pre k suf hx', ih]
    simp only [Option.bind_some, List.all_cons]
    cases matcherB k <;> simp
theorem parser_named_ok {e : DExpr} (hx : e.ms.length ≤ big) (hy : e.by_.length ≤ big) : S_parser_named L0 e = some (namedB e) := by
  refine go_parser_named _ ?_
  unfold B_parser_named namedB
  have hm := parser_named_ms e hx hy e.ms [] rfl
  simp only [List.length_nil] at hm
  replace hm : P_parser_named_0 L0 ((e.ms, ((e.ms.length : Int), 0)), e) = some (e.ms.all matcherB && bysB e.by_) := hm
  simp only [eE_eq, hm, labels_Name_ok, Option.bind_some]
  by_cases hk : e.kind = 1
  · have hc := slices_Contains_string_ok (l := wGroups) e.name (by decide)
    simp only [hk, beq_self_eq_true, if_true, decide_true, Bool.not_true, Bool.false_or]
    have hc' : S_slices_Contains_string L0 (List.take 5 (List.drop 0 wGroups), e.name) = some (hasS wGroups e.name) := hc
    cases nameB e.name
    · simp
    · simp only [Bool.not_true, Bool.false_eq_true, if_false, Bool.true_and]
      refine (congrArg (Option.bind · _) hc').trans ?_
      simp only [Option.bind_some]
      cases hasS wGroups e.name <;> simp
  · have : (e.kind == 1) = false := by simpa using hk
    simp [hk]
theorem ref07_named_by (e : DExpr) (hx : e.by_.length ≤ big) : ∀ (suf pre : List ByteArray), e.by_ = pre ++ suf → P_ref07_named_1 L0 ((pre.length : Int), e) = some (bysFrom (lastO pre) suf)
  | [], pre, he => by
    refine go_ref07_named_1 _ _ ?_
    unfold B_ref07_named_1
    simp [he, bysFrom]
  | k :: suf, pre, he => by
    refine go_ref07_named_1 _ _ ?_
    unfold B_ref07_named_1
    have ih := ref07_named_by e hx suf (pre ++ [k]) (by simp [he])
    have hx' := hx
    rw [he] at hx'
    simp only [eE_eq, he]
    rw [if_pos (decide_eq_true (idx_lt pre k suf)), if_pos (decide_eq_true (idx_in pre k suf)), rdx_mid .str, ref05_Name_ok, idx_step pre k suf hx', ih, lastO_snoc]
    simp only [Option.bind_some, bysFrom]
    rcases List.eq_nil_or_concat pre with hp | ⟨pre', p, hp⟩
    · subst hp
      cases nameB k <;> simp [lastO]
    · rw [List.concat_eq_append] at hp
      subst hp
      obtain ⟨r1, r2⟩ := rdx_last pre' p k suf hx'
      have h0 : ((pre' ++ [p]).length : Int) > 0 := by simp only [List.length_append, List.length_cons, List.length_nil]; omega
      rw [if_pos (decide_eq_true r1), r2, lastO_snoc]
      simp only [decide_eq_true h0, if_true, decide_eq_true (idx_in (pre' ++ [p]) k suf)]
      cases nameB k <;> cases (Op.bytesLess k.toList p.toList || k.toList == p.toList) <;> simp
theorem ref07_named_ms (e : DExpr) (hx : e.ms.length ≤ big) (hy : e.by_.length ≤ big) : ∀ (suf pre : List DMatcher), e.ms = pre ++ suf → P_ref07_named_0 L0 ((pre.length : Int), e) = some (suf.all matcherB && bysB e.by_)
  | [], pre, he => by
    refine go_ref07_named_0 _ _ ?_
    unfold B_ref07_named_0
    have := ref07_named_by e hy e.by_ [] rfl
    replace this : P_ref07_named_1 L0 (0, e) = some (bysFrom (lastO []) e.by_) := this
    simp [he, this, bysB, lastO]
  | k :: suf, pre, he => by
    refine go_ref07_named_0 _ _ ?_
    unfold B_ref07_named_0
    have ih := ref07_named_ms e hx hy suf (pre ++ [k]) (by simp [he])
    have hx' := hx
    rw [he] at hx'
    simp only [eE_eq, he]
    rw [if_pos (decide_eq_true (idx_lt pre k suf)), if_pos (decide_eq_true (idx_in pre k suf)), rdx_mid .matcher, ref05_ValidMatcher_ok, idx_step pre k suf hx', ih]
    simp only [Option.bind_some, List.all_cons]
    cases matcherB k <;> simp
theorem ref07_Groups_ok : S_ref07_Groups L0 () = some wGroups := by
  refine go_ref07_Groups ?_
  rfl
theorem ref07_named_ok {e : DExpr} (hx : e.ms.length ≤ big) (hy : e.by_.length ≤ big) : S_ref07_named L0 e = some (namedB e) := by
  refine go_ref07_named _ ?_
  unfold B_ref07_named namedB
  have hm := ref07_named_ms e hx hy e.ms [] rfl
  replace hm : P_ref07_named_0 L0 (0, e) = some (e.ms.all matcherB && bysB e.by_) := hm
  have hg : ∀ s, decide (findI s wGroups 0 ≥ 0) = hasS wGroups s := fun s => rfl
  simp only [eE_eq, hm, ref05_Name_ok, ref07_Groups_ok, ref07_find_ok (l := wGroups) e.name (by decide), Option.bind_some, hg]
  by_cases hk : e.kind = 1
  · simp only [hk, beq_self_eq_true, if_true, decide_true, Bool.not_true, Bool.false_or]
    cases nameB e.name <;> cases hasS wGroups e.name <;> simp
  · have : (e.kind == 1) = false := by simpa using hk
    simp [hk]
end Go.AM
/-
  Fractions in lowest terms: what the program's and the reference's functions compute.
-/
namespace Go.AM
open Go
set_option maxRecDepth 100000
def I64 (n : Int) : Prop := -9223372036854775808 ≤ n ∧ n ≤ 9223372036854775807
theorem size_wrap {n : Int} (h : I64 n) : (if n < 0 then some (IntKind.wrap .u64 (0 - IntKind.wrap .u64 n)) else some (IntKind.wrap .u64 n)) = some (n.natAbs : Int) := by
  obtain ⟨h1, h2⟩ := h
  simp only [IntKind.wrap, IntKind.bits, IntKind.signed]
  simp
  split
  · congr 1; omega
  · congr 1; omega
theorem frac_size_ok {n : Int} (h : I64 n) : S_frac_size L0 n = some (n.natAbs : Int) := by
  refine go_frac_size _ ?_
  unfold B_frac_size
  rw [← size_wrap h]
  simp only [decide_eq_true_eq]
theorem ref03_Size_ok {n : Int} (h : I64 n) : S_ref03_Size L0 n = some (n.natAbs : Int) := by
  refine go_ref03_Size _ ?_
  unfold B_ref03_Size
  rw [← size_wrap h]
  simp only [decide_eq_true_eq]
theorem frac_gcd_loop : ∀ (b a : Nat), P_frac_gcd_uint64_0 L0 ((a : Int), (b : Int)) = some ((Nat.gcd b a : Nat) : Int) := by
  intro b
  induction b using Nat.strongRecOn with
  | _ b ih =>
    intro a
    refine go_frac_gcd_uint64_0 _ _ ?_
    unfold B_frac_gcd_uint64_0
    cases b with
    | zero => simp
    | succ b =>
      have h1 : (((b + 1 : Nat) : Int) != 0) = true := by simp; omega
      have h2 : ((b + 1 : Nat) : Int) ≠ 0 := by omega
      have h3 : Int.tmod (a : Int) ((b + 1 : Nat) : Int) = ((a % (b + 1) : Nat) : Int) := rfl
      have := ih (a % (b + 1)) (Nat.mod_lt _ (by omega)) (b + 1)
      rw [if_pos h1, if_pos (decide_eq_true h2), h3, this, Nat.gcd_rec (b + 1) a]
theorem frac_gcd_ok (a b : Nat) : S_frac_gcd_uint64 L0 ((a : Int), (b : Int)) = some ((Nat.gcd a b : Nat) : Int) := by
  refine go_frac_gcd_uint64 _ _ ?_
  unfold B_frac_gcd_uint64
  rw [frac_gcd_loop, Nat.gcd_comm]
theorem ref03_common_loop : ∀ (b a : Nat), P_ref03_common_0 L0 ((a : Int), (b : Int)) = some ((Nat.gcd b a : Nat) : Int) := by
  intro b
  induction b using Nat.strongRecOn with
  | _ b ih =>
    intro a
    refine go_ref03_common_0 _ _ ?_
    unfold B_ref03_common_0
    cases b with
    | zero => simp
    | succ b =>
      have h1 : (((b + 1 : Nat) : Int) != 0) = true := by simp; omega
      have h2 : ((b + 1 : Nat) : Int) ≠ 0 := by omega
      have h3 : Int.tmod (a : Int) ((b + 1 : Nat) : Int) = ((a % (b + 1) : Nat) : Int) := rfl
      have := ih (a % (b + 1)) (Nat.mod_lt _ (by omega)) (b + 1)
      rw [if_pos h1, if_pos (decide_eq_true h2), h3, this, Nat.gcd_rec (b + 1) a]
theorem ref03_common_ok (a b : Nat) : S_ref03_common L0 ((a : Int), (b : Int)) = some ((Nat.gcd a b : Nat) : Int) := by
  refine go_ref03_common _ _ ?_
  unfold B_ref03_common
  rw [ref03_common_loop, Nat.gcd_comm]
/-- What is a fraction in lowest terms. -/
def fracB (x : DFrac) : Bool := decide (1 ≤ x.den) && decide (x.den ≤ 4611686018427387904) && decide (x.num.natAbs ≤ 4611686018427387904) && decide (Nat.gcd x.num.natAbs x.den.natAbs = 1)
theorem frac_Valid_ok {x : DFrac} (hn : I64 x.num) (hd : I64 x.den) : S_frac_Valid L0 x = some (fracB x) := by
  refine go_frac_Valid _ ?_
  unfold B_frac_Valid fracB
  rw [frac_size_ok hn]
  obtain ⟨h1, h2⟩ := hd
  by_cases c1 : x.den < 1
  · have : ¬ 1 ≤ x.den := by omega
    simp [c1, this]
  by_cases c2 : x.den > 4611686018427387904
  · have : ¬ x.den ≤ 4611686018427387904 := by omega
    simp [c1, c2, this]
  have e1 : 1 ≤ x.den := by omega
  have e2 : x.den ≤ 4611686018427387904 := by omega
  have e3 : IntKind.wrap .u64 x.den = (x.den.natAbs : Int) := by rw [wrapu64 (by omega) (by omega)]; omega
  simp only [c1, c2, e1, e2, decide_false, decide_true, Bool.false_eq_true, if_false, Option.bind_some, Bool.true_and, e3, frac_gcd_ok]
  by_cases c3 : x.num.natAbs ≤ 4611686018427387904
  · have : ¬ (x.num.natAbs : Int) > 4611686018427387904 := by omega
    simp only [this, c3, decide_false, decide_true, Bool.false_eq_true, if_false, Bool.true_and, Option.some.injEq]
    rw [Bool.eq_iff_iff, beq_iff_eq, decide_eq_true_iff]
    omega
  · have : (x.num.natAbs : Int) > 4611686018427387904 := by omega
    simp [this, c3]
theorem ref03_Valid_ok {x : DFrac} (hn : I64 x.num) (hd : I64 x.den) : S_ref03_Valid L0 x = some (fracB x) := by
  refine go_ref03_Valid _ ?_
  unfold B_ref03_Valid fracB
  by_cases c1 : x.den < 1
  · have : ¬ 1 ≤ x.den := by omega
    simp [c1, this]
  have e1 : 1 ≤ x.den := by omega
  simp only [c1, e1, decide_false, decide_true, Bool.false_eq_true, if_false, Bool.true_and]
  have hN : ∃ r, S_ref03_New L0 (x.num, x.den) = some r ∧ (if (r.2 == 0) = true then some (allB [x.num == r.1.num, x.den == r.1.den]) else some false) = some (decide (x.den ≤ 4611686018427387904) && decide (x.num.natAbs ≤ 4611686018427387904) && decide (Nat.gcd x.num.natAbs x.den.natAbs = 1)) := by
    have hd0 : (x.den == 0) = false := by simp; omega
    obtain ⟨h1, h2⟩ := hd
    obtain ⟨n1, n2⟩ := hn
    have hdn : (x.den.natAbs : Int) = x.den := by omega
    have hg : 0 < Nat.gcd x.num.natAbs x.den.natAbs := Nat.gcd_pos_of_pos_right _ (by omega)
    have hgd := Nat.gcd_dvd_right x.num.natAbs x.den.natAbs
    have hgn := Nat.gcd_dvd_left x.num.natAbs x.den.natAbs
    obtain ⟨g, hG⟩ : ∃ g, Nat.gcd x.num.natAbs x.den.natAbs = g := ⟨_, rfl⟩
    rw [hG] at hg hgd hgn
    simp only [hG]
    obtain ⟨d', hd'⟩ := hgd
    obtain ⟨n', hn'⟩ := hgn
    have dq : x.den.natAbs / g = d' := by rw [hd']; exact Nat.mul_div_cancel_left _ hg
    have nq : x.num.natAbs / g = n' := by rw [hn']; exact Nat.mul_div_cancel_left _ hg
    have t1 : Int.tdiv (x.den.natAbs : Int) (g : Int) = (d' : Int) := by rw [← dq]; rfl
    have t2 : Int.tdiv (x.num.natAbs : Int) (g : Int) = (n' : Int) := by rw [← nq]; rfl
    have bd : d' ≤ x.den.natAbs := by rw [← dq]; exact Nat.div_le_self _ _
    have bn : n' ≤ x.num.natAbs := by rw [← nq]; exact Nat.div_le_self _ _
    have w1 : IntKind.wrap .u64 (d' : Int) = d' := wrapu64 (by omega) (by omega)
    have w2 : IntKind.wrap .u64 (n' : Int) = n' := wrapu64 (by omega) (by omega)
    have g0 : (g : Int) ≠ 0 := by omega
    have hbody : ∀ z, B_ref03_New L0 x.num x.den = some z → S_ref03_New L0 (x.num, x.den) = some z := fun z h => go_ref03_New _ _ h
    unfold B_ref03_New at hbody
    rw [ref03_Size_ok ⟨n1, n2⟩, ref03_Size_ok ⟨h1, h2⟩] at hbody
    simp only [hd0, Bool.false_eq_true, if_false, Option.bind_some, ref03_common_ok, hG] at hbody
    by_cases c2 : (x.num.natAbs : Int) > 9223372036854775807
    · simp only [c2, decide_true, if_true] at hbody
      refine ⟨_, hbody _ rfl, ?_⟩
      have : ¬ x.num.natAbs ≤ 4611686018427387904 := by omega
      simp [this]
    have c3 : ¬ (x.den.natAbs : Int) > 9223372036854775807 := by omega
    simp only [c2, c3, decide_false, Bool.false_eq_true, if_false, g0, ne_eq, not_false_eq_true, decide_true, if_true, t1, t2, w1, w2] at hbody
    by_cases c4 : (n' : Int) > 4611686018427387904
    · simp only [c4, decide_true, if_true] at hbody
      refine ⟨_, hbody _ rfl, ?_⟩
      have : ¬ x.num.natAbs ≤ 4611686018427387904 := by omega
      simp [this]
    by_cases c5 : (d' : Int) > 4611686018427387904
    · simp only [c4, c5, decide_false, Bool.false_eq_true, if_false, decide_true, if_true] at hbody
      refine ⟨_, hbody _ rfl, ?_⟩
      have : ¬ x.den ≤ 4611686018427387904 := by omega
      simp [this]
    simp only [c4, c5, decide_false, Bool.false_eq_true, if_false] at hbody
    have w3 : IntKind.wrap .i64 (d' : Int) = d' := wrap64 (by omega) (by omega)
    have w4 : IntKind.wrap .i64 (n' : Int) = n' := wrap64 (by omega) (by omega)
    have w5 : IntKind.wrap .i64 (0 - (n' : Int)) = 0 - (n' : Int) := wrap64 (by omega) (by omega)
    have c1' : decide (x.den < 0) = false := by simp; omega
    rw [w3, w4, w5, c1'] at hbody
    have key : g = 1 ↔ x.den = (d' : Int) := by
      constructor
      · rintro rfl; omega
      · intro h
        have h' : x.den.natAbs = d' := by omega
        rw [h'] at hd'
        have hpos : 0 < d' := by omega
        rcases Nat.lt_or_ge 1 g with hlt | hge
        · have := Nat.mul_le_mul_right d' (show 2 ≤ g from hlt)
          omega
        · omega
    by_cases c6 : x.num < 0
    · simp only [c6, decide_true, Bool.true_beq, Bool.not_false, if_true] at hbody
      refine ⟨_, hbody _ rfl, ?_⟩
      simp only [beq_self_eq_true, if_true, Option.some.injEq, allB]
      rw [Bool.eq_iff_iff]
      simp only [Bool.and_eq_true, beq_iff_eq, decide_eq_true_eq]
      constructor
      · rintro ⟨ha, hb⟩
        have := key.2 hb
        exact ⟨⟨by omega, by omega⟩, this⟩
      · rintro ⟨⟨ha, hb⟩, hc⟩
        have := key.1 hc
        subst hc
        exact ⟨by omega, this⟩
    · simp only [c6, decide_false, Bool.false_beq, Bool.not_false, Bool.not_true, Bool.false_eq_true, if_false] at hbody
      refine ⟨_, hbody _ rfl, ?_⟩
      simp only [beq_self_eq_true, if_true, Option.some.injEq, allB]
      rw [Bool.eq_iff_iff]
      simp only [Bool.and_eq_true, beq_iff_eq, decide_eq_true_eq]
      constructor
      · rintro ⟨ha, hb⟩
        have := key.2 hb
        exact ⟨⟨by omega, by omega⟩, this⟩
      · rintro ⟨⟨ha, hb⟩, hc⟩
        have := key.1 hc
        subst hc
        exact ⟨by omega, this⟩
  obtain ⟨⟨r1, r2⟩, h1, h2⟩ := hN
  rw [h1]
  exact h2
end Go.AM
/-
  Valid trees: the program's Valid and the reference's compute the same.
-/
namespace Go.AM
open Go
set_option maxRecDepth 100000
/-- What fits into memory, in a whole tree. -/
inductive Wf : DExpr → Prop
  | mk (e : DExpr) : I64 e.kind → I64 e.num.num → I64 e.num.den → e.ms.length ≤ big → e.by_.length ≤ big → (∀ k ∈ e.kids, Wf k) → Wf e
theorem Wf.sized {e : DExpr} (h : Wf e) : Sized e := by
  induction h with
  | mk e _ _ _ h1 h2 _ ih => exact .mk e h1 h2 ih
theorem Wf.kid {e k : DExpr} (h : Wf e) (hk : k ∈ e.kids) : Wf k := by cases h; rename_i h; exact h k hk
theorem Wf.kind {e : DExpr} (h : Wf e) : I64 e.kind := by cases h; assumption
theorem Wf.num {e : DExpr} (h : Wf e) : I64 e.num.num := by cases h; assumption
theorem Wf.den {e : DExpr} (h : Wf e) : I64 e.num.den := by cases h; assumption
noncomputable def shapedB (e : DExpr) : Bool :=
  if e.kind = 0 then fracB e.num && decide (e.fn = 0) && decide (e.kids.length = 0) && decide (e.window = 0) && decide (e.offset = 0) && decide (e.k = 0) && same e.name zeroS && decide (e.ms.length = 0) && decide (e.by_.length = 0)
  else if e.kind = 1 then decide (0 ≤ e.fn) && decide (e.fn ≤ 7) && decide (e.kids.length = 0) && decide (e.num.num = 0) && decide (e.num.den = 0) && decide (e.by_.length = 0)
  else if e.kind = 2 then decide (0 ≤ e.fn) && decide (e.fn ≤ 4) && decide (e.kids.length = 1) && decide (e.num.num = 0) && decide (e.num.den = 0) && decide (e.window = 0) && decide (e.offset = 0) && same e.name zeroS && decide (e.ms.length = 0)
  else if e.kind = 3 then decide (0 ≤ e.fn) && decide (e.fn ≤ 3) && decide (e.kids.length = 2) && decide (e.num.num = 0) && decide (e.num.den = 0) && decide (e.window = 0) && decide (e.offset = 0) && decide (e.k = 0) && same e.name zeroS && decide (e.ms.length = 0) && decide (e.by_.length = 0)
  else false
theorem same_zero {A : Type} (l : List A) : same l [] = decide (l.length = 0) := by
  rw [Bool.eq_iff_iff, same_iff, decide_eq_true_iff, List.length_eq_zero_iff]
theorem same_int (a b : Int) : same a b = decide (a = b) := by
  rw [Bool.eq_iff_iff, same_iff, decide_eq_true_iff]
theorem same_frac (x : DFrac) : same x ⟨0, 0⟩ = (decide (x.num = 0) && decide (x.den = 0)) := by
  cases x
  rw [Bool.eq_iff_iff]
  simp [same_iff]
abbrev E0 : DExpr := ⟨0, 0, 0, 0, 0, ⟨0, 0⟩, zeroS, [], [], []⟩
theorem equal_flat {e : DExpr} (h1 : e.ms.length ≤ big) (h2 : e.by_.length ≤ big) (hk : e.kids = []) : S_parser_Equal L0 (e, E0) = some (decide (e.kind = 0) && (decide (e.fn = 0) && (decide (e.window = 0) && (decide (e.offset = 0) && (decide (e.k = 0) && ((decide (e.num.num = 0) && decide (e.num.den = 0)) && (same e.name zeroS && (decide (e.ms.length = 0) && decide (e.by_.length = 0))))))))) := by
  have hn : nodes e = 1 := by rw [nodes_eq, hk, nodesL]
  rw [parser_Equal_ok 1 e E0 (by omega) (by unfold Few; rw [hn]; decide) (.mk e h1 h2 (by rw [hk]; intro k hk; cases hk)), expr_same]
  simp only [same_int, same_frac, same_zero, hk]
  simp
theorem parser_shaped_ok {e : DExpr} (h : Wf e) : S_parser_shaped L0 e = some (shapedB e) := by
  refine go_parser_shaped _ ?_
  unfold B_parser_shaped shapedB
  have hl : ∀ n : Nat, (((e.kids.length : Nat) : Int) == (n : Int)) = decide (e.kids.length = n) := fun n => by
    rw [Bool.eq_iff_iff, beq_iff_eq, decide_eq_true_iff]; omega
  have hl0 : (((e.kids.length : Nat) : Int) == 0) = decide (e.kids.length = 0) := hl 0
  have hl1 : (((e.kids.length : Nat) : Int) == 1) = decide (e.kids.length = 1) := hl 1
  have hl2 : (((e.kids.length : Nat) : Int) == 2) = decide (e.kids.length = 2) := hl 2
  have hs := h.sized
  rw [frac_Valid_ok h.num h.den, equal_flat (by exact hs.ms) (by exact hs.bys) rfl, equal_flat (Nat.zero_le _) (by exact hs.bys) rfl, equal_flat (by exact hs.ms) (Nat.zero_le _) rfl, equal_flat (by exact hs.ms) (by exact hs.bys) rfl]
  simp only [hl0, hl1, hl2, Option.bind_some]
  by_cases k0 : e.kind = 0
  · simp only [k0, beq_self_eq_true, if_true]
    by_cases f1 : e.fn = 0
    · cases fracB e.num <;> by_cases c1 : e.kids.length = 0 <;> simp [f1, c1, Bool.and_assoc]
    · cases fracB e.num
      · simp
      · by_cases g1 : e.fn ≥ 0
        · have g2 : ¬ e.fn ≤ 0 := by omega
          simp [f1, g1, g2]
        · simp [f1, g1]
  by_cases k1 : e.kind = 1
  · have e0 : ((1 : Int) == 0) = false := rfl
    simp only [k1, e0, beq_self_eq_true, if_true, Bool.false_eq_true, if_false, Int.one_ne_zero]
    by_cases f1 : e.fn ≥ 0 <;> by_cases f2 : e.fn ≤ 7 <;> by_cases c1 : e.kids.length = 0 <;> simp [f1, f2, c1, Bool.and_assoc, same_self]
  by_cases k2 : e.kind = 2
  · simp only [k2]
    by_cases f1 : e.fn ≥ 0 <;> by_cases f2 : e.fn ≤ 4 <;> by_cases c1 : e.kids.length = 1 <;> simp [f1, f2, c1, same_self] <;> ac_rfl
  by_cases k3 : e.kind = 3
  · simp only [k3]
    by_cases f1 : e.fn ≥ 0 <;> by_cases f2 : e.fn ≤ 3 <;> by_cases c1 : e.kids.length = 2 <;> simp [f1, f2, c1, same_self] <;> ac_rfl
  · simp [k0, k1, k2, k3]
theorem ref07_shaped_ok {e : DExpr} (h : Wf e) : S_ref07_shaped L0 e = some (shapedB e) := by
  refine go_ref07_shaped _ ?_
  unfold B_ref07_shaped shapedB
  have hl : ∀ n : Nat, (((e.kids.length : Nat) : Int) != (n : Int)) = !decide (e.kids.length = n) := fun n => by
    rw [Bool.eq_iff_iff]; simp; omega
  have hl0 : (((e.kids.length : Nat) : Int) != 0) = !decide (e.kids.length = 0) := hl 0
  have hl1 : (((e.kids.length : Nat) : Int) != 1) = !decide (e.kids.length = 1) := hl 1
  have hl2 : (((e.kids.length : Nat) : Int) != 2) = !decide (e.kids.length = 2) := hl 2
  have hb : (((e.by_.length : Nat) : Int) == 0) = decide (e.by_.length = 0) := by
    rw [Bool.eq_iff_iff, beq_iff_eq, decide_eq_true_iff]; omega
  have hm : decide (((e.ms.length : Nat) : Int) > 0) = !decide (e.ms.length = 0) := by
    rw [Bool.eq_iff_iff, decide_eq_true_iff, Bool.not_eq_true', decide_eq_false_iff_not]; omega
  rw [ref03_Valid_ok h.num h.den]
  simp only [hb, hm, str_same, Option.bind_some]
  by_cases n1 : e.kind < 0
  · have k0 : ¬ e.kind = 0 := by omega
    have k1 : ¬ e.kind = 1 := by omega
    have k2 : ¬ e.kind = 2 := by omega
    have k3 : ¬ e.kind = 3 := by omega
    simp [n1, k0, k1, k2, k3]
  by_cases n2 : e.kind > 3
  · have k0 : ¬ e.kind = 0 := by omega
    have k1 : ¬ e.kind = 1 := by omega
    have k2 : ¬ e.kind = 2 := by omega
    have k3 : ¬ e.kind = 3 := by omega
    simp [n1, n2, k0, k1, k2, k3]
  by_cases k0 : e.kind = 0
  · have t1 : rdx (.i .i64) ((1 : Int) :: (8 : Int) :: (5 : Int) :: (4 : Int) :: []) 0 = (1 : Int) := rfl
    have t2 : rdx (.i .i64) ((0 : Int) :: (0 : Int) :: (1 : Int) :: (2 : Int) :: []) 0 = (0 : Int) := rfl
    simp only [k0, t1, t2, hl0]
    by_cases f0 : e.fn < 0
    · have : ¬ e.fn = 0 := by omega
      simp [f0, this]
    by_cases f1 : e.fn = 0
    · cases fracB e.num <;> by_cases c1 : e.kids.length = 0 <;> by_cases c2 : e.window = 0 <;> by_cases c3 : e.offset = 0 <;> cases same e.name zeroS <;> by_cases c4 : e.ms.length = 0 <;> by_cases c5 : e.k = 0 <;> simp [f1, c1, c2, c3, c4, c5]
    · have : e.fn ≥ 1 := by omega
      simp [f0, f1, this]
  by_cases k1 : e.kind = 1
  · have t1 : rdx (.i .i64) ((1 : Int) :: (8 : Int) :: (5 : Int) :: (4 : Int) :: []) 1 = (8 : Int) := rfl
    have t2 : rdx (.i .i64) ((0 : Int) :: (0 : Int) :: (1 : Int) :: (2 : Int) :: []) 1 = (0 : Int) := rfl
    simp only [k1, t1, t2, hl0]
    by_cases f0 : e.fn < 0
    · have : ¬ 0 ≤ e.fn := by omega
      simp [f0, this]
    have f0' : 0 ≤ e.fn := by omega
    by_cases f1 : e.fn ≤ 7
    · have : ¬ e.fn ≥ 8 := by omega
      by_cases c1 : e.kids.length = 0 <;> by_cases c2 : e.num.num = 0 <;> by_cases c3 : e.num.den = 0 <;> simp [f0, f0', f1, this, c1, c2, c3]
    · have : e.fn ≥ 8 := by omega
      simp [f0, f1, this]
  by_cases k2 : e.kind = 2
  · have t1 : rdx (.i .i64) ((1 : Int) :: (8 : Int) :: (5 : Int) :: (4 : Int) :: []) 2 = (5 : Int) := rfl
    have t2 : rdx (.i .i64) ((0 : Int) :: (0 : Int) :: (1 : Int) :: (2 : Int) :: []) 2 = (1 : Int) := rfl
    simp only [k2, t1, t2, hl1]
    by_cases f0 : e.fn < 0
    · have : ¬ 0 ≤ e.fn := by omega
      simp [f0, this]
    have f0' : 0 ≤ e.fn := by omega
    by_cases f1 : e.fn ≤ 4
    · have : ¬ e.fn ≥ 5 := by omega
      by_cases c1 : e.kids.length = 1 <;> by_cases c2 : e.num.num = 0 <;> by_cases c3 : e.num.den = 0 <;> by_cases c4 : e.window = 0 <;> by_cases c5 : e.offset = 0 <;> cases same e.name zeroS <;> by_cases c6 : e.ms.length = 0 <;> simp [f0, f0', f1, this, c1, c2, c3, c4, c5, c6]
    · have : e.fn ≥ 5 := by omega
      simp [f0, f1, this]
  have k3 : e.kind = 3 := by omega
  have t1 : rdx (.i .i64) ((1 : Int) :: (8 : Int) :: (5 : Int) :: (4 : Int) :: []) 3 = (4 : Int) := rfl
  have t2 : rdx (.i .i64) ((0 : Int) :: (0 : Int) :: (1 : Int) :: (2 : Int) :: []) 3 = (2 : Int) := rfl
  simp only [k3, t1, t2, hl2]
  by_cases f0 : e.fn < 0
  · have : ¬ 0 ≤ e.fn := by omega
    simp [f0, this]
  have f0' : 0 ≤ e.fn := by omega
  by_cases f1 : e.fn ≤ 3
  · have : ¬ e.fn ≥ 4 := by omega
    by_cases c1 : e.kids.length = 2 <;> by_cases c2 : e.num.num = 0 <;> by_cases c3 : e.num.den = 0 <;> by_cases c4 : e.window = 0 <;> by_cases c5 : e.offset = 0 <;> by_cases c7 : e.k = 0 <;> cases same e.name zeroS <;> by_cases c6 : e.ms.length = 0 <;> simp [f0, f0', f1, this, c1, c2, c3, c4, c5, c6, c7]
  · have : e.fn ≥ 4 := by omega
    simp [f0, f1, this]
end Go.AM
/-
  Valid trees, the end: the program's Valid and the reference's compute the same.
-/
namespace Go.AM
open Go
set_option maxRecDepth 100000
def rangedB (e : DExpr) : Bool :=
  if e.kind = 1 then
    decide (0 ≤ e.offset) && decide (e.offset ≤ 4096) && (if e.fn = 0 then decide (e.window = 0) && decide (e.k = 0) else
      decide (1 ≤ e.window) && decide (e.window ≤ 4096) && (if e.fn = 7 then decide (1 ≤ e.k) && decide (e.k ≤ e.window) else decide (e.k = 0)))
  else if e.kind = 2 ∧ e.fn = 4 then decide (1 ≤ e.k) && decide (e.k ≤ 4096) else decide (e.k = 0)
theorem parser_between_ok (a b c : Int) : S_parser_between L0 (a, (b, c)) = some (decide (a ≤ b) && decide (b ≤ c)) := by
  refine go_parser_between _ _ _ ?_
  unfold B_parser_between
  by_cases h : a ≤ b <;> simp [h]
theorem parser_ranged_ok (e : DExpr) : S_parser_ranged L0 e = some (rangedB e) := by
  refine go_parser_ranged _ ?_
  unfold B_parser_ranged rangedB
  simp only [parser_between_ok, Option.bind_some, bne]
  have b0 : (e.k == 0) = decide (e.k = 0) := by rw [Bool.eq_iff_iff, beq_iff_eq, decide_eq_true_iff]
  have b1 : (e.window == 0) = decide (e.window = 0) := by rw [Bool.eq_iff_iff, beq_iff_eq, decide_eq_true_iff]
  rw [b0, b1]
  by_cases k1 : e.kind = 1
  · simp only [k1]
    by_cases c1 : 0 ≤ e.offset <;> by_cases c2 : e.offset ≤ 4096 <;> by_cases f0 : e.fn = 0 <;> by_cases f7 : e.fn = 7 <;> by_cases c3 : e.window = 0 <;> by_cases c4 : 1 ≤ e.window <;> by_cases c5 : e.window ≤ 4096 <;> simp [c1, c2, f0, f7, c3, c4, c5]
  by_cases k2 : e.kind = 2
  · by_cases f4 : e.fn = 4 <;> simp [k2, f4]
  · simp [k1, k2]
theorem ref07_within_ok (e : DExpr) : S_ref07_within L0 e = some (rangedB e) := by
  refine go_ref07_within _ ?_
  unfold B_ref07_within rangedB
  have b0 : (e.k == 0) = decide (e.k = 0) := by rw [Bool.eq_iff_iff, beq_iff_eq, decide_eq_true_iff]
  have b1 : (e.window == 0) = decide (e.window = 0) := by rw [Bool.eq_iff_iff, beq_iff_eq, decide_eq_true_iff]
  rw [b0, b1]
  by_cases k1 : e.kind = 1
  · simp only [k1]
    by_cases c1 : e.offset < 0
    · have : ¬ 0 ≤ e.offset := by omega
      simp [c1, this]
    have c1' : 0 ≤ e.offset := by omega
    by_cases c2 : e.offset > 4096
    · have : ¬ e.offset ≤ 4096 := by omega
      simp [c1, c2, this]
    have c2' : e.offset ≤ 4096 := by omega
    by_cases f0 : e.fn = 0
    · by_cases c3 : e.window = 0 <;> simp [c1, c1', c2, c2', f0, c3]
    by_cases c4 : e.window < 1
    · have : ¬ 1 ≤ e.window := by omega
      simp [c1, c2, f0, c4, this]
    have c4' : 1 ≤ e.window := by omega
    by_cases c5 : e.window > 4096
    · have : ¬ e.window ≤ 4096 := by omega
      simp [c1, c2, f0, c4, c5, this]
    have c5' : e.window ≤ 4096 := by omega
    by_cases f7 : e.fn = 7 <;> by_cases c6 : 1 ≤ e.k <;> simp [c1, c1', c2, c2', f0, c4, c4', c5, c5', f7, c6]
  by_cases k2 : e.kind = 2
  · by_cases f4 : e.fn = 4 <;> by_cases c6 : 1 ≤ e.k <;> simp [k2, f4, c6]
  · simp [k1, k2]
theorem ref07_tooLarge {e : DExpr} (h : Few e) : (∃ b, S_ref07_Depth L0 e = some (depth e : Int) ∧ S_ref07_Nodes L0 e = some (nodes e : Int) ∧ b = large e) := ⟨_, ref07_Depth_ok _ e (Nat.le_refl _) h, ref07_Nodes_ok _ e (Nat.le_refl _) h, rfl⟩
mutual
/-- The first error of a node or of its kids. -/
noncomputable def validC : DExpr → Int
  | e@⟨_, _, _, _, _, _, _, ms, bys, kids⟩ =>
    if shapedB e = false then 1 else if namedB e = false then 8 else if ms.length > 8 then 4 else if bys.length > 8 then 4 else if rangedB e = false then 5 else validL kids
noncomputable def validL : List DExpr → Int
  | [] => 0
  | k :: r => if validC k = 0 then validL r else validC k
end
theorem validC_eq (e : DExpr) : validC e = if shapedB e = false then 1 else if namedB e = false then 8 else if e.ms.length > 8 then 4 else if e.by_.length > 8 then 4 else if rangedB e = false then 5 else validL e.kids := by
  cases e; rw [validC]
/-- The first error of a tree. -/
noncomputable def ValidC (e : DExpr) : Int := if large e = true then 4 else validC e
theorem parser_valid_loop (xs : List DExpr) (hx : xs.length ≤ big) (h : ∀ k ∈ xs, S_parser_valid L0 k = some (validC k)) : ∀ (suf pre : List DExpr), xs = pre ++ suf → P_parser_valid_0 L0 (xs, ((xs.length : Int), (pre.length : Int))) = some (validL suf)
  | [], pre, he => by
    refine go_parser_valid_0 _ _ _ ?_
    unfold B_parser_valid_0
    simp [he, validL]
  | k :: suf, pre, he => by
    refine go_parser_valid_0 _ _ _ ?_
    unfold B_parser_valid_0
    subst he
    rw [if_pos (decide_eq_true (idx_lt pre k suf)), if_pos (decide_eq_true (idx_in pre k suf)), rdx_mid .expr, eE_eq, h k (by simp)]
    have := parser_valid_loop (pre ++ k :: suf) hx h suf (pre ++ [k]) (by simp)
    simp only [Option.bind_some]
    rw [idx_step pre k suf hx, this, validL]
    by_cases h0 : validC k = 0 <;> simp [h0]
theorem parser_valid_ok : ∀ n, ∀ e : DExpr, nodes e ≤ n → Few e → Wf e → S_parser_valid L0 e = some (validC e) := by
  intro n
  induction n with
  | zero => intro e h; have := nodes_pos e; omega
  | succ n ih =>
    intro e h hf hw
    refine go_parser_valid _ ?_
    unfold B_parser_valid
    have hn := nodes_eq e
    have hl := parser_valid_loop e.kids hf.kids (fun k hk => ih k (by have := nodes_mem hk; omega) (hf.mem hk) (hw.kid hk)) e.kids [] rfl
    replace hl : P_parser_valid_0 L0 (e.kids, ((e.kids.length : Int), 0)) = some (validL e.kids) := hl
    simp only [eE_eq, parser_shaped_ok hw, parser_named_ok hw.sized.ms hw.sized.bys, parser_ranged_ok, hl, Option.bind_some]
    rw [validC_eq]
    have m1 : decide (((e.ms.length : Nat) : Int) > 8) = decide (e.ms.length > 8) := by rw [Bool.eq_iff_iff, decide_eq_true_iff, decide_eq_true_iff]; omega
    have m2 : decide (((e.by_.length : Nat) : Int) > 8) = decide (e.by_.length > 8) := by rw [Bool.eq_iff_iff, decide_eq_true_iff, decide_eq_true_iff]; omega
    rw [m1, m2]
    cases shapedB e <;> cases namedB e <;> by_cases c1 : e.ms.length > 8 <;> by_cases c2 : e.by_.length > 8 <;> cases rangedB e <;> simp [c1, c2]
theorem ref07_valid_loop (e : DExpr) (hx : e.kids.length ≤ big) (h : ∀ k ∈ e.kids, S_ref07_valid L0 k = some (validC k)) : ∀ (suf pre : List DExpr), e.kids = pre ++ suf → P_ref07_valid_0 L0 ((pre.length : Int), e) = some (validL suf)
  | [], pre, he => by
    refine go_ref07_valid_0 _ _ ?_
    unfold B_ref07_valid_0
    simp [he, validL]
  | k :: suf, pre, he => by
    refine go_ref07_valid_0 _ _ ?_
    unfold B_ref07_valid_0
    have ih := ref07_valid_loop e hx h suf (pre ++ [k]) (by simp [he])
    have hk := h k (by rw [he]; simp)
    have hx' := hx
    rw [he] at hx'
    simp only [eE_eq, he]
    rw [if_pos (decide_eq_true (idx_lt pre k suf)), if_pos (decide_eq_true (idx_in pre k suf)), rdx_mid .expr, hk]
    simp only [Option.bind_some]
    rw [idx_step pre k suf hx', ih, validL]
    by_cases h0 : validC k = 0 <;> simp [h0]
theorem ref07_valid_ok : ∀ n, ∀ e : DExpr, nodes e ≤ n → Few e → Wf e → S_ref07_valid L0 e = some (validC e) := by
  intro n
  induction n with
  | zero => intro e h; have := nodes_pos e; omega
  | succ n ih =>
    intro e h hf hw
    refine go_ref07_valid _ ?_
    unfold B_ref07_valid
    have hn := nodes_eq e
    have hl := ref07_valid_loop e hf.kids (fun k hk => ih k (by have := nodes_mem hk; omega) (hf.mem hk) (hw.kid hk)) e.kids [] rfl
    replace hl : P_ref07_valid_0 L0 (0, e) = some (validL e.kids) := hl
    simp only [eE_eq, ref07_shaped_ok hw, ref07_named_ok hw.sized.ms hw.sized.bys, ref07_within_ok, hl, Option.bind_some]
    rw [validC_eq]
    have m1 : decide (((e.ms.length : Nat) : Int) > 8) = decide (e.ms.length > 8) := by rw [Bool.eq_iff_iff, decide_eq_true_iff, decide_eq_true_iff]; omega
    have m2 : decide (((e.by_.length : Nat) : Int) > 8) = decide (e.by_.length > 8) := by rw [Bool.eq_iff_iff, decide_eq_true_iff, decide_eq_true_iff]; omega
    rw [m1, m2]
    cases shapedB e <;> cases namedB e <;> by_cases c1 : e.ms.length > 8 <;> by_cases c2 : e.by_.length > 8 <;> cases rangedB e <;> simp [c1, c2]
theorem parser_Valid_ok {e : DExpr} (hf : Few e) (hw : Wf e) : S_parser_Valid L0 e = some (ValidC e) := by
  refine go_parser_Valid _ ?_
  unfold B_parser_Valid ValidC
  simp only [eE_eq, parser_tooLarge_ok hf, parser_valid_ok _ e (Nat.le_refl _) hf hw, Option.bind_some]
  split <;> rfl
theorem ref07_Valid_ok {e : DExpr} (hf : Few e) (hw : Wf e) : S_ref07_Valid L0 e = some (ValidC e) := by
  refine go_ref07_Valid _ ?_
  unfold B_ref07_Valid ValidC large
  simp only [eE_eq, ref07_Depth_ok _ e (Nat.le_refl _) hf, ref07_Nodes_ok _ e (Nat.le_refl _) hf, ref07_valid_ok _ e (Nat.le_refl _) hf hw, Option.bind_some]
  have m1 : decide (((depth e : Nat) : Int) > 12) = decide (depth e > 12) := by rw [Bool.eq_iff_iff, decide_eq_true_iff, decide_eq_true_iff]; omega
  have m2 : decide (((nodes e : Nat) : Int) > 200) = decide (nodes e > 200) := by rw [Bool.eq_iff_iff, decide_eq_true_iff, decide_eq_true_iff]; omega
  rw [m1, m2]
  cases decide (depth e > 12) <;> cases decide (nodes e > 200) <;> simp
end Go.AM
/-
  The stack machine: what the program's Tree and the reference's compute.
-/
namespace Go.AM
open Go
set_option maxRecDepth 100000
/-- An instruction that fits into memory. -/
structure WfI (i : DIns) : Prop where
  kind : I64 i.kind
  num : I64 i.num.num
  den : I64 i.num.den
  ms : i.ms.length * 40 ≤ big
  bys : i.by_.length * 16 ≤ big
def exprOf (i : DIns) (kids : List DExpr) : DExpr := ⟨i.kind, i.fn, i.window, i.offset, i.k, i.num, i.name, i.ms, i.by_, kids⟩
def pops (k : Int) : Nat := if k = 2 then 1 else if k = 3 then 2 else 0
/-- One instruction; all of them. -/
def plant (i : DIns) (st : List DExpr) : Option (List DExpr) :=
  if i.kind < 0 ∨ i.kind > 3 ∨ st.length < pops i.kind then none
  else some (st.take (st.length - pops i.kind) ++ [exprOf i (st.drop (st.length - pops i.kind))])
def foldT : List DIns → List DExpr → Option (List DExpr)
  | [], st => some st
  | i :: p, st => (plant i st).bind (foldT p)
noncomputable def endT : Option (List DExpr) → DExpr × Int
  | some [e] => if ValidC e = 0 then (e, 0) else (E0, ValidC e)
  | _ => (E0, 1)
/-- The tree of a plan. -/
noncomputable def treeC (p : List DIns) : DExpr × Int := if p.length > 200 then (E0, 4) else endT (foldT p [])
theorem split_end (st : List DExpr) (k : Nat) (h : k ≤ st.length) : ∃ a b, st = a ++ b ∧ b.length = k := ⟨st.take (st.length - k), st.drop (st.length - k), by simp, by simp; omega⟩
theorem plant_app {i : DIns} {a b : List DExpr} (h0 : 0 ≤ i.kind) (h1 : i.kind ≤ 3) (hb : b.length = pops i.kind) : plant i (a ++ b) = some (a ++ [exprOf i b]) := by
  unfold plant
  have e : (a ++ b).length - pops i.kind = a.length := by simp [hb]
  rw [if_neg (by rw [List.length_append]; omega), e]
  simp
theorem wrap_len (a b : List DExpr) (k : Int) (hk : (b.length : Int) = k) : IntKind.wrap .i64 ((((a ++ b).length : Nat) : Int) - k) = (a.length : Int) ∨ big < (a ++ b).length := by
  by_cases h : (a ++ b).length ≤ big
  · left
    simp only [List.length_append] at h ⊢
    unfold big at h
    rw [wrap64 (by omega) (by omega)]
    omega
  · right; omega
theorem Wf.of_ins {i : DIns} {kids : List DExpr} (h : WfI i) (hk : ∀ k ∈ kids, Wf k) : Wf (exprOf i kids) := by
  have h1 := h.ms
  have h2 := h.bys
  unfold big at h1 h2
  exact .mk _ h.kind h.num h.den (show i.ms.length ≤ big by unfold big; omega) (show i.by_.length ≤ big by unfold big; omega) hk
theorem nodes_exprOf (i : DIns) (kids : List DExpr) : nodes (exprOf i kids) = 1 + nodesL kids := by rw [nodes_eq]; rfl
theorem plan_Tree_loop (p : List DIns) (hp : p.length ≤ 200) (hw : ∀ i ∈ p, WfI i) : ∀ (suf pre : List DIns) (st : List DExpr) (z3 z4 z5 z6 z7 z8 z9 : Int) (z10 : ByteArray) (z11 : List DMatcher) (z12 : List ByteArray) (z13 : List DExpr), p = pre ++ suf → nodesL st ≤ pre.length → (∀ e ∈ st, Wf e) →
    P_plan_Tree_0 L0 ((p, ((p.length : Int), (pre.length : Int))), ((z3, (z4, (z5, (z6, (z7, (z8, (z9, z10))))))), (z11, (z12, (z13, st))))) = some (endT (foldT suf st))
  | [], pre, st, z3, z4, z5, z6, z7, z8, z9, z10, z11, z12, z13, he, hn, hs => by
    refine go_plan_Tree_0 _ _ _ _ _ _ _ _ _ _ _ _ _ _ _ ?_
    unfold B_plan_Tree_0
    have hlt : ¬ (pre.length : Int) < (p.length : Int) := by rw [he]; simp
    rw [if_neg (by simpa using hlt)]
    simp only [foldT]
    match st, hn, hs with
    | [], _, _ => rfl
    | [e], hn, hs =>
      have hf : Few e := by
        simp only [nodesL] at hn
        have : p.length = pre.length := by rw [he]; simp
        unfold Few big; omega
      have hv := parser_Valid_ok hf (hs e (by simp))
      simp only [eE_eq, List.getD_cons_zero, hv, Option.bind_some, endT]
      by_cases h0 : ValidC e = 0 <;> simp [h0]
    | a :: b :: r, _, _ =>
      have : ((((a :: b :: r).length : Nat) : Int) != 1) = true := by simp; omega
      rw [if_pos this]
      rfl
  | i :: suf, pre, st, z3, z4, z5, z6, z7, z8, z9, z10, z11, z12, z13, he, hn, hs => by
    refine go_plan_Tree_0 _ _ _ _ _ _ _ _ _ _ _ _ _ _ _ ?_
    unfold B_plan_Tree_0
    have hi : WfI i := hw i (by rw [he]; simp)
    have ih := fun st' h1 h2 => plan_Tree_loop p hp hw suf (pre ++ [i]) st' z3 z4 z5 z6 z7 z8 z9 z10 z11 z12 z13 (by simp [he]) h1 h2
    have hp' : (pre ++ i :: suf).length ≤ big := by rw [← he]; unfold big; omega
    have hlen : pre.length < p.length := by rw [he]; simp
    have hst : st.length ≤ 200 := by have := length_nodesL st; omega
    rw [he] at ih
    simp only [he]
    rw [if_pos (decide_eq_true (idx_lt pre i suf)), if_pos (decide_eq_true (idx_in pre i suf)), rdx_mid .ins, idx_step pre i suf hp']
    have hm := hi.ms
    have hb' := hi.bys
    rw [show (i.ms.length * 40 ≤ big) = (i.ms.length * 40 ≤ 140737488355328) from rfl] at hm
    rw [show (i.by_.length * 16 ≤ big) = (i.by_.length * 16 ≤ 140737488355328) from rfl] at hb'
    simp only [foldT]
    by_cases hk : i.kind < 0 ∨ i.kind > 3
    · have n0 : (i.kind == 0) = false := by simp; omega
      have n1 : (i.kind == 1) = false := by simp; omega
      have n2 : (i.kind == 2) = false := by simp; omega
      have n3 : (i.kind == 3) = false := by simp; omega
      have : plant i st = none := by unfold plant; rw [if_pos (by omega)]
      simp only [n0, n1, n2, n3, this, Bool.false_eq_true, if_false, Option.bind_none]
      rfl
    by_cases hl : st.length < pops i.kind
    · have : plant i st = none := by unfold plant; rw [if_pos (by omega)]
      rw [this, Option.bind_none]
      unfold pops at hl
      by_cases k2 : i.kind = 2
      · rw [if_pos k2] at hl
        have hw1 : IntKind.wrap .i64 ((st.length : Int) - 1) = (st.length : Int) - 1 := wrap64 (by omega) (by omega)
        have hlt : (st.length : Int) - 1 < 0 := by omega
        simp only [k2, hw1, hlt]
        rfl
      · rw [if_neg k2] at hl
        by_cases k3 : i.kind = 3
        · rw [if_pos k3] at hl
          have hw1 : IntKind.wrap .i64 ((st.length : Int) - 2) = (st.length : Int) - 2 := wrap64 (by omega) (by omega)
          have hlt : (st.length : Int) - 2 < 0 := by omega
          simp only [k3, hw1, hlt]
          rfl
        · rw [if_neg k3] at hl; omega
    obtain ⟨a, b, hab, hbl⟩ := split_end st (pops i.kind) (by omega)
    subst hab
    have hstep := plant_app (a := a) (b := b) (i := i) (by omega) (by omega) hbl
    have hnn : nodesL (a ++ [exprOf i b]) ≤ (pre ++ [i]).length := by
      rw [nodesL_append] at hn ⊢
      simp only [nodesL, nodes_exprOf, List.length_append, List.length_cons, List.length_nil]
      omega
    have hww : ∀ e ∈ a ++ [exprOf i b], Wf e := by
      intro e he'
      rcases List.mem_append.1 he' with h | h
      · exact hs e (List.mem_append.2 (.inl h))
      · rw [List.mem_singleton.1 h]
        exact Wf.of_ins hi (fun k hk => hs k (List.mem_append.2 (.inr hk)))
    have ih' := ih (a ++ [exprOf i b]) hnn hww
    rw [hstep, Option.bind_some, ← ih']
    have hal : a.length + b.length ≤ 200 := by simpa using hst
    have hW : ∀ k : Int, (b.length : Int) = k → IntKind.wrap .i64 ((((a ++ b).length : Nat) : Int) - k) = (a.length : Int) := fun k hk => by
      rw [List.length_append, wrap64 (by omega) (by omega)]
      omega
    have t1 : Int.toNat ((((a ++ b).length : Nat) : Int) - (a.length : Int)) = b.length := by rw [List.length_append]; omega
    have t2 : Int.toNat ((a.length : Int)) = a.length := by simp
    have t3 : Int.toNat ((a.length : Int) - 0) = a.length := by simp
    have g1 : (0 : Int) ≤ (a.length : Int) ∧ (a.length : Int) ≤ (((a ++ b).length : Nat) : Int) ∧ (((a ++ b).length : Nat) : Int) ≤ (((a ++ b).length : Nat) : Int) := by rw [List.length_append]; omega
    have g2 : b.length * 144 ≤ 140737488355328 := by omega
    have g3 : (0 : Int) ≤ 0 ∧ (0 : Int) ≤ (a.length : Int) ∧ (a.length : Int) ≤ (((a ++ b).length : Nat) : Int) := by rw [List.length_append]; omega
    have g4 : a.length ≤ (a ++ b).length := by rw [List.length_append]; omega
    have g5 : (a.length + 1) * 144 ≤ 140737488355328 := by omega
    have g6 : ¬ (a.length : Int) < 0 := by omega
    have hk4 : i.kind = 0 ∨ i.kind = 1 ∨ i.kind = 2 ∨ i.kind = 3 := by omega
    rcases hk4 with k | k | k | k
    · have hbk := hW 0 (by rw [hbl, k]; rfl)
      simp only [k, hbk, t1, t2, t3, g6, hm, hb', g1, g3, g4, List.drop_left, List.take_left, List.take_length, decide_true, decide_false, beq_self_eq_true, if_true, Bool.false_eq_true, if_false, List.length_cons, List.length_nil, Nat.zero_add, g2, g5, Bool.and_self, and_self]
      simp only [exprOf, k]
    · have hbk := hW 0 (by rw [hbl, k]; rfl)
      have e0 : ((1 : Int) == 0) = false := rfl
      simp only [k, e0, hbk, t1, t2, t3, g6, hm, hb', g1, g3, g4, List.drop_left, List.take_left, List.take_length, decide_true, decide_false, beq_self_eq_true, if_true, Bool.false_eq_true, if_false, List.length_cons, List.length_nil, Nat.zero_add, g2, g5, Bool.and_self, and_self]
      simp only [exprOf, k]
    · have hbk := hW 1 (by rw [hbl, k]; rfl)
      have e0 : ((2 : Int) == 0) = false := rfl
      have e1 : ((2 : Int) == 1) = false := rfl
      simp only [k, e0, e1, hbk, t1, t2, t3, g6, hm, hb', g1, g3, g4, List.drop_left, List.take_left, List.take_length, decide_true, decide_false, beq_self_eq_true, if_true, Bool.false_eq_true, if_false, List.length_cons, List.length_nil, Nat.zero_add, g2, g5, Bool.and_self, and_self]
      simp only [exprOf, k]
    · have hbk := hW 2 (by rw [hbl, k]; rfl)
      have e0 : ((3 : Int) == 0) = false := rfl
      have e1 : ((3 : Int) == 1) = false := rfl
      have e2 : ((3 : Int) == 2) = false := rfl
      simp only [k, e0, e1, e2, hbk, t1, t2, t3, g6, hm, hb', g1, g3, g4, List.drop_left, List.take_left, List.take_length, decide_true, decide_false, beq_self_eq_true, if_true, Bool.false_eq_true, if_false, List.length_cons, List.length_nil, Nat.zero_add, g2, g5, Bool.and_self, and_self]
      simp only [exprOf, k]
theorem plan_Tree_ok {p : List DIns} (hw : ∀ i ∈ p, WfI i) : S_plan_Tree L0 p = some (treeC p) := by
  refine go_plan_Tree _ ?_
  unfold B_plan_Tree treeC
  by_cases h : p.length > 200
  · have : ((p.length : Nat) : Int) > 200 := by omega
    simp [h, this]
  · have : ¬ ((p.length : Nat) : Int) > 200 := by omega
    simp only [h, this, decide_false, Bool.false_eq_true, if_false]
    exact plan_Tree_loop p (by omega) hw p [] [] _ _ _ _ _ _ _ _ _ _ _ rfl (by simp [nodesL]) (by simp)
theorem plan_Check_ok {p : List DIns} (hw : ∀ i ∈ p, WfI i) : S_plan_Check L0 p = some (treeC p).2 := by
  refine go_plan_Check _ ?_
  unfold B_plan_Check
  rw [plan_Tree_ok hw]
  rfl
theorem ref23_node_ok (i : DIns) : S_ref23_node L0 i = some i := by
  refine go_ref23_node _ ?_
  rfl
theorem ref23_Tree_loop (p : List DIns) (hp : p.length ≤ 200) (hw : ∀ i ∈ p, WfI i) : ∀ (suf pre : List DIns) (st : List DExpr) (z3 z4 z5 z6 z7 z8 z9 : Int) (z10 : ByteArray) (z11 : List DMatcher) (z12 : List ByteArray) (z13 : List DExpr), p = pre ++ suf → nodesL st ≤ pre.length → (∀ e ∈ st, Wf e) →
    P_ref23_Tree_0 L0 ((p, (pre.length : Int)), ((z3, (z4, (z5, (z6, (z7, (z8, (z9, z10))))))), (z11, (z12, (z13, st))))) = some (endT (foldT suf st))
  | [], pre, st, z3, z4, z5, z6, z7, z8, z9, z10, z11, z12, z13, he, hn, hs => by
    refine go_ref23_Tree_0 _ _ _ _ _ _ _ _ _ _ _ _ _ _ ?_
    unfold B_ref23_Tree_0
    have hlt : ¬ (pre.length : Int) < (p.length : Int) := by rw [he]; simp
    rw [if_neg (by simpa using hlt)]
    simp only [foldT]
    match st, hn, hs with
    | [], _, _ => rfl
    | [e], hn, hs =>
      have hf : Few e := by
        simp only [nodesL] at hn
        have : p.length = pre.length := by rw [he]; simp
        unfold Few big; omega
      have hv := ref07_Valid_ok hf (hs e (by simp))
      simp only [eE_eq, List.getD_cons_zero, hv, Option.bind_some, endT]
      by_cases h0 : ValidC e = 0 <;> simp [h0]
    | a :: b :: r, _, _ =>
      have : ((((a :: b :: r).length : Nat) : Int) != 1) = true := by simp; omega
      rw [if_pos this]
      rfl
  | i :: suf, pre, st, z3, z4, z5, z6, z7, z8, z9, z10, z11, z12, z13, he, hn, hs => by
    refine go_ref23_Tree_0 _ _ _ _ _ _ _ _ _ _ _ _ _ _ ?_
    unfold B_ref23_Tree_0
    have hi : WfI i := hw i (by rw [he]; simp)
    have ih := fun st' h1 h2 => ref23_Tree_loop p hp hw suf (pre ++ [i]) st' z3 z4 z5 z6 z7 z8 z9 z10 z11 z12 z13 (by simp [he]) h1 h2
    have hp' : (pre ++ i :: suf).length ≤ big := by rw [← he]; unfold big; omega
    have hlen : pre.length < p.length := by rw [he]; simp
    have hst : st.length ≤ 200 := by have := length_nodesL st; omega
    rw [he] at ih
    simp only [he]
    rw [if_pos (decide_eq_true (idx_lt pre i suf)), if_pos (decide_eq_true (idx_in pre i suf)), rdx_mid .ins, idx_step pre i suf hp', ref23_node_ok]
    simp only [foldT, Option.bind_some]
    obtain ⟨q1, q2⟩ := hi.kind
    by_cases hk1 : i.kind < 0
    · have : plant i st = none := by unfold plant; rw [if_pos (by omega)]
      simp only [hk1, this, decide_true, if_true, Option.bind_none]
      rfl
    by_cases hk2 : i.kind > 3
    · have : plant i st = none := by unfold plant; rw [if_pos (by omega)]
      simp only [hk1, hk2, this, decide_false, decide_true, Bool.false_eq_true, if_false, if_true, Option.bind_none]
      rfl
    have hwk : (if IntKind.wrap .i64 (i.kind - 1) > 0 then IntKind.wrap .i64 (i.kind - 1) else (0 : Int)) = (pops i.kind : Int) := by
      rw [wrap64 (by omega) (by omega)]
      unfold pops
      split <;> split <;> (try split) <;> omega
    simp only [hwk, hk1, hk2, decide_false, Bool.false_eq_true, if_false]
    by_cases hl : st.length < pops i.kind
    · have : plant i st = none := by unfold plant; rw [if_pos (by omega)]
      rw [this, Option.bind_none]
      have hl' : (st.length : Int) < (pops i.kind : Int) := by omega
      simp only [hl', decide_true, if_true]
      rfl
    obtain ⟨a, b, hab, hbl⟩ := split_end st (pops i.kind) (by omega)
    subst hab
    have hstep := plant_app (a := a) (b := b) (i := i) (by omega) (by omega) hbl
    have hnn : nodesL (a ++ [exprOf i b]) ≤ (pre ++ [i]).length := by
      rw [nodesL_append] at hn ⊢
      simp only [nodesL, nodes_exprOf, List.length_append, List.length_cons, List.length_nil]
      omega
    have hww : ∀ e ∈ a ++ [exprOf i b], Wf e := by
      intro e he'
      rcases List.mem_append.1 he' with h | h
      · exact hs e (List.mem_append.2 (.inl h))
      · rw [List.mem_singleton.1 h]
        exact Wf.of_ins hi (fun k hk => hs k (List.mem_append.2 (.inr hk)))
    have ih' := ih (a ++ [exprOf i b]) hnn hww
    rw [hstep, Option.bind_some, ← ih']
    have hal : a.length + b.length ≤ 200 := by simpa using hst
    have hbk : IntKind.wrap .i64 ((((a ++ b).length : Nat) : Int) - (pops i.kind : Int)) = (a.length : Int) := by
      rw [List.length_append, wrap64 (by omega) (by omega)]
      omega
    have g0 : ¬ (((a ++ b).length : Nat) : Int) < (pops i.kind : Int) := by rw [List.length_append]; omega
    have t1 : Int.toNat ((((a ++ b).length : Nat) : Int) - (a.length : Int)) = b.length := by rw [List.length_append]; omega
    have t2 : Int.toNat ((a.length : Int)) = a.length := by simp
    have t3 : Int.toNat ((a.length : Int) - 0) = a.length := by simp
    have g1 : (0 : Int) ≤ (a.length : Int) ∧ (a.length : Int) ≤ (((a ++ b).length : Nat) : Int) ∧ (((a ++ b).length : Nat) : Int) ≤ (((a ++ b).length : Nat) : Int) := by rw [List.length_append]; omega
    have g2 : b.length * 144 ≤ 140737488355328 := by omega
    have g3 : (0 : Int) ≤ 0 ∧ (0 : Int) ≤ (a.length : Int) ∧ (a.length : Int) ≤ (((a ++ b).length : Nat) : Int) := by rw [List.length_append]; omega
    have g4 : a.length ≤ (a ++ b).length := by rw [List.length_append]; omega
    have g5 : (a.length + 1) * 144 ≤ 140737488355328 := by omega
    simp only [g0, hbk, t1, t2, t3, g1, g3, g4, List.drop_left, List.take_left, List.take_length, decide_true, decide_false, if_true, Bool.false_eq_true, if_false, List.length_cons, List.length_nil, Nat.zero_add, g2, g5, Bool.and_self, and_self, List.nil_append]
    rfl
theorem ref23_Tree_ok {p : List DIns} (hw : ∀ i ∈ p, WfI i) : S_ref23_Tree L0 p = some (treeC p) := by
  refine go_ref23_Tree _ ?_
  unfold B_ref23_Tree treeC
  by_cases h : p.length > 200
  · have : ((p.length : Nat) : Int) > 200 := by omega
    simp [h, this]
  · have : ¬ ((p.length : Nat) : Int) > 200 := by omega
    simp only [h, this, decide_false, Bool.false_eq_true, if_false]
    exact ref23_Tree_loop p (by omega) hw p [] [] _ _ _ _ _ _ _ _ _ _ _ rfl (by simp [nodesL]) (by simp)
theorem ref23_Check_ok {p : List DIns} (hw : ∀ i ∈ p, WfI i) : S_ref23_Check L0 p = some (treeC p).2 := by
  refine go_ref23_Check _ ?_
  unfold B_ref23_Check
  rw [ref23_Tree_ok hw]
  rfl
end Go.AM
/-
  The rounds of the loops over functions; plans of trees.
-/
namespace Go.AM
open Go
set_option maxRecDepth 100000
theorem eY_lexer_Tokens (L : Lvl) (t : DTok) (xs : List DTok) : (y_lexer_Tokens.tree prg0.G (prg0.calls L) 64 (t, xs)).eval = if (true && decide ((xs.length + [t].length) * 40 ≤ 140737488355328)) = true then some (true, xs ++ [DTok.mk t.kind t.text t.n t.at_]) else none := by kernel_rfl
def insOf (e : DExpr) : DIns := DIns.mk e.kind e.fn e.window e.offset e.k e.num e.name e.ms e.by_
theorem eY_plan_Compile (L : Lvl) (e : DExpr) (xs : List DIns) : (y_plan_Compile.tree prg0.G (prg0.calls L) 64 (e, xs)).eval = if decide (e.ms.length * 40 ≤ 140737488355328) = true then if decide (e.by_.length * 16 ≤ 140737488355328) = true then if (true && decide ((xs.length + [insOf e].length) * 120 ≤ 140737488355328)) = true then some (true, xs ++ [insOf e]) else none else none else none := by kernel_rfl
theorem Y_lexer_Tokens_ok (t : DTok) (xs : List DTok) (h : xs.length ≤ 4096) : Y_lexer_Tokens L0 (t, xs) = some (true, xs ++ [t]) := by
  refine prg0.lim_Y y_lexer_Tokens (t, xs) ((eY_lexer_Tokens L0 t xs).trans ?_)
  rw [if_pos (by simp; omega)]
  rfl
theorem Y_plan_Compile_ok (e : DExpr) (xs : List DIns) (h1 : e.ms.length ≤ 8) (h2 : e.by_.length ≤ 8) (h : xs.length ≤ 4096) : Y_plan_Compile L0 (e, xs) = some (true, xs ++ [insOf e]) := by
  refine prg0.lim_Y y_plan_Compile (e, xs) ((eY_plan_Compile L0 e xs).trans ?_)
  rw [if_pos (decide_eq_true (by omega)), if_pos (decide_eq_true (by omega)), if_pos (by simp; omega)]
  rfl
mutual
/-- The plan of a tree. -/
def postC : DExpr → List DIns
  | e@⟨_, _, _, _, _, _, _, _, _, kids⟩ => postL kids ++ [insOf e]
def postL : List DExpr → List DIns
  | [] => []
  | k :: r => postC k ++ postL r
end
theorem postC_eq (e : DExpr) : postC e = postL e.kids ++ [insOf e] := by cases e; rw [postC]
theorem postC_length : ∀ n, ∀ e : DExpr, nodes e ≤ n → (postC e).length = nodes e := by
  intro n
  induction n with
  | zero => intro e h; have := nodes_pos e; omega
  | succ n ih =>
    intro e h
    rw [nodes_eq] at h
    rw [postC_eq, nodes_eq, List.length_append]
    suffices ∀ l : List DExpr, nodesL l ≤ n → (postL l).length = nodesL l by rw [this e.kids (by omega)]; simp; omega
    intro l
    induction l with
    | nil => intro _; simp [postL, nodesL]
    | cons k l ihl =>
      intro hl
      rw [nodesL] at hl
      rw [postL, nodesL, List.length_append, ih k (by omega), ihl (by omega)]
/-- Few matchers and labels at each node. -/
inductive Small : DExpr → Prop
  | mk (e : DExpr) : e.ms.length ≤ 8 → e.by_.length ≤ 8 → (∀ k ∈ e.kids, Small k) → Small e
theorem Small.ms {e : DExpr} (h : Small e) : e.ms.length ≤ 8 := by cases h; assumption
theorem Small.bys {e : DExpr} (h : Small e) : e.by_.length ≤ 8 := by cases h; assumption
theorem Small.kid {e k : DExpr} (h : Small e) (hk : k ∈ e.kids) : Small k := by cases h; rename_i h; exact h k hk
theorem validL_mem : ∀ {l : List DExpr}, validL l = 0 → ∀ k ∈ l, validC k = 0
  | a :: l, h, k, hk => by
    rw [validL] at h
    split at h
    · rename_i h0
      rcases List.mem_cons.1 hk with rfl | hk
      · exact h0
      · exact validL_mem h k hk
    · rename_i h0; exact absurd h h0
theorem validC_parts {e : DExpr} (h : validC e = 0) : shapedB e = true ∧ namedB e = true ∧ e.ms.length ≤ 8 ∧ e.by_.length ≤ 8 ∧ rangedB e = true ∧ validL e.kids = 0 := by
  rw [validC_eq] at h
  split at h
  · cases h
  split at h
  · cases h
  split at h
  · cases h
  split at h
  · cases h
  split at h
  · cases h
  rename_i h1 h2 h3 h4 h5
  exact ⟨by simpa using h1, by simpa using h2, by omega, by omega, by simpa using h5, h⟩
theorem small_of_valid : ∀ n, ∀ e : DExpr, nodes e ≤ n → validC e = 0 → Small e := by
  intro n
  induction n with
  | zero => intro e h; have := nodes_pos e; omega
  | succ n ih =>
    intro e h hv
    obtain ⟨_, _, h3, h4, _, h6⟩ := validC_parts hv
    rw [nodes_eq] at h
    exact .mk e h3 h4 (fun k hk => ih k (by have := nodes_mem hk; omega) (validL_mem h6 k hk))
theorem ValidC_zero {e : DExpr} (h : ValidC e = 0) : depth e ≤ 12 ∧ nodes e ≤ 200 ∧ validC e = 0 := by
  unfold ValidC at h
  split at h
  · cases h
  · rename_i hl
    simp only [large, Bool.or_eq_true, decide_eq_true_eq, not_or] at hl
    exact ⟨by omega, by omega, h⟩
theorem plan_visit_loop (e : DExpr) (xs : List DExpr) (hx : xs.length ≤ big) (hs : Small e) (h : ∀ k ∈ xs, ∀ out : List DIns, out.length + nodes k ≤ 2000 → S_plan_visit L0 (k, out) = some (true, out ++ postC k)) : ∀ (suf pre : List DExpr) (out : List DIns), xs = pre ++ suf → out.length + nodesL suf ≤ 2000 →
    P_plan_visit_0 L0 ((xs, ((xs.length : Int), (pre.length : Int))), (e, out)) = some (true, out ++ postL suf ++ [insOf e])
  | [], pre, out, he, hb => by
    refine go_plan_visit_0 _ _ _ _ _ ?_
    unfold B_plan_visit_0
    have := Y_plan_Compile_ok e out hs.ms hs.bys (by omega)
    simp [he, postL, this]
  | k :: suf, pre, out, he, hb => by
    refine go_plan_visit_0 _ _ _ _ _ ?_
    unfold B_plan_visit_0
    subst he
    rw [nodesL] at hb
    rw [if_pos (decide_eq_true (idx_lt pre k suf)), if_pos (decide_eq_true (idx_in pre k suf)), rdx_mid .expr, eE_eq, h k (by simp) out (by omega)]
    have := plan_visit_loop e (pre ++ k :: suf) hx hs h suf (pre ++ [k]) (out ++ postC k) (by simp) (by rw [List.length_append, postC_length _ k (Nat.le_refl _)]; omega)
    simp only [Option.bind_some, Bool.not_true, Bool.false_eq_true, if_false, eE_eq]
    rw [idx_step pre k suf hx, this, postL]
    simp
theorem plan_visit_ok : ∀ n, ∀ (e : DExpr) (out : List DIns), nodes e ≤ n → Small e → out.length + nodes e ≤ 2000 → S_plan_visit L0 (e, out) = some (true, out ++ postC e) := by
  intro n
  induction n with
  | zero => intro e out h; have := nodes_pos e; omega
  | succ n ih =>
    intro e out h hs hb
    refine go_plan_visit _ _ ?_
    unfold B_plan_visit
    rw [nodes_eq] at h hb
    have hlen := length_nodesL e.kids
    have := plan_visit_loop e e.kids (by unfold big; omega) hs (fun k hk out' ho => ih k out' (by have := nodes_mem hk; omega) (hs.kid hk) ho) e.kids [] out rfl (by omega)
    rw [postC_eq, ← List.append_assoc]
    simpa using this
/-- The plan of a tree, or its error. -/
noncomputable def compileC (e : DExpr) : List DIns × Int := if ValidC e = 0 then (postC e, 0) else ([], ValidC e)
theorem plan_Compile_ok {e : DExpr} (hf : Few e) (hw : Wf e) : S_plan_Compile L0 e = some (compileC e) := by
  refine go_plan_Compile _ ?_
  unfold B_plan_Compile compileC
  have hp : ∀ x, S_plan_postfix L0 x = some x := fun x => by
    refine go_plan_postfix _ ?_
    unfold B_plan_postfix
    simp
  simp only [eE_eq, parser_Valid_ok hf hw, Option.bind_some, hp]
  by_cases h0 : ValidC e = 0
  · obtain ⟨_, h2, h3⟩ := ValidC_zero h0
    have hv : S_plan_postfix_1 L0 (([] : List DIns), e) = some (e, postC e) := by
      refine go_plan_postfix_1 _ _ ?_
      unfold B_plan_postfix_1
      have := plan_visit_ok _ e [] (Nat.le_refl _) (small_of_valid _ e (Nat.le_refl _) h3) (by simp; omega)
      simp [this]
    simp [h0, hv]
  · simp [h0]
theorem ref23_postfix_loop (e : DExpr) (hx : e.kids.length ≤ big) (h : ∀ k ∈ e.kids, S_ref23_postfix L0 k = some (postC k)) : ∀ (suf pre : List DExpr) (out : List DIns), e.kids = pre ++ suf → out.length + nodesL suf ≤ 100000000 →
    P_ref23_postfix_0 L0 ((pre.length : Int), (e, out)) = some (out ++ postL suf ++ [insOf e])
  | [], pre, out, he, hb => by
    refine go_ref23_postfix_0 _ _ _ ?_
    unfold B_ref23_postfix_0
    have hi : S_ref23_Ins L0 e = some (insOf e) := by
      refine go_ref23_Ins _ ?_
      rfl
    have hlt : ¬ (pre.length : Int) < (e.kids.length : Int) := by rw [he]; simp
    rw [if_neg (by simpa using hlt)]
    simp only [eE_eq, hi, Option.bind_some, postL, List.append_nil]
    rw [if_pos (by simp; omega)]
  | k :: suf, pre, out, he, hb => by
    refine go_ref23_postfix_0 _ _ _ ?_
    unfold B_ref23_postfix_0
    rw [nodesL] at hb
    have hk := h k (by rw [he]; simp)
    have hx' := hx
    rw [he] at hx'
    have := ref23_postfix_loop e hx h suf (pre ++ [k]) (out ++ postC k) (by simp [he]) (by rw [List.length_append, postC_length _ k (Nat.le_refl _)]; omega)
    simp only [eE_eq, he]
    rw [if_pos (decide_eq_true (idx_lt pre k suf)), if_pos (decide_eq_true (idx_in pre k suf)), rdx_mid .expr, hk]
    simp only [Option.bind_some]
    rw [if_pos (by simp only [Bool.true_and, decide_eq_true_eq]; rw [postC_length _ k (Nat.le_refl _)]; omega), idx_step pre k suf hx', this, postL]
    simp
theorem ref23_postfix_ok : ∀ n, ∀ (e : DExpr), nodes e ≤ n → nodes e ≤ 100000 → S_ref23_postfix L0 e = some (postC e) := by
  intro n
  induction n with
  | zero => intro e h; have := nodes_pos e; omega
  | succ n ih =>
    intro e h hb
    refine go_ref23_postfix _ ?_
    unfold B_ref23_postfix
    rw [nodes_eq] at h hb
    have hlen := length_nodesL e.kids
    have := ref23_postfix_loop e (by unfold big; omega) (fun k hk => ih k (by have := nodes_mem hk; omega) (by have := nodes_mem hk; omega)) e.kids [] [] rfl (by simp; omega)
    rw [postC_eq]
    simp only [eE_eq]
    simpa using this
theorem ref23_Compile_ok {e : DExpr} (hf : Few e) (hw : Wf e) : S_ref23_Compile L0 e = some (compileC e) := by
  refine go_ref23_Compile _ ?_
  unfold B_ref23_Compile compileC
  simp only [eE_eq, ref07_Valid_ok hf hw, Option.bind_some]
  by_cases h0 : ValidC e = 0
  · obtain ⟨_, h2, h3⟩ := ValidC_zero h0
    simp [h0, ref23_postfix_ok _ e (Nat.le_refl _) (by omega)]
  · simp [h0]

/-- What an instruction reads before its tick. -/
def backI (i : DIns) : Int := if i.kind = 1 then (if i.fn = 0 ∨ i.fn = 5 ∨ i.fn = 6 then IntKind.wrap .i64 (0 - IntKind.wrap .i64 (i.offset + i.window)) else IntKind.wrap .i64 (0 - IntKind.wrap .i64 (IntKind.wrap .i64 (i.offset + i.window) - 1))) else 0
def reachF : Int → List DIns → Int
  | r, [] => r
  | r, i :: p => reachF (if backI i < r then backI i else r) p
noncomputable def reachC (p : List DIns) : Int := if (treeC p).2 = 0 then reachF 0 p else 0
theorem reachF_le : ∀ (p : List DIns) (r : Int), reachF r p ≤ r
  | [], r => Int.le_refl _
  | i :: p, r => by
    rw [reachF]
    have := reachF_le p (if backI i < r then backI i else r)
    split at this <;> rename_i h <;> simp only [h, if_true, if_false] <;> omega
theorem plan_Reach_loop (p : List DIns) (hp : p.length ≤ big) : ∀ (suf pre : List DIns) (r : Int), p = pre ++ suf → r ≤ 0 → P_plan_Reach_0 L0 (r, (p, ((p.length : Int), (pre.length : Int)))) = some (reachF r suf)
  | [], pre, r, he, h0 => by
    refine go_plan_Reach_0 _ _ _ _ ?_
    unfold B_plan_Reach_0
    simp [he, reachF]
  | i :: suf, pre, r, he, h0 => by
    refine go_plan_Reach_0 _ _ _ _ ?_
    unfold B_plan_Reach_0
    subst he
    have ih := fun r' h => plan_Reach_loop (pre ++ i :: suf) hp suf (pre ++ [i]) r' (by simp) h
    rw [if_pos (decide_eq_true (idx_lt pre i suf)), if_pos (decide_eq_true (idx_in pre i suf)), rdx_mid .ins, idx_step pre i suf hp]
    rw [reachF]
    have hle : (if backI i < r then backI i else r) ≤ 0 := by split <;> omega
    rw [← ih _ hle]
    unfold backI
    by_cases k : i.kind = 1
    · have kb : (i.kind != 1) = false := by simp [k]
      rw [kb, if_pos k]
      simp only [Bool.false_eq_true, if_false]
      by_cases f0 : i.fn = 0
      · simp [f0]
      by_cases f5 : i.fn = 5
      · simp [f5]
      by_cases f6 : i.fn = 6
      · simp [f6]
      · simp [f0, f5, f6]
    · have kb : (i.kind != 1) = true := by simp [k]
      rw [kb, if_neg k]
      have : ¬ (0 : Int) < r := by omega
      simp [this]
theorem plan_Reach_ok {p : List DIns} (hw : ∀ i ∈ p, WfI i) (hp : p.length ≤ big) : S_plan_Reach L0 p = some (reachC p) := by
  refine go_plan_Reach _ ?_
  unfold B_plan_Reach reachC
  rw [plan_Check_ok hw]
  have := plan_Reach_loop p hp p [] 0 rfl (Int.le_refl _)
  replace this : P_plan_Reach_0 L0 (0, (p, ((p.length : Int), 0))) = some (reachF 0 p) := this
  simp only [Option.bind_some]
  by_cases h : (treeC p).2 = 0 <;> simp [h, this]
end Go.AM
/-
  The lexer: what it computes, on lists of bytes.
-/
namespace Go.AM
open Go
set_option maxRecDepth 100000
def bs (l : List UInt8) : ByteArray := ⟨l.toArray⟩
theorem bs_data (l : List UInt8) : (bs l).data.toList = l := rfl
theorem bs_self (s : ByteArray) : bs s.data.toList = s := by cases s; rfl
theorem bs_size (l : List UInt8) : (bs l).size = l.length := rfl
theorem bs_inj {a b : List UInt8} (h : bs a = bs b) : a = b := by
  have := congrArg (fun s : ByteArray => s.data.toList) h
  simpa [bs_data] using this
theorem extract_bs (s : ByteArray) (a b : Nat) : s.extract a b = bs ((s.data.toList.take b).drop a) := by
  apply ByteArray.ext
  apply Array.ext'
  simp [bs, List.drop_take]
def inSet (set : List UInt8) (b : UInt8) : Bool := decide (indexL (b.toNat : Int) set 0 ≥ 0)
theorem base_IndexByte_eq (set : ByteArray) (b : UInt8) : base_IndexByte (set, (b.toNat : Int)) = some (indexL (b.toNat : Int) set.data.toList 0) := rfl
/-- The longest beginning that consists of given bytes. -/
theorem lexer_prefix_loop (s set : ByteArray) (hs : s.size ≤ big) : ∀ (suf pre : List UInt8), s.data.toList = pre ++ suf → P_lexer_prefix_0 L0 (s, (set, (pre.length : Int))) = some (bs (pre ++ suf.takeWhile (inSet set.data.toList)))
  | [], pre, he => by
    refine go_lexer_prefix_0 _ _ _ ?_
    unfold B_lexer_prefix_0
    have hl : s.size = pre.length := by rw [str_size, he]; simp
    have h1 : ¬ (pre.length : Int) < (s.size : Int) := by omega
    rw [if_neg (by simpa using h1), if_pos (decide_eq_true (by omega)), extract_bs, he]
    simp
  | b :: suf, pre, he => by
    refine go_lexer_prefix_0 _ _ _ ?_
    unfold B_lexer_prefix_0
    have hin := str_in he
    rw [if_pos (decide_eq_true hin.2), if_pos (decide_eq_true hin), bt_mid he, base_IndexByte_eq]
    simp only [Option.bind_some]
    have ih := lexer_prefix_loop s set hs suf (pre ++ [b]) (by simp [he])
    rw [str_step he hs, ih, List.takeWhile_cons]
    unfold inSet
    by_cases hc : indexL (b.toNat : Int) set.data.toList 0 ≥ 0
    · simp [hc]
    · simp only [hc, decide_false, Bool.false_eq_true, if_false, List.append_nil]
      rw [if_pos (decide_eq_true (by omega)), extract_bs, he]
      simp
theorem lexer_prefix_ok {s set : ByteArray} (hs : s.size ≤ big) : S_lexer_prefix L0 (s, set) = some (bs (s.data.toList.takeWhile (inSet set.data.toList))) := by
  refine go_lexer_prefix _ _ ?_
  unfold B_lexer_prefix
  exact lexer_prefix_loop s set hs s.data.toList [] rfl
def digitB (b : UInt8) : Bool := decide (48 ≤ b.toNat) && decide (b.toNat ≤ 57)
def wordB (b : UInt8) : Bool := letterB b.toNat || otherB b.toNat
/-- The value of some digits; none: it is too great. -/
def numC : List UInt8 → Int → Option Int
  | [], n => some n
  | b :: r, n => if 10 * n + ((b.toNat : Int) - 48) > 1073741824 then none else numC r (10 * n + ((b.toNat : Int) - 48))
abbrev tok0 : DTok := ⟨0, zeroS, 0, 0⟩
theorem lexer_number_loop (s : ByteArray) (hd : ∀ b ∈ s.data.toList, digitB b = true) : ∀ (suf pre : List UInt8) (n : Int), s.data.toList = pre ++ suf → 0 ≤ n → n ≤ 1073741824 →
    P_lexer_number_0 L0 ((s, n), (tok0, (s, pre.length))) = some (match numC suf n with | none => (tok0, (0, 5)) | some m => (⟨1, s, m, 0⟩, ((s.size : Int), 0)))
  | [], pre, n, he, h0, h1 => by
    refine go_lexer_number_0 _ _ _ _ _ ?_
    unfold B_lexer_number_0
    have : ¬ pre.length < s.size := by rw [str_size, he]; simp
    simp [this, numC]
  | b :: suf, pre, n, he, h0, h1 => by
    refine go_lexer_number_0 _ _ _ _ _ ?_
    unfold B_lexer_number_0
    have hb := hd b (by rw [he]; simp)
    simp only [digitB, Bool.and_eq_true, decide_eq_true_eq] at hb
    rw [if_pos (decide_eq_true (size_mid he)), decode_ascii he (by omega)]
    have w1 : IntKind.wrap .i32 (((b.toNat : Nat) : Int) - 48) = (b.toNat : Int) - 48 := by
      simp only [IntKind.wrap, IntKind.bits, IntKind.signed]
      simp
      omega
    have w2 : IntKind.wrap .i64 (((b.toNat : Nat) : Int) - 48) = (b.toNat : Int) - 48 := wrap64 (by omega) (by omega)
    have w3 : IntKind.wrap .i64 (10 * n) = 10 * n := wrap64 (by omega) (by omega)
    have w4 : IntKind.wrap .i64 (10 * n + ((b.toNat : Int) - 48)) = 10 * n + ((b.toNat : Int) - 48) := wrap64 (by omega) (by omega)
    simp only [w1, w2, w3, w4, numC]
    by_cases hc : 10 * n + ((b.toNat : Int) - 48) > 1073741824
    · simp [hc]
    · have ih := lexer_number_loop s hd suf (pre ++ [b]) (10 * n + ((b.toNat : Int) - 48)) (by simp [he]) (by omega) (by omega)
      rw [show (pre ++ [b]).length = pre.length + 1 by simp] at ih
      simp only [hc, decide_false, Bool.false_eq_true, if_false, ih]
theorem lexer_number_ok {s : ByteArray} (hd : ∀ b ∈ s.data.toList, digitB b = true) : S_lexer_number L0 s = some (match numC s.data.toList 0 with | none => (tok0, (0, 5)) | some m => (⟨1, s, m, 0⟩, ((s.size : Int), 0))) := by
  refine go_lexer_number _ ?_
  unfold B_lexer_number
  exact lexer_number_loop s hd s.data.toList [] 0 rfl (by omega) (by omega)
/-- What stands ahead of a byte, if it stands there. -/
def upTo (c : UInt8) : List UInt8 → Option (List UInt8)
  | [] => none
  | b :: r => if b = c then some [] else (upTo c r).map (b :: ·)
theorem indexL_upTo (c : UInt8) : ∀ (l : List UInt8) (i : Int), 0 ≤ i → (match upTo c l with | none => indexL (c.toNat : Int) l i = -1 | some a => indexL (c.toNat : Int) l i = i + a.length ∧ a.length < l.length ∧ l.take a.length = a)
  | [], i, h => by simp [upTo, indexL]
  | b :: r, i, h => by
    have ih := indexL_upTo c r (i + 1) (by omega)
    simp only [upTo, indexL]
    by_cases hb : b = c
    · subst hb; simp
    · have : ¬ ((b.toNat : Nat) : Int) = (c.toNat : Int) := fun e => hb (UInt8.toNat_inj.1 (by omega))
      simp only [hb, this, if_false]
      cases hu : upTo c r with
      | none => rw [hu] at ih; simpa using ih
      | some a =>
        rw [hu] at ih
        obtain ⟨h1, h2, h3⟩ := ih
        simp only [Option.map_some, List.length_cons, List.take_succ_cons, h3, and_true]
        exact ⟨by rw [h1]; omega, by omega⟩
theorem strings_Cut_quote {s : ByteArray} (hs : s.size ≤ big) : ∃ r, S_strings_Cut L0 (s, (⟨#[34]⟩ : ByteArray)) = some (match upTo 34 s.data.toList with | none => (s, (zeroS, false)) | some a => (bs a, (r, true))) := by
  have hx := indexL_upTo 34 s.data.toList 0 (by omega)
  have hi : S_stringslite_Index L0 (s, (⟨#[34]⟩ : ByteArray)) = some (indexL 34 s.data.toList 0) := by
    refine go_stringslite_Index _ _ ?_
    unfold B_stringslite_Index
    have e1 : ((((⟨#[34]⟩ : ByteArray).size : Nat) : Int) == 0) = false := rfl
    have e2 : ((((⟨#[34]⟩ : ByteArray).size : Nat) : Int) == 1) = true := rfl
    have e3 : bt (⟨#[34]⟩ : ByteArray) 0 = 34 := rfl
    rw [e1, e2, e3, str_beq]
    by_cases h : (⟨#[34]⟩ : ByteArray) = s
    · subst h; rfl
    · simp only [h, Bool.false_eq_true, if_false, decide_false]
      rfl
  have hb : ∀ z, B_stringslite_Cut L0 s (⟨#[34]⟩ : ByteArray) = some z → S_strings_Cut L0 (s, (⟨#[34]⟩ : ByteArray)) = some z := fun z h => by
    refine go_strings_Cut _ _ ?_
    unfold B_strings_Cut
    rw [go_stringslite_Cut _ _ h]
    rfl
  unfold B_stringslite_Cut at hb
  rw [hi] at hb
  have h34 : (((34 : UInt8).toNat : Nat) : Int) = 34 := rfl
  rw [h34] at hx
  cases hu : upTo 34 s.data.toList with
  | none =>
    rw [hu] at hx
    simp only at hx
    refine ⟨zeroS, hb _ ?_⟩
    rw [hx]
    rfl
  | some a =>
    rw [hu] at hx
    obtain ⟨h1, h2, h3⟩ := hx
    have h1' : indexL 34 s.data.toList 0 = (a.length : Int) := by omega
    have hsz := str_size s
    unfold big at hs
    refine ⟨s.extract (a.length + 1) s.size, hb (bs a, (s.extract (a.length + 1) s.size, true)) ?_⟩
    rw [h1']
    simp only [Option.bind_some]
    have w : IntKind.wrap .i64 ((a.length : Int) + (((⟨#[34]⟩ : ByteArray).size : Nat) : Int)) = (a.length : Int) + 1 := by
      rw [show ((((⟨#[34]⟩ : ByteArray).size : Nat) : Int)) = 1 from rfl, wrap64 (by omega) (by omega)]
    rw [w, if_pos (decide_eq_true (by omega)), if_pos (decide_eq_true (by omega)), if_pos (decide_eq_true (by omega)), extract_bs]
    simp only [Int.toNat_natCast, h3, List.drop_zero]
    have e1 : Int.toNat ((a.length : Int) + 1) = a.length + 1 := by omega
    rw [e1]
def textB (b : UInt8) : Bool := !(decide ((b.toNat : Int) ≤ 32)) && !(decide ((b.toNat : Int) > 126)) && !(inSet [34, 92, 44, 123, 125] b)
def quotedR (ok : Bool) (s : ByteArray) : DTok × (Int × Int) := match ok with
  | true => if s.size > 16 then (tok0, (0, 4)) else (⟨2, s, 0, 0⟩, ((s.size : Int) + 2, 0))
  | false => (tok0, (0, 2))
theorem lexer_quoted_loop (s : ByteArray) (hs : s.size ≤ big) : ∀ (suf pre : List UInt8), s.data.toList = pre ++ suf →
    P_lexer_quoted_0 L0 ((s, ((s.size : Int), (pre.length : Int))), tok0) = some (quotedR (suf.all textB) s)
  | [], pre, he => by
    refine go_lexer_quoted_0 _ _ _ _ ?_
    unfold B_lexer_quoted_0
    have hl : s.size = pre.length := by rw [str_size, he]; simp
    have h1 : ¬ (pre.length : Int) < (s.size : Int) := by omega
    unfold big at hs
    have w : IntKind.wrap .i64 ((s.size : Int) + 2) = (s.size : Int) + 2 := wrap64 (by omega) (by omega)
    rw [if_neg (by simpa using h1), w]
    by_cases h2 : s.size > 16
    · have : (s.size : Int) > 16 := by omega
      simp [h2, this, quotedR]
    · have : ¬ (s.size : Int) > 16 := by omega
      simp [h2, this, quotedR]
  | b :: suf, pre, he => by
    refine go_lexer_quoted_0 _ _ _ _ ?_
    unfold B_lexer_quoted_0
    have hin := str_in he
    have ih := lexer_quoted_loop s hs suf (pre ++ [b]) (by simp [he])
    rw [if_pos (decide_eq_true hin.2), if_pos (decide_eq_true hin)]
    simp only [decide_eq_true hin, if_true]
    rw [bt_mid he, base_IndexByte_eq, str_step he hs, ih]
    simp only [Option.bind_some, List.all_cons]
    have ht : textB b = (!(decide ((b.toNat : Int) ≤ 32)) && !(decide ((b.toNat : Int) > 126)) && !(decide (indexL (b.toNat : Int) [34, 92, 44, 123, 125] 0 ≥ 0))) := rfl
    rw [ht]
    show (if decide ((b.toNat : Int) ≤ 32) = true then _ else if decide ((b.toNat : Int) > 126) = true then _ else if decide (indexL (b.toNat : Int) [34, 92, 44, 123, 125] 0 ≥ 0) = true then _ else _) = _
    cases decide ((b.toNat : Int) ≤ 32) <;> cases decide ((b.toNat : Int) > 126) <;> cases decide (indexL (b.toNat : Int) [34, 92, 44, 123, 125] 0 ≥ 0) <;> simp [quotedR]
def quotedC (l : List UInt8) : DTok × (Int × Int) := match upTo 34 l with
  | none => (tok0, (0, 2))
  | some a => quotedR (a.all textB) (bs a)
theorem lexer_quoted_ok {s : ByteArray} (hs : s.size ≤ big) : S_lexer_quoted L0 s = some (quotedC s.data.toList) := by
  refine go_lexer_quoted _ ?_
  unfold B_lexer_quoted quotedC
  obtain ⟨r, hr⟩ := strings_Cut_quote hs
  rw [hr]
  have hx := indexL_upTo 34 s.data.toList 0 (by omega)
  cases hu : upTo 34 s.data.toList with
  | none => rfl
  | some a =>
    rw [hu] at hx
    obtain ⟨_, h2, _⟩ := hx
    have h3 := str_size s
    simp only [Option.bind_some, Bool.not_true, Bool.false_eq_true, if_false]
    have := lexer_quoted_loop (bs a) (by rw [bs_size]; omega) a [] rfl
    exact this
def symbols : List UInt8 := [43, 45, 42, 47, 40, 41, 123, 125, 44, 46, 64, 61, 33, 94]
def symC (b : UInt8) : List UInt8 → DTok × (Int × Int)
  | [] => (tok0, (0, 2))
  | c :: _ => if c = 61 then (⟨3, bs [b, c], 0, 0⟩, (2, 0)) else (tok0, (0, 2))
/-- The first token of some bytes, its size and its error. -/
def tokC1 (b : UInt8) (r : List UInt8) : DTok × (Int × Int) :=
    if letterB b.toNat then (if ((b :: r).takeWhile wordB).length > 16 then (tok0, (0, 4)) else (⟨0, bs ((b :: r).takeWhile wordB), 0, 0⟩, ((((b :: r).takeWhile wordB).length : Nat), 0)))
    else if digitB b then (match numC ((b :: r).takeWhile digitB) 0 with | none => (tok0, (0, 5)) | some m => (⟨1, bs ((b :: r).takeWhile digitB), m, 0⟩, ((((b :: r).takeWhile digitB).length : Nat), 0)))
    else if b = 34 then quotedC r
    else if b = 33 ∨ b = 94 then symC b r
    else if inSet symbols b then (⟨3, bs [b], 0, 0⟩, (1, 0)) else (tok0, (0, 2))
def tokC : List UInt8 → DTok × (Int × Int)
  | [] => (tok0, (0, 2))
  | b :: r => tokC1 b r
theorem all_bytes {p : UInt8 → Bool} (h : (List.range 256).all (fun n => p (UInt8.ofNat n)) = true) (b : UInt8) : p b = true := by
  have := List.all_eq_true.1 h b.toNat (List.mem_range.2 b.toNat_lt)
  simpa using this
theorem letters_set (b : UInt8) : decide (indexL (b.toNat : Int) [97, 98, 99, 100, 101, 102, 103, 104, 105, 106, 107, 108, 109, 110, 111, 112, 113, 114, 115, 116, 117, 118, 119, 120, 121, 122] 0 ≥ 0) = letterB b.toNat := by
  have := all_bytes (p := fun b => decide (indexL (b.toNat : Int) [97, 98, 99, 100, 101, 102, 103, 104, 105, 106, 107, 108, 109, 110, 111, 112, 113, 114, 115, 116, 117, 118, 119, 120, 121, 122] 0 ≥ 0) == letterB b.toNat) (by decide +kernel) b
  simpa using this
theorem digits_set (b : UInt8) : decide (indexL (b.toNat : Int) [48, 49, 50, 51, 52, 53, 54, 55, 56, 57] 0 ≥ 0) = digitB b := by
  have := all_bytes (p := fun b => decide (indexL (b.toNat : Int) [48, 49, 50, 51, 52, 53, 54, 55, 56, 57] 0 ≥ 0) == digitB b) (by decide +kernel) b
  simpa using this
theorem words_set (b : UInt8) : inSet [97, 98, 99, 100, 101, 102, 103, 104, 105, 106, 107, 108, 109, 110, 111, 112, 113, 114, 115, 116, 117, 118, 119, 120, 121, 122, 48, 49, 50, 51, 52, 53, 54, 55, 56, 57, 95] b = wordB b := by
  have := all_bytes (p := fun b => inSet [97, 98, 99, 100, 101, 102, 103, 104, 105, 106, 107, 108, 109, 110, 111, 112, 113, 114, 115, 116, 117, 118, 119, 120, 121, 122, 48, 49, 50, 51, 52, 53, 54, 55, 56, 57, 95] b == wordB b) (by decide +kernel) b
  simpa using this
end Go.AM
/-
  The lexer: the first token, all tokens.
-/
namespace Go.AM
open Go
set_option maxRecDepth 100000
theorem takeWhile_congr' {p q : UInt8 → Bool} (h : ∀ b, p b = q b) (l : List UInt8) : l.takeWhile p = l.takeWhile q := by rw [funext h]
theorem digits_all {l : List UInt8} : ∀ b ∈ l.takeWhile digitB, digitB b = true := by
  intro b hb
  have := List.all_takeWhile (p := digitB) (l := l)
  exact List.all_eq_true.1 this b hb
theorem bt_zero {s : ByteArray} {b : UInt8} {r : List UInt8} (he : s.data.toList = b :: r) : bt s 0 = (b.toNat : Int) := bt_mid (pre := []) he
theorem bt_one {s : ByteArray} {b c : UInt8} {r : List UInt8} (he : s.data.toList = b :: c :: r) : bt s 1 = (c.toNat : Int) := bt_mid (pre := [b]) he
theorem u8_eq {b c : UInt8} : ((b.toNat : Int) == (c.toNat : Int)) = decide (b = c) := by
  rw [Bool.eq_iff_iff, beq_iff_eq, decide_eq_true_iff]
  exact ⟨fun h => UInt8.toNat_inj.1 (by omega), fun h => by rw [h]⟩
theorem two_ok {s : ByteArray} {b : UInt8} {r : List UInt8} (he : s.data.toList = b :: r) (sy : ∀ x : UInt8, x = b → (decide (indexL (x.toNat : Int) [43, 45, 42, 47, 40, 41, 123, 125, 44, 46, 64, 61, 33, 94] 0 < 0)) = !(inSet symbols b)) (hb : b = 33 ∨ b = 94) : (if decide ((2 : Int) > (s.size : Int)) = true then some ((⟨0, zeroS, 0, 0⟩ : DTok), ((0 : Int), (2 : Int))) else if decide (indexL (b.toNat : Int) [43, 45, 42, 47, 40, 41, 123, 125, 44, 46, 64, 61, 33, 94] 0 < 0) = true then some (⟨0, zeroS, 0, 0⟩, (0, 2)) else if decide ((0 : Int) ≤ 1 ∧ (1 : Int) < (s.size : Int)) = true then if (bt s 1 != 61) = true then some (⟨0, zeroS, 0, 0⟩, (0, 2)) else if decide ((0 : Int) ≤ 0 ∧ (0 : Int) ≤ 2 ∧ (2 : Int) ≤ (s.size : Int)) = true then some (⟨3, s.extract 0 2, 0, 0⟩, (2, 0)) else none else none) = some (symC b r) := by
  have hsym : inSet symbols b = true := by rcases hb with rfl | rfl <;> decide
  have hsz := str_size s
  rw [he] at hsz
  cases r with
  | nil =>
    have : (2 : Int) > (s.size : Int) := by simp only [List.length_cons, List.length_nil] at hsz; omega
    rw [if_pos (decide_eq_true this)]
    rfl
  | cons c r' =>
    simp only [List.length_cons] at hsz
    have h5 : ¬ (2 : Int) > (s.size : Int) := by omega
    rw [if_neg (by simpa using h5), sy b rfl, hsym, bt_one he, if_pos (decide_eq_true (show (0 : Int) ≤ 1 ∧ (1 : Int) < (s.size : Int) by omega)), if_pos (decide_eq_true (show (0 : Int) ≤ 0 ∧ (0 : Int) ≤ 2 ∧ (2 : Int) ≤ (s.size : Int) by omega)), extract_bs, he]
    have q61 : (((c.toNat : Nat) : Int) == 61) = decide (c = 61) := u8_eq (c := 61)
    simp only [bne, q61, symC]
    by_cases hc : c = 61 <;> simp [hc]
theorem lexer_token_ok {s : ByteArray} {b : UInt8} {r : List UInt8} (he : s.data.toList = b :: r) (hs : s.size ≤ big) : S_lexer_token L0 s = some (tokC (b :: r)) := by
  refine go_lexer_token _ ?_
  unfold B_lexer_token
  have hsz := str_size s
  rw [he, List.length_cons] at hsz
  have hin : (0 : Int) ≤ 0 ∧ (0 : Int) < (s.size : Int) := by omega
  have hp : ∀ set : ByteArray, S_lexer_prefix L0 (s, set) = some (bs ((b :: r).takeWhile (inSet set.data.toList))) := fun set => by rw [lexer_prefix_ok hs, he]
  simp only [decide_eq_true hin, if_true, bt_zero he, base_IndexByte_eq, Option.bind_some]
  rw [hp, hp]
  have c1 := letters_set b
  have c2 := digits_set b
  have t1 : (b :: r).takeWhile (inSet [97, 98, 99, 100, 101, 102, 103, 104, 105, 106, 107, 108, 109, 110, 111, 112, 113, 114, 115, 116, 117, 118, 119, 120, 121, 122, 48, 49, 50, 51, 52, 53, 54, 55, 56, 57, 95]) = (b :: r).takeWhile wordB := takeWhile_congr' words_set _
  have t2 : (b :: r).takeWhile (inSet [48, 49, 50, 51, 52, 53, 54, 55, 56, 57]) = (b :: r).takeWhile digitB := takeWhile_congr' digits_set _
  simp only [Option.bind_some]
  show (if decide (indexL (b.toNat : Int) [97, 98, 99, 100, 101, 102, 103, 104, 105, 106, 107, 108, 109, 110, 111, 112, 113, 114, 115, 116, 117, 118, 119, 120, 121, 122] 0 ≥ 0) = true then _ else if decide (indexL (b.toNat : Int) [48, 49, 50, 51, 52, 53, 54, 55, 56, 57] 0 ≥ 0) = true then _ else _) = _
  rw [c1, c2]
  show _ = some (tokC1 b r)
  unfold tokC1
  by_cases h1 : letterB b.toNat = true
  · rw [if_pos h1, if_pos h1]
    rw [show (bs ((b :: r).takeWhile (inSet (⟨#[97, 98, 99, 100, 101, 102, 103, 104, 105, 106, 107, 108, 109, 110, 111, 112, 113, 114, 115, 116, 117, 118, 119, 120, 121, 122, 48, 49, 50, 51, 52, 53, 54, 55, 56, 57, 95]⟩ : ByteArray).data.toList))) = bs ((b :: r).takeWhile wordB) from congrArg bs t1, bs_size]
    by_cases h2 : ((b :: r).takeWhile wordB).length > 16
    · have : (((b :: r).takeWhile wordB).length : Int) > 16 := by omega
      simp only [this, h2, decide_true, if_true]
    · have : ¬ (((b :: r).takeWhile wordB).length : Int) > 16 := by omega
      simp only [this, h2, decide_false, Bool.false_eq_true, if_false]
  rw [if_neg h1, if_neg h1]
  by_cases h2 : digitB b = true
  · rw [if_pos h2, if_pos h2]
    rw [show (bs ((b :: r).takeWhile (inSet (⟨#[48, 49, 50, 51, 52, 53, 54, 55, 56, 57]⟩ : ByteArray).data.toList))) = bs ((b :: r).takeWhile digitB) from congrArg bs t2]
    rw [lexer_number_ok (fun b' hb' => digits_all b' hb')]
    rw [bs_data, bs_size]
    cases numC ((b :: r).takeWhile digitB) 0 <;> rfl
  rw [if_neg h2, if_neg h2]
  have q34 : (((b.toNat : Nat) : Int) == 34) = decide (b = 34) := u8_eq (c := 34)
  have q33 : (((b.toNat : Nat) : Int) == 33) = decide (b = 33) := u8_eq (c := 33)
  have q94 : (((b.toNat : Nat) : Int) == 94) = decide (b = 94) := u8_eq (c := 94)
  rw [q34, q33, q94]
  by_cases h3 : b = 34
  · rw [if_pos (decide_eq_true h3), if_pos h3, if_pos (decide_eq_true (by omega)), extract_bs]
    have : (s.data.toList.take (Int.toNat (s.size : Int))).drop 1 = r := by
      rw [Int.toNat_natCast, he, hsz]
      simp
    rw [this, lexer_quoted_ok (by rw [bs_size]; omega), bs_data]
    rfl
  rw [if_neg (by simpa using h3), if_neg h3]
  have sy : ∀ x : UInt8, x = b → (decide (indexL (x.toNat : Int) [43, 45, 42, 47, 40, 41, 123, 125, 44, 46, 64, 61, 33, 94] 0 < 0)) = !(inSet symbols b) := fun x hx => by
    rw [hx]
    unfold inSet symbols
    rw [Bool.eq_iff_iff]
    simp
  by_cases h4 : b = 33
  · rw [if_pos (decide_eq_true h4), if_pos (Or.inl h4)]
    exact two_ok he sy (.inl h4)
  rw [if_neg (by simpa using h4)]
  by_cases h5 : b = 94
  · rw [if_pos (decide_eq_true h5), if_pos (Or.inr h5)]
    exact two_ok he sy (.inr h5)
  rw [if_neg (by simpa using h5)]
  have h6 : ¬ (1 : Int) > (s.size : Int) := by omega
  rw [if_neg (show ¬ decide ((1 : Int) > (s.size : Int)) = true by simpa using h6), if_neg (show ¬ (b = 33 ∨ b = 94) from fun h => h.elim h4 h5)]
  show (if decide (indexL (b.toNat : Int) [43, 45, 42, 47, 40, 41, 123, 125, 44, 46, 64, 61, 33, 94] 0 < 0) = true then _ else _) = _
  rw [sy b rfl, if_pos (decide_eq_true (show (0 : Int) ≤ 0 ∧ (0 : Int) ≤ 1 ∧ (1 : Int) ≤ (s.size : Int) by omega)), extract_bs, he]
  cases inSet symbols b <;> simp
def spaceB (b : UInt8) : Bool := b == 9 || b == 10 || b == 13 || b == 32
def setAt (t : DTok) (n : Int) : DTok := ⟨t.kind, t.text, t.n, n⟩
/-- All tokens from a place on: where it stops, its error, the tokens. -/
def scanC : Nat → List UInt8 → Nat → List DTok → Int × (Int × List DTok)
  | 0, _, _, out => (0, (0, out))
  | n + 1, l, at_, out =>
    let a := at_ + (l.takeWhile spaceB).length
    match l.dropWhile spaceB with
    | [] => (a, (0, out))
    | b :: r => match tokC (b :: r) with
      | (t, (k, e)) => if e ≠ 0 then (a, (e, out)) else scanC n ((b :: r).drop k.toNat) (a + k.toNat) (out ++ [setAt t a])
theorem tok_size (b : UInt8) (r : List UInt8) (h : (tokC (b :: r)).2.2 = 0) : 1 ≤ (tokC (b :: r)).2.1 ∧ (tokC (b :: r)).2.1 ≤ (((b :: r).length : Nat) : Int) := by
  have htw : ∀ p : UInt8 → Bool, ((b :: r).takeWhile p).length ≤ (b :: r).length := fun p => (List.takeWhile_sublist p).length_le
  have htp : ∀ p : UInt8 → Bool, p b = true → 1 ≤ ((b :: r).takeWhile p).length := fun p hp => by rw [List.takeWhile_cons, if_pos hp]; simp
  simp only [tokC] at h ⊢
  unfold tokC1 at h ⊢
  by_cases h1 : letterB b.toNat = true
  · rw [if_pos h1] at h ⊢
    have hw : wordB b = true := by unfold wordB; rw [h1]; rfl
    split at h
    · cases h
    · rename_i hl
      rw [if_neg hl]
      have := htw wordB
      have := htp wordB hw
      dsimp only
      exact ⟨by omega, by omega⟩
  rw [if_neg h1] at h ⊢
  by_cases h2 : digitB b = true
  · rw [if_pos h2] at h ⊢
    split at h
    · cases h
    · rename_i m hm
      simp only
      have := htw digitB
      have := htp digitB h2
      exact ⟨by omega, by omega⟩
  rw [if_neg h2] at h ⊢
  by_cases h3 : b = 34
  · rw [if_pos h3] at h ⊢
    unfold quotedC at h ⊢
    have hx := indexL_upTo 34 r 0 (by omega)
    cases hu : upTo 34 r with
    | none => rw [hu] at h; cases h
    | some a =>
      rw [hu] at h hx
      obtain ⟨_, h5, _⟩ := hx
      simp only at h ⊢
      cases ht : a.all textB with
      | false => rw [ht] at h; cases h
      | true =>
        rw [ht] at h
        simp only [quotedR] at h ⊢
        split at h
        · cases h
        · rename_i hl
          rw [if_neg hl, bs_size, List.length_cons]
          rw [bs_size] at hl
          dsimp only
          exact ⟨by omega, by omega⟩
  rw [if_neg h3] at h ⊢
  by_cases h4 : b = 33 ∨ b = 94
  · rw [if_pos h4] at h ⊢
    cases r with
    | nil => cases h
    | cons c r =>
      simp only [symC] at h ⊢
      split at h
      · rename_i hc
        rw [if_pos hc]
        simp only [List.length_cons]
        exact ⟨by omega, by omega⟩
      · cases h
  rw [if_neg h4] at h ⊢
  split at h
  · rename_i hc
    rw [if_pos hc]
    simp only [List.length_cons]
    exact ⟨by omega, by omega⟩
  · cases h
theorem takeWhile_drop {p : UInt8 → Bool} (l : List UInt8) : l.takeWhile p ++ l.dropWhile p = l := List.takeWhile_append_dropWhile
theorem trim_ok {s : ByteArray} : base_TrimLeft (s, (⟨#[9, 10, 13, 32]⟩ : ByteArray)) = some (bs (s.data.toList.dropWhile spaceB)) := by
  unfold base_TrimLeft trimLeftF
  show (if ((⟨#[9, 10, 13, 32]⟩ : ByteArray).data.toList.all (fun b => decide (b.toNat < 128)) && decide ((⟨#[9, 10, 13, 32]⟩ : ByteArray).size < 4294967281)) = true then _ else _) = _
  rw [if_pos (by decide)]
  congr 2
  have : (fun b => List.contains (⟨#[9, 10, 13, 32]⟩ : ByteArray).data.toList b) = spaceB := by
    funext b
    have := all_bytes (p := fun b => List.contains (⟨#[9, 10, 13, 32]⟩ : ByteArray).data.toList b == spaceB b) (by decide +kernel) b
    simpa using this
  show List.toArray (List.dropWhile (fun b => List.contains _ b) _) = _
  rw [this]
theorem scanner_loop (s : ByteArray) (hs : s.size ≤ 2000) : ∀ (n : Nat) (suf pre : List UInt8) (out : List DTok), s.data.toList = pre ++ suf → suf.length < n → out.length ≤ pre.length →
    P_lexer_scanner_all_0 L0 ((s, ((pre.length : Int), 0)), out) = some ((s, ((scanC n suf pre.length out).1, (scanC n suf pre.length out).2.1)), (scanC n suf pre.length out).2.2)
  | 0, suf, pre, out, he, hn, ho => by omega
  | n + 1, suf, pre, out, he, hn, ho => by
    refine go_lexer_scanner_all_0 _ _ _ _ ?_
    unfold B_lexer_scanner_all_0
    have hsz := str_size s
    rw [he, List.length_append] at hsz
    rw [if_pos (decide_eq_true (show (0 : Int) ≤ (pre.length : Int) ∧ (pre.length : Int) ≤ (s.size : Int) ∧ (s.size : Int) ≤ (s.size : Int) by omega))]
    have hex : s.extract (Int.toNat (pre.length : Int)) (Int.toNat (s.size : Int)) = bs suf := by
      rw [extract_bs, Int.toNat_natCast, Int.toNat_natCast, he]
      congr 1
      rw [List.take_of_length_le (by rw [List.length_append]; omega)]
      simp
    rw [hex, trim_ok, bs_data]
    simp only [Option.bind_some]
    have hsplit := takeWhile_drop (p := spaceB) suf
    have hlen : suf.length = (suf.takeWhile spaceB).length + (suf.dropWhile spaceB).length := by rw [← List.length_append, hsplit]
    have ha : IntKind.wrap .i64 ((s.size : Int) - ((bs (suf.dropWhile spaceB)).size : Int)) = ((pre.length + (suf.takeWhile spaceB).length : Nat) : Int) := by
      rw [bs_size, wrap64 (by omega) (by omega)]
      omega
    rw [ha, scanC]
    cases hd : suf.dropWhile spaceB with
    | nil =>
      have : ((bs ([] : List UInt8)).toList == zeroS.toList) = true := by rw [str_beq]; rfl
      rw [if_pos this]
    | cons b r =>
      have hne : ((bs (b :: r)).toList == zeroS.toList) = false := by
        rw [str_beq, decide_eq_false_iff_not]
        intro h
        have := (str_nil _).1 h
        cases this
      rw [hne, lexer_token_ok (s := bs (b :: r)) rfl (by rw [bs_size]; rw [hd] at hlen; unfold big; omega)]
      simp only [Bool.false_eq_true, if_false, Option.bind_some]
      rw [hd] at hlen
      have hts := tok_size b r
      cases htk : tokC (b :: r) with
      | mk t ke =>
        obtain ⟨k, e⟩ := ke
        rw [htk] at hts
        dsimp only at hts
        simp only
        by_cases h0 : e = 0
        · obtain ⟨k1, k2⟩ := hts h0
          have hb1 : (e != 0) = false := by simp [h0]
          rw [hb1]
          simp only [Bool.false_eq_true, if_false, h0, ne_eq, not_true_eq_false]
          obtain ⟨kn, rfl⟩ := Int.eq_ofNat_of_zero_le (show (0 : Int) ≤ k by omega)
          have hkn : kn ≤ (b :: r).length := by omega
          rw [show (⟨t.kind, t.text, t.n, ((pre.length + (suf.takeWhile spaceB).length : Nat) : Int)⟩ : DTok) = setAt t ((pre.length + (suf.takeWhile spaceB).length : Nat) : Int) from rfl]
          rw [Y_lexer_Tokens_ok _ _ (by omega)]
          simp only [Option.bind_some, Bool.not_true, Bool.false_eq_true, if_false, Int.toNat_natCast]
          have hw : IntKind.wrap .i64 (((pre.length + (suf.takeWhile spaceB).length : Nat) : Int) + (kn : Int)) = ((pre.length + (suf.takeWhile spaceB).length + kn : Nat) : Int) := by
            rw [wrap64 (by omega) (by omega)]
            omega
          rw [hw]
          have hpre : (pre ++ suf.takeWhile spaceB ++ (b :: r).take kn).length = pre.length + (suf.takeWhile spaceB).length + kn := by
            simp only [List.length_append, List.length_take]
            omega
          have ih := scanner_loop s hs n ((b :: r).drop kn) (pre ++ suf.takeWhile spaceB ++ (b :: r).take kn) (out ++ [setAt t ((pre.length + (suf.takeWhile spaceB).length : Nat) : Int)])
            (by rw [List.append_assoc, List.take_append_drop, ← hd, List.append_assoc, hsplit, he]) (by rw [List.length_drop]; omega) (by rw [hpre, List.length_append, List.length_singleton]; omega)
          rw [hpre] at ih
          exact ih
        · have hb1 : (e != 0) = true := by simp [h0]
          rw [hb1]
          simp [h0]
/-- The tokens of a source, or a place and an error. -/
def tokensC (l : List UInt8) : List DTok × (Int × Int) :=
  if l.length > 2000 then ([], (2000, 4)) else
  match scanC (l.length + 1) l 0 [] with
  | (a, (e, out)) => if e ≠ 0 then ([], (a, e)) else (out, (0, 0))
theorem lexer_Tokens_ok (s : ByteArray) : S_lexer_Tokens L0 s = some (tokensC s.data.toList) := by
  refine go_lexer_Tokens _ ?_
  unfold B_lexer_Tokens tokensC
  have hsz := str_size s
  by_cases h : s.data.toList.length > 2000
  · have : (s.size : Int) > 2000 := by omega
    rw [if_pos (decide_eq_true this), if_pos h]
  · have h1 : ¬ (s.size : Int) > 2000 := by omega
    rw [if_neg (by simpa using h1), if_neg h]
    have hl := scanner_loop s (by omega) (s.data.toList.length + 1) s.data.toList [] [] rfl (by omega) (by simp)
    have ha : S_lexer_scanner_all L0 ((s, ((0 : Int), (0 : Int))), ([] : List DTok)) = _ := go_lexer_scanner_all _ _ _ _ (by unfold B_lexer_scanner_all; exact hl)
    rw [ha]
    simp only [Option.bind_some, List.length_nil]
    generalize scanC (s.data.toList.length + 1) s.data.toList 0 [] = q
    obtain ⟨a, e, out⟩ := q
    by_cases h0 : e = 0 <;> simp [h0]
end Go.AM
/-
  The reader of tokens: what its small functions compute.
-/
namespace Go.AM
open Go
set_option maxRecDepth 100000
def isT (t : DTok) (s : ByteArray) : Bool := decide (t.text = s) && (t.kind == 0 || t.kind == 3)
def isL (s : ByteArray) : List DTok → Bool
  | [] => false
  | t :: _ => isT t s
def failC (e : Int) (n : Int) : List DTok → DFrac
  | [] => ⟨n, e⟩
  | t :: _ => ⟨t.at_, e⟩
theorem reader_is_ok (s : ByteArray) (l : List DTok) (n : Int) : S_parser_reader_is L0 (s, (l, n)) = some (isL s l, (l, n)) := by
  refine go_parser_reader_is _ _ _ ?_
  unfold B_parser_reader_is
  cases l with
  | nil => rfl
  | cons t l =>
    have h1 : (((t :: l).length : Nat) : Int) > 0 := by simp only [List.length_cons]; omega
    have h2 : (0 : Int) ≤ 0 ∧ (0 : Int) < (((t :: l).length : Nat) : Int) := by omega
    simp only [h1, decide_eq_true h2, decide_true, if_true, List.getD_cons_zero, str_beq, isL, isT]
    by_cases h3 : t.text = s
    · by_cases h4 : t.kind = 0 <;> simp [h3, h4]
    · simp [h3]
theorem drop_one {A : Type} (t : A) (l : List A) : List.take (Int.toNat ((((t :: l).length : Nat) : Int) - 1)) (List.drop 1 (t :: l)) = l := by
  simp only [List.length_cons, List.drop_succ_cons, List.drop_zero]
  rw [List.take_of_length_le (by omega)]
theorem reader_accept_ok (s : ByteArray) (l : List DTok) (n : Int) : S_parser_reader_accept L0 (s, (l, n)) = some (isL s l, ((if isL s l = true then l.tail else l), n)) := by
  refine go_parser_reader_accept _ _ _ ?_
  unfold B_parser_reader_accept
  rw [reader_is_ok]
  cases l with
  | nil => rfl
  | cons t l =>
    have h2 : (0 : Int) ≤ 1 ∧ (1 : Int) ≤ (((t :: l).length : Nat) : Int) ∧ (((t :: l).length : Nat) : Int) ≤ (((t :: l).length : Nat) : Int) := by simp only [List.length_cons]; omega
    simp only [Option.bind_some, decide_eq_true h2, if_true, List.tail_cons]
    cases h : isL s (t :: l)
    · simp
    · simp only [if_true]
      rw [drop_one]
theorem reader_fail_ok (e : Int) (l : List DTok) (n : Int) : S_parser_reader_fail L0 (e, (l, n)) = some (.error (failC e n l)) := by
  refine go_parser_reader_fail _ _ _ ?_
  unfold B_parser_reader_fail
  cases l with
  | nil => rfl
  | cons t l =>
    have h1 : (((t :: l).length : Nat) : Int) > 0 := by simp only [List.length_cons]; omega
    have h2 : (0 : Int) ≤ 0 ∧ (0 : Int) < (((t :: l).length : Nat) : Int) := by omega
    rw [if_pos (decide_eq_true h1), if_pos (decide_eq_true h2)]
    rfl
theorem reader_expect_ok (s : ByteArray) (l : List DTok) (n : Int) : S_parser_reader_expect L0 (s, (l, n)) = some (if isL s l = true then .ok (l.tail, n) else .error (failC 2 n l)) := by
  refine go_parser_reader_expect _ _ _ ?_
  unfold B_parser_reader_expect
  rw [reader_accept_ok]
  simp only [Option.bind_some]
  cases h : isL s l
  · simp only [Bool.not_false, if_true, Bool.false_eq_true, if_false, reader_fail_ok]
    rfl
  · simp
def peekC (k : Int) (n : Int) : List DTok → Except DFrac (DTok × ((List DTok) × Int))
  | [] => .error ⟨n, 2⟩
  | t :: l => if t.kind = k then .ok (t, (t :: l, n)) else .error ⟨t.at_, 2⟩
theorem reader_peek_ok (k : Int) (l : List DTok) (n : Int) : S_parser_reader_peek L0 (k, (l, n)) = some (peekC k n l) := by
  refine go_parser_reader_peek _ _ _ ?_
  unfold B_parser_reader_peek
  cases l with
  | nil =>
    rw [reader_fail_ok]
    rfl
  | cons t l =>
    have h0 : ((((t :: l).length : Nat) : Int) == 0) = false := by simp only [List.length_cons, beq_eq_false_iff_ne]; omega
    have h2 : (0 : Int) ≤ 0 ∧ (0 : Int) < (((t :: l).length : Nat) : Int) := by simp only [List.length_cons]; omega
    simp only [h0, Bool.false_eq_true, if_false, decide_eq_true h2, if_true, List.getD_cons_zero, reader_fail_ok, peekC, bne, failC]
    by_cases h : t.kind = k
    · simp [h]
    · simp [h, exc]
def takeC (k : Int) (n : Int) : List DTok → Except DFrac (DTok × ((List DTok) × Int))
  | [] => .error ⟨n, 2⟩
  | t :: l => if t.kind = k then .ok (t, (l, n)) else .error ⟨t.at_, 2⟩
theorem reader_take_ok (k : Int) (l : List DTok) (n : Int) : S_parser_reader_take L0 (k, (l, n)) = some (takeC k n l) := by
  refine go_parser_reader_take _ _ _ ?_
  unfold B_parser_reader_take
  rw [reader_peek_ok]
  cases l with
  | nil => rfl
  | cons t l =>
    have h2 : (0 : Int) ≤ 1 ∧ (1 : Int) ≤ (((t :: l).length : Nat) : Int) ∧ (((t :: l).length : Nat) : Int) ≤ (((t :: l).length : Nat) : Int) := by simp only [List.length_cons]; omega
    unfold peekC takeC
    by_cases h : t.kind = k
    · simp only [h, if_true, exc, Option.bind_some, decide_eq_true h2]
      rw [drop_one]
    · simp [h, exc]
def numberC (lo hi : Int) (n : Int) : List DTok → Except DFrac (Int × ((List DTok) × Int))
  | [] => .error ⟨n, 2⟩
  | t :: l => if t.kind = 1 then (if t.n < lo ∨ t.n > hi then .error ⟨t.at_, 5⟩ else .ok (t.n, (l, n))) else .error ⟨t.at_, 2⟩
theorem reader_number_ok (lo hi : Int) (l : List DTok) (n : Int) : S_parser_reader_number L0 ((lo, hi), (l, n)) = some (numberC lo hi n l) := by
  refine go_parser_reader_number _ _ _ _ ?_
  unfold B_parser_reader_number
  rw [reader_peek_ok]
  cases l with
  | nil => rfl
  | cons t l =>
    unfold peekC numberC
    by_cases h : t.kind = 1
    · simp only [h, if_true, exc, Option.bind_some, reader_fail_ok, failC, reader_take_ok, takeC]
      by_cases h1 : t.n < lo
      · simp [h1]
      · by_cases h2 : t.n > hi
        · simp [h1, h2]
        · simp [h1, h2]
    · simp [h, exc]
theorem parser_binary_ok (f : Int) (a b : DExpr) : S_parser_binary L0 (f, (a, b)) = some ⟨3, f, 0, 0, 0, ⟨0, 0⟩, zeroS, [], [], [a, b]⟩ := by
  refine go_parser_binary _ _ _ ?_
  unfold B_parser_binary
  simp
def findD (s : ByteArray) : List ByteArray → Int → Int
  | [], _ => -1
  | a :: l, i => if decide (a = s) = true then i else findD s l (i + 1)
theorem findI_dec (s : ByteArray) : ∀ (l : List ByteArray) (i : Int), findI s l i = findD s l i
  | [], _ => rfl
  | a :: l, i => by
    have : same a s = decide (a = s) := by rw [Bool.eq_iff_iff, same_iff, decide_eq_true_iff]
    rw [findI, findD, this, findI_dec s l (i + 1)]
/-- The documented example: its tokens. -/
def liveT : List DTok := [⟨0, bs [97], 0, 0⟩, ⟨3, bs [46], 0, 1⟩, ⟨0, bs [109, 101, 97, 110], 0, 2⟩, ⟨3, bs [40], 0, 6⟩, ⟨1, bs [51], 3, 7⟩, ⟨3, bs [41], 0, 8⟩, ⟨3, bs [64], 0, 9⟩, ⟨1, bs [49], 1, 10⟩, ⟨3, bs [45], 0, 12⟩, ⟨1, bs [50], 2, 14⟩]
abbrev liveS : ByteArray := ⟨#[97, 46, 109, 101, 97, 110, 40, 51, 41, 64, 49, 32, 45, 32, 50]⟩
theorem live_tokens : S_lexer_Tokens L0 liveS = some (liveT, (0, 0)) := by
  rw [lexer_Tokens_ok]
  exact congrArg some (by kernel_rfl)
def liveA : DExpr := ⟨1, 4, 3, 1, 0, ⟨0, 0⟩, bs [97], [], [], []⟩
def liveB : DExpr := ⟨0, 0, 0, 0, 0, ⟨2, 1⟩, zeroS, [], [], []⟩
def liveE : DExpr := ⟨3, 1, 0, 0, 0, ⟨0, 0⟩, zeroS, [], [], [liveA, liveB]⟩
theorem live_function (n : Int) : S_parser_reader_function L0 ((liveT.drop 2, n), (⟨1, 0, 0, 0, 0, ⟨0, 0⟩, bs [97], [], [], []⟩ : DExpr)) = some (.ok ((liveT.drop 6, n), ⟨1, 4, 3, 0, 0, ⟨0, 0⟩, bs [97], [], [], []⟩)) := by
  refine go_parser_reader_function _ _ _ ?_
  unfold B_parser_reader_function
  have hi : S_slices_Index_string L0 (List.take 8 (List.drop 0 wFuncs), bs [109, 101, 97, 110]) = some 4 := by
    rw [slices_Index_string_ok _ (by decide), findI_dec]
    exact congrArg some (by kernel_rfl)
  rw [reader_peek_ok]
  show exc (some (peekC 0 n (liveT.drop 2))) _ _ = _
  have hp : peekC 0 n (liveT.drop 2) = .ok (⟨0, bs [109, 101, 97, 110], 0, 2⟩, (liveT.drop 2, n)) := rfl
  rw [hp]
  simp only [exc, Option.bind_some]
  refine (congrArg (Option.bind · _) hi).trans ?_
  simp only [Option.bind_some]
  have ht : takeC 0 n (liveT.drop 2) = .ok (⟨0, bs [109, 101, 97, 110], 0, 2⟩, (liveT.drop 3, n)) := rfl
  have h1 : isL ⟨#[40]⟩ (liveT.drop 3) = true := rfl
  have h2 : numberC 1 4096 n (liveT.drop 3).tail = .ok (3, (liveT.drop 5, n)) := rfl
  have h3 : isL ⟨#[41]⟩ (liveT.drop 5) = true := rfl
  simp [reader_take_ok, ht, exc, reader_expect_ok, h1, reader_number_ok, h2, h3]
  rfl
theorem live_selection (n : Int) : S_parser_reader_selection L0 (liveT, n) = some (.ok (liveA, (liveT.drop 8, n))) := by
  refine go_parser_reader_selection _ _ ?_
  unfold B_parser_reader_selection
  have ht : takeC 0 n liveT = .ok (⟨0, bs [97], 0, 0⟩, (liveT.drop 1, n)) := rfl
  have h1 : isL ⟨#[123]⟩ (liveT.drop 1) = false := rfl
  have h2 : isL ⟨#[46]⟩ (liveT.drop 1) = true := rfl
  have h3 : isL ⟨#[64]⟩ (liveT.drop 6) = true := rfl
  have h4 : numberC 0 4096 n (liveT.drop 6).tail = .ok (1, (liveT.drop 8, n)) := rfl
  have hf := live_function n
  have hf' : S_parser_reader_function L0 (((liveT.drop 1).tail, n), (⟨1, 0, 0, 0, 0, ⟨0, 0⟩, bs [97], [], [], []⟩ : DExpr)) = some (.ok ((liveT.drop 6, n), ⟨1, 4, 3, 0, 0, ⟨0, 0⟩, bs [97], [], [], []⟩)) := hf
  simp only [reader_take_ok, ht, exc, Option.bind_some, reader_accept_ok, h1, h2, h3, Bool.false_eq_true, if_false, if_true, hf', eE_eq, reader_number_ok, h4]
  rfl
theorem live_factorA (n : Int) : S_parser_reader_factor L0 (liveT, n) = some (.ok (liveA, (liveT.drop 8, n))) := by
  refine go_parser_reader_factor _ _ ?_
  unfold B_parser_reader_factor
  have h0 : isL ⟨#[40]⟩ liveT = false := rfl
  have hp : peekC 0 n liveT = .ok (⟨0, bs [97], 0, 0⟩, (liveT, n)) := rfl
  have hc : S_slices_Contains_string L0 (List.take 5 (List.drop 0 wGroups), bs [97]) = some false := by
    rw [slices_Contains_string_ok _ (by decide)]
    unfold hasS
    rw [findI_dec]
    exact congrArg some (by kernel_rfl)
  have hl : ((liveT.length : Nat) : Int) > 0 := by decide
  have hk : ((liveT.getD 0 (dflt .tok)).kind == 1) = false := rfl
  simp only [reader_accept_ok, h0, Option.bind_some, Bool.false_eq_true, if_false, reader_peek_ok, hp, exc]
  rw [if_pos (decide_eq_true hl), if_pos (decide_eq_true (show (0 : Int) ≤ 0 ∧ (0 : Int) < ((liveT.length : Nat) : Int) from ⟨by decide, hl⟩))]
  refine (if_neg (by rw [hk]; decide)).trans ?_
  refine (congrArg (Option.bind · _) hc).trans ?_
  simp only [Option.bind_some, Bool.false_eq_true, if_false, live_selection, exc, eE_eq]
theorem live_factorB (n : Int) : S_parser_reader_factor L0 (liveT.drop 9, n) = some (.ok (liveB, ([], n))) := by
  refine go_parser_reader_factor _ _ ?_
  unfold B_parser_reader_factor
  have h0 : isL ⟨#[40]⟩ (liveT.drop 9) = false := rfl
  have hl : (((liveT.drop 9).length : Nat) : Int) > 0 := by decide
  have hk : (((liveT.drop 9).getD 0 (dflt .tok)).kind == 1) = true := rfl
  have hn : numberC 0 1073741824 n (liveT.drop 9) = .ok (2, ([], n)) := rfl
  simp only [reader_accept_ok, h0, Option.bind_some, Bool.false_eq_true, if_false, reader_number_ok, hn, exc]
  rw [if_pos (decide_eq_true hl), if_pos (decide_eq_true (show (0 : Int) ≤ 0 ∧ (0 : Int) < (((liveT.drop 9).length : Nat) : Int) from ⟨by decide, hl⟩))]
  refine (if_pos hk).trans ?_
  rfl
theorem term_end (l : List DTok) (n : Int) (z2 z3 z4 z5 z6 z7 z8 : Int) (z9 : ByteArray) (e : DExpr) (z11 : List DMatcher) (z12 : List ByteArray) (z13 : List DExpr) (h1 : isL ⟨#[42]⟩ l = false) (h2 : isL ⟨#[47]⟩ l = false) :
    P_parser_reader_term_0 L0 ((l, n), ((z2, (z3, (z4, (z5, (z6, (z7, (z8, z9))))))), (e, (z11, (z12, z13))))) = some (.ok (e, (l, n))) := by
  refine go_parser_reader_term_0 _ _ _ _ _ _ _ _ _ _ _ _ _ _ ?_
  unfold B_parser_reader_term_0
  simp [reader_accept_ok, h1, h2]
theorem live_termA (n : Int) : S_parser_reader_term L0 (liveT, n) = some (.ok (liveA, (liveT.drop 8, n))) := by
  refine go_parser_reader_term _ _ ?_
  unfold B_parser_reader_term
  rw [live_factorA]
  exact term_end _ _ _ _ _ _ _ _ _ _ _ _ _ _ rfl rfl
theorem live_termB (n : Int) : S_parser_reader_term L0 (liveT.drop 9, n) = some (.ok (liveB, ([], n))) := by
  refine go_parser_reader_term _ _ ?_
  unfold B_parser_reader_term
  rw [live_factorB]
  exact term_end _ _ _ _ _ _ _ _ _ _ _ _ _ _ rfl rfl
theorem live_expression (n : Int) : S_parser_reader_expression L0 (liveT, n) = some (.ok (liveE, ([], n))) := by
  refine go_parser_reader_expression _ _ ?_
  unfold B_parser_reader_expression
  rw [live_termA]
  simp only [exc, Option.bind_some]
  refine go_parser_reader_expression_0 _ _ _ _ _ _ _ _ _ _ _ _ _ _ ?_
  unfold B_parser_reader_expression_0
  have h1 : isL ⟨#[43]⟩ (liveT.drop 8) = false := rfl
  have h2 : isL ⟨#[45]⟩ (liveT.drop 8) = true := rfl
  have hb : S_parser_reader_term L0 ((liveT.drop 8).tail, n) = some (.ok (liveB, ([], n))) := live_termB n
  simp only [reader_accept_ok, h1, h2, Option.bind_some, Bool.false_eq_true, if_false, if_true, hb, exc, parser_binary_ok, eE_eq]
  refine go_parser_reader_expression_0 _ _ _ _ _ _ _ _ _ _ _ _ _ _ ?_
  unfold B_parser_reader_expression_0
  simp [reader_accept_ok, isL, liveE]
theorem live_few : nodes liveE = 3 ∧ depth liveE = 2 := by decide +kernel
theorem live_wf : Wf liveE := by
  refine .mk _ (by unfold I64; decide) (by unfold I64; decide) (by unfold I64; decide) (by decide) (by decide) ?_
  intro k hk
  have hk : k ∈ [liveA, liveB] := hk
  simp only [List.mem_cons, List.not_mem_nil, or_false] at hk
  rcases hk with rfl | rfl <;> exact .mk _ (by unfold I64; decide) (by unfold I64; decide) (by unfold I64; decide) (by decide) (by decide) (fun k hk => by cases hk)
theorem live_Few : Few liveE := by unfold Few; rw [live_few.1]; decide
theorem live_parse : S_parser_Parse L0 liveS = some (liveE, (0, 0)) := by
  refine go_parser_Parse _ ?_
  unfold B_parser_Parse
  rw [live_tokens]
  have hl : large liveE = false := by unfold large; rw [live_few.1, live_few.2]; decide
  simp [live_expression, exc, parser_tooLarge_ok live_Few, hl]
end Go.AM
/-
  Plans of valid trees give the trees back; the documented example; PlanLimits.
-/
namespace Go.AM
open Go
set_option maxRecDepth 100000
theorem foldT_append : ∀ (p q : List DIns) (st : List DExpr), foldT (p ++ q) st = (foldT p st).bind (foldT q)
  | [], q, st => rfl
  | i :: p, q, st => by
    simp only [List.cons_append, foldT]
    cases plant i st with
    | none => rfl
    | some s => simp only [Option.bind_some]; exact foldT_append p q s
theorem shaped_kids {e : DExpr} (h : shapedB e = true) : 0 ≤ e.kind ∧ e.kind ≤ 3 ∧ e.kids.length = pops e.kind := by
  unfold shapedB at h
  unfold pops
  split at h
  · simp only [Bool.and_eq_true, decide_eq_true_eq] at h; rename_i hk; rw [hk]; simp; simpa using h.1.1.1.1.1.1.2
  split at h
  · simp only [Bool.and_eq_true, decide_eq_true_eq] at h; rename_i hk; rw [hk]; simp; simpa using h.1.1.1.2
  split at h
  · simp only [Bool.and_eq_true, decide_eq_true_eq] at h; rename_i hk; rw [hk]; simp; exact h.1.1.1.1.1.1.2
  split at h
  · simp only [Bool.and_eq_true, decide_eq_true_eq] at h; rename_i hk; rw [hk]; simp; exact h.1.1.1.1.1.1.1.1.2
  · cases h
theorem exprOf_insOf (e : DExpr) : exprOf (insOf e) e.kids = e := by cases e; rfl
theorem foldT_post : ∀ n, ∀ (e : DExpr) (st : List DExpr), nodes e ≤ n → validC e = 0 → foldT (postC e) st = some (st ++ [e]) := by
  intro n
  induction n with
  | zero => intro e st h; have := nodes_pos e; omega
  | succ n ih =>
    intro e st h hv
    obtain ⟨h1, _, _, _, _, h6⟩ := validC_parts hv
    obtain ⟨k0, k1, k2⟩ := shaped_kids h1
    rw [nodes_eq] at h
    have hL : ∀ (l : List DExpr) (st : List DExpr), nodesL l ≤ n → validL l = 0 → foldT (postL l) st = some (st ++ l) := by
      intro l
      induction l with
      | nil => intro st _ _; simp [postL, foldT]
      | cons k l ihl =>
        intro st hn hv
        rw [nodesL] at hn
        have hk := validL_mem hv k (by simp)
        have hl : validL l = 0 := by rw [validL, if_pos hk] at hv; exact hv
        rw [postL, foldT_append, ih k st (by omega) hk, Option.bind_some, ihl _ (by omega) hl]
        simp
    rw [postC_eq, foldT_append, hL e.kids st (by omega) h6, Option.bind_some, foldT, plant_app (i := insOf e) k0 k1 k2, exprOf_insOf]
    rfl
theorem treeC_post {e : DExpr} (h : ValidC e = 0) : treeC (postC e) = (e, 0) := by
  obtain ⟨_, h2, h3⟩ := ValidC_zero h
  unfold treeC
  rw [postC_length _ e (Nat.le_refl _), if_neg (by omega), foldT_post _ e [] (Nat.le_refl _) h3]
  simp [endT, h]
theorem wfI_of {e : DExpr} (hw : Wf e) (hs : Small e) : WfI (insOf e) :=
  ⟨hw.kind, hw.num, hw.den, by have := hs.ms; show e.ms.length * 40 ≤ big; unfold big; omega, by have := hs.bys; show e.by_.length * 16 ≤ big; unfold big; omega⟩
theorem wfI_post : ∀ n, ∀ e : DExpr, nodes e ≤ n → Wf e → Small e → ∀ i ∈ postC e, WfI i := by
  intro n
  induction n with
  | zero => intro e h; have := nodes_pos e; omega
  | succ n ih =>
    intro e h hw hs i hi
    rw [nodes_eq] at h
    rw [postC_eq] at hi
    rcases List.mem_append.1 hi with hi | hi
    · have hL : ∀ l : List DExpr, nodesL l ≤ n → (∀ k ∈ l, Wf k ∧ Small k) → ∀ i ∈ postL l, WfI i := by
        intro l
        induction l with
        | nil => intro _ _ i hi; simp [postL] at hi
        | cons k l ihl =>
          intro hn hk i hi
          rw [nodesL] at hn
          rw [postL] at hi
          rcases List.mem_append.1 hi with hi | hi
          · exact ih k (by omega) (hk k (by simp)).1 (hk k (by simp)).2 i hi
          · exact ihl (by omega) (fun k' hk' => hk k' (by simp [hk'])) i hi
      exact hL e.kids (by omega) (fun k hk => ⟨hw.kid hk, hs.kid hk⟩) i hi
    · rw [List.mem_singleton.1 hi]; exact wfI_of hw hs
theorem wfI_compile {e : DExpr} (hw : Wf e) : ∀ i ∈ (compileC e).1, WfI i := by
  unfold compileC
  split
  · rename_i h
    obtain ⟨_, _, h3⟩ := ValidC_zero h
    exact wfI_post _ e (Nat.le_refl _) hw (small_of_valid _ e (Nat.le_refl _) h3)
  · intro i hi; cases hi

theorem live_valid : ValidC liveE = 0 := by
  have hl : large liveE = false := by unfold large; rw [live_few.1, live_few.2]; decide
  have sA : shapedB liveA = true := by unfold shapedB liveA; simp
  have sB : shapedB liveB = true := by unfold shapedB liveB; simp [same_self]; decide
  have sE : shapedB liveE = true := by unfold shapedB liveE; simp [same_self]
  have nm : nameB (bs [97]) = true := by decide
  have hs : hasS wGroups (bs [97]) = false := by unfold hasS; rw [findI_dec]; kernel_rfl
  have nA : namedB liveA = true := by unfold namedB liveA; simp [nm, hs, bysB, bysFrom]
  have nB : namedB liveB = true := by unfold namedB liveB; simp [bysB, bysFrom]
  have nE : namedB liveE = true := by unfold namedB liveE; simp [bysB, bysFrom]
  have rA : rangedB liveA = true := by decide
  have rB : rangedB liveB = true := by decide
  have rE : rangedB liveE = true := by decide
  have vA : validC liveA = 0 := by rw [validC_eq, sA, nA, rA]; simp [liveA, validL]
  have vB : validC liveB = 0 := by rw [validC_eq, sB, nB, rB]; simp [liveB, validL]
  have vE : validC liveE = 0 := by rw [validC_eq, sE, nE, rE]; simp [liveE, validL, vA, vB]
  unfold ValidC
  rw [hl]
  simpa using vE
abbrev binI : DIns := ⟨3, 0, 0, 0, 0, ⟨0, 0⟩, zeroS, [], []⟩
theorem binI_wf : WfI binI := ⟨by unfold I64; decide, by unfold I64; decide, by unfold I64; decide, by decide, by decide⟩
theorem lives_ok : S_law23_lives L0 () = some true := by
  refine go_law23_lives ?_
  unfold B_law23_lives
  have hp : S_parser_Parse L0 (⟨#[97, 46, 109, 101, 97, 110, 40, 51, 41, 64, 49, 32, 45, 32, 50]⟩ : ByteArray) = some (liveE, (0, 0)) := live_parse
  have hc : S_plan_Compile L0 liveE = some (postC liveE, 0) := by
    rw [plan_Compile_ok live_Few live_wf]
    unfold compileC
    rw [if_pos live_valid]
  have hk : S_plan_Check L0 [binI] = some 1 := by
    rw [plan_Check_ok (by intro i hi; rw [List.mem_singleton.1 hi]; exact binI_wf)]
    rfl
  have hpost : postC liveE = [insOf liveA, insOf liveB, insOf liveE] := by rfl
  have hr : S_plan_Reach L0 (postC liveE) = some (-3) := by
    rw [plan_Reach_ok (wfI_post _ liveE (Nat.le_refl _) live_wf (small_of_valid _ _ (Nat.le_refl _) (ValidC_zero live_valid).2.2)) (by rw [hpost]; decide)]
    unfold reachC
    rw [treeC_post live_valid, if_pos rfl, hpost]
    rfl
  rw [hp]
  simp only [Option.bind_some, eE_eq, hc]
  rw [show S_plan_Check L0 ((DIns.mk (3 : Int) (0 : Int) (0 : Int) (0 : Int) (0 : Int) (DFrac.mk (0 : Int) (0 : Int)) zeroS ([] : List DMatcher) ([] : List ByteArray)) :: ([] : List DIns)) = some 1 from hk]
  simp only [Option.bind_some, hr]
  rw [hpost]
  rfl

/-- Around. -/
def aroundC (n m : Int) : Int := if n < 0 then (-(n + 1)) % m else n % m
theorem Around_ok {n m : Int} (h : I64 n) (hm : 0 < m) : S_ref01_Around L0 (n, m) = some (aroundC n m) := by
  refine go_ref01_Around _ _ ?_
  unfold B_ref01_Around aroundC
  obtain ⟨h1, h2⟩ := h
  have hm' : m ≠ 0 := by omega
  by_cases hn : n < 0
  · have w1 : IntKind.wrap .i64 (n + 1) = n + 1 := wrap64 (by omega) (by omega)
    have w2 : IntKind.wrap .i64 (0 - (n + 1)) = -(n + 1) := by rw [wrap64 (by omega) (by omega)]; omega
    simp only [hn, hm', w1, w2, decide_true, if_true, ne_eq, not_false_eq_true]
    rw [Int.tmod_eq_emod_of_nonneg (by omega)]
  · simp only [hn, hm', decide_false, Bool.false_eq_true, if_false, ne_eq, not_false_eq_true, decide_true, if_true]
    rw [Int.tmod_eq_emod_of_nonneg (by omega)]
theorem around_range {n m : Int} (hm : 0 < m) : 0 ≤ aroundC n m ∧ aroundC n m < m := by
  unfold aroundC
  split
  · exact ⟨Int.emod_nonneg _ (by omega), Int.emod_lt_of_pos _ hm⟩
  · exact ⟨Int.emod_nonneg _ (by omega), Int.emod_lt_of_pos _ hm⟩
abbrev oneI : DIns := ⟨0, 0, 0, 0, 0, ⟨1, 1⟩, zeroS, [], []⟩
theorem oneI_wf : WfI oneI := ⟨by unfold I64; decide, by unfold I64; decide, by unfold I64; decide, by decide, by decide⟩
theorem balanced_ok : ∀ k : Nat, ∀ n : Int, n ≤ k → n ≤ 1000 → ∃ p, S_law23_balanced L0 n = some p ∧ (∀ i ∈ p, WfI i) ∧ (p.length : Int) + 1 ≤ 2 * (if n ≤ 1 then 1 else n) := by
  intro k
  induction k using Nat.strongRecOn with
  | _ k ih =>
    intro n hn hb
    have hbody : ∀ z, B_law23_balanced L0 n = some z → S_law23_balanced L0 n = some z := fun z h => go_law23_balanced _ h
    unfold B_law23_balanced at hbody
    by_cases h1 : n ≤ 1
    · rw [if_pos (decide_eq_true h1)] at hbody
      refine ⟨[oneI], hbody _ rfl, ?_, ?_⟩
      · intro i hi; rw [List.mem_singleton.1 hi]; exact oneI_wf
      · rw [if_pos h1]; decide
    · rw [if_neg (by simpa using h1)] at hbody
      have hd : Int.tdiv n 2 = n / 2 := Int.tdiv_eq_ediv_of_nonneg (by omega)
      have w1 : IntKind.wrap .i64 (Int.tdiv n 2) = n / 2 := by rw [hd, wrap64 (by omega) (by omega)]
      have w2 : IntKind.wrap .i64 (n - n / 2) = n - n / 2 := wrap64 (by omega) (by omega)
      obtain ⟨m, rfl⟩ := Int.eq_ofNat_of_zero_le (show 0 ≤ n by omega)
      obtain ⟨p, hp, wp, lp⟩ := ih (m / 2) (by omega) ((m : Int) / 2) (by omega) (by omega)
      obtain ⟨q, hq, wq, lq⟩ := ih (m - m / 2) (by omega) ((m : Int) - (m : Int) / 2) (by omega) (by omega)
      have bp : (p.length : Int) + 1 ≤ 2 * ((m : Int) / 2) := by split at lp <;> omega
      have bq : (q.length : Int) + 1 ≤ 2 * ((m : Int) - (m : Int) / 2) := by split at lq <;> omega
      rw [w1, w2, hp, hq] at hbody
      simp only [Option.bind_some] at hbody
      rw [if_pos (by simp only [Bool.true_and, decide_eq_true_eq]; omega), if_pos (by simp only [Bool.true_and, decide_eq_true_eq, List.length_append, List.length_cons, List.length_nil]; omega)] at hbody
      refine ⟨_, hbody _ rfl, ?_, ?_⟩
      · intro i hi
        rcases List.mem_append.1 hi with hi | hi
        · rcases List.mem_append.1 hi with hi | hi
          · exact wp i hi
          · exact wq i hi
        · rw [List.mem_singleton.1 hi]; exact binI_wf
      · rw [if_neg h1]
        simp only [List.length_append, List.length_cons, List.length_nil]
        omega
theorem PlanLimits_two (x0 x1 : Int) (i : DIns) (l ones : List DIns) (h0 : x0 ≤ 1000) (hl : ∀ i ∈ l, WfI i) (hi : WfI i) : ∀ (k : Nat) (ones : List DIns), (k : Int) = x1 → (∀ i ∈ ones, WfI i) → ones.length + k ≤ 300 →
    P_law23_PlanLimits_1 L0 ((x0, (k : Int)), (i, (l, ones))) = some true := by
  intro k
  induction k generalizing x1 with
  | zero =>
    intro ones _ ho _
    refine go_law23_PlanLimits_1 _ _ _ _ _ ?_
    unfold B_law23_PlanLimits_1
    obtain ⟨p, hp, wp, _⟩ := balanced_ok x0.toNat x0 (by omega) h0
    simp [hp, plan_Check_ok wp, ref23_Check_ok wp, plan_Check_ok hl, ref23_Check_ok hl, plan_Check_ok ho, ref23_Check_ok ho, lives_ok]
  | succ k ih =>
    intro ones hk ho hb
    refine go_law23_PlanLimits_1 _ _ _ _ _ ?_
    unfold B_law23_PlanLimits_1
    have h1 : ((k + 1 : Nat) : Int) > 0 := by omega
    have w : IntKind.wrap .i64 (((k + 1 : Nat) : Int) - 1) = (k : Int) := by rw [wrap64 (by omega) (by omega)]; omega
    rw [if_pos (decide_eq_true h1), if_pos (by simp only [Bool.true_and, decide_eq_true_eq, List.length_cons, List.length_nil]; omega), w]
    exact ih (k : Int) (ones ++ [i]) rfl (fun j hj => by
      rcases List.mem_append.1 hj with hj | hj
      · exact ho j hj
      · rw [List.mem_singleton.1 hj]; exact hi) (by simp; omega)
theorem PlanLimits_one (m : Int) (hm : I64 m) (i : DIns) (hi : WfI i) (n : Int) (hn : n ≤ 200) : ∀ (k : Nat) (j : Int) (l : List DIns), (k : Int) = n - j → 0 ≤ j → (∀ i ∈ l, WfI i) → (l.length : Int) + 2 * k ≤ 1000 →
    P_law23_PlanLimits_0 L0 ((m, (n, j)), (i, l)) = some true := by
  intro k
  induction k with
  | zero =>
    intro j l hk hj hl hb
    refine go_law23_PlanLimits_0 _ _ _ _ _ ?_
    unfold B_law23_PlanLimits_0
    have h1 : ¬ j < n := by omega
    rw [if_neg (by simpa using h1), Around_ok hm (by omega)]
    simp only [Option.bind_some]
    have hr := around_range (n := m) (m := 206) (by omega)
    obtain ⟨q, hq⟩ := Int.eq_ofNat_of_zero_le hr.1
    rw [hq]
    exact PlanLimits_two n (q : Int) i l [] (by omega) hl hi q [] rfl (fun i hi => by cases hi) (by simp; omega)
  | succ k ih =>
    intro j l hk hj hl hb
    refine go_law23_PlanLimits_0 _ _ _ _ _ ?_
    unfold B_law23_PlanLimits_0
    have h1 : j < n := by omega
    rw [if_pos (decide_eq_true h1), if_pos (by simp only [Bool.true_and, decide_eq_true_eq, List.length_cons, List.length_nil]; omega), wrap64 (by omega) (by omega)]
    exact ih (j + 1) _ (by omega) (by omega) (fun x hx => by
      rcases List.mem_append.1 hx with hx | hx
      · exact hl x hx
      · simp only [List.mem_cons, List.not_mem_nil, or_false] at hx
        rcases hx with rfl | rfl
        · exact hi
        · exact binI_wf) (by simp only [List.length_append, List.length_cons, List.length_nil]; omega)
theorem PlanLimits_pure (n m : Int) (hn : I64 n) (hm : I64 m) : S_law23_PlanLimits L0 (n, m) = some true := by
  refine go_law23_PlanLimits _ _ ?_
  unfold B_law23_PlanLimits
  rw [Around_ok hn (by omega)]
  have hr := around_range (n := n) (m := 11) (by omega)
  simp only [Option.bind_some]
  rw [wrap64 (by omega) (by omega)]
  exact PlanLimits_one m hm oneI oneI_wf (95 + aroundC n 11) (by omega) (95 + aroundC n 11 - 1).toNat 1 [oneI] (by omega) (by omega) (fun i hi => by rw [List.mem_singleton.1 hi]; exact oneI_wf) (by simp; omega)
end Go.AM
