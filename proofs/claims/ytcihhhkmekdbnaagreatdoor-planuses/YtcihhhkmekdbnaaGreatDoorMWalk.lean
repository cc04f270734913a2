/-
  The abstract machine, a part.
-/
import Derived.Test.YtcihhhkmekdbnaaGreatDoorMBack
import Derived.OrdersIn
import Derived.RangeFuncRecord
/-
  The abstract machine, part 19: one operation of a walk.
-/
namespace Go.AM
open Go RowKit

/-- The state of a walk, with the numbers of what the function was handed. -/
structure RR (glob : List (Nat × AV)) (M0 B0 : Nat → Prop) (w0 : World) (nt : Nat) (κ0 : Nat → Value) (np : Nat) (st : ASt) (κ : Nat → Value) (a : Act) (w : World) : Prop extends R glob M0 B0 w0 nt st κ a w where
  par : ∀ i, i < np → κ i = κ0 i ∧ (assoc st.objs i).isSome = true

/-- A function that copies a slice. -/
def CloneOK (P : Program) (Θ : Tab) (g : FuncId) (e : TypeId) (t : TC) : Prop :=
  ∀ te, assoc Θ e = some te → ∀ (w : World) (a : Option Addr) (n c : Nat) (us : List Value), us.length = n * csize t → n ≤ 140737488355328 → n * te.bytes ≤ 140737488355328 → (∀ u ∈ us, u.oneCell' = true) →
    (0 < n → ∃ b o, a = some ⟨b, o, none⟩ ∧ ∀ (i : Nat) (v : Value), us[i]? = some v → w.cell? ⟨b, o + i, none⟩ = some v) →
    Inv P g #[.slice a n c] w (fun E w' => ∃ v', E = .returned v' ∧ Below w.heap.size w w' ∧ (∀ b, blkOf v' = some b → w.heap.size ≤ b) ∧ w'.ownsRow 0 e (csize t) v' n us ∧ ∃ a' c', v' = .slice a' n c')

/-- What a function's walk is told: its types, its contracts, its ends. -/
structure Told (P : Program) {Z : Type} (D : DEnv Z) (M0 B0 : Nat → Prop) (w0 : World) (κ0 : Nat → Value) (Out : Z → Ending → World → Prop) : Prop where
  hΘ : TabOK P D.Θ
  hE : ∀ T, D.eqs.contains T = true → EqSem P T
  hgl : ∀ g v, assoc D.glob g = some v → lacks (fun _ => true) v = true
  calls : ∀ f vs s, findCall D.calls f vs = some s → CallOK P D.glob f s
  clones : ∀ g e t, assoc D.clones g = some (e, t) → CloneOK P D.Θ g e t
  old : ∀ b, M0 b → b < w0.heap.size
  pan : ∀ v z, (D.panK v).eval = some z → ∀ w' u, (∀ w ok κ, RepV w ok κ v u) → Keeps B0 w0 w' → Out z (.panicked [{ v := u, recovered := false }]) w'

section
variable {P : Program} {Z : Type} {D : DEnv Z} {M0 B0 : Nat → Prop} {w0 w w' : World} {κ0 κ κ' : Nat → Value} {Out : Z → Ending → World → Prop} {st : ASt} {a : Act} {ro : Option Nat} {n : Nat}

abbrev RD (D : DEnv Z) (M0 B0 : Nat → Prop) (w0 : World) (κ0 : Nat → Value) := RR D.glob M0 B0 w0 D.nt κ0 D.np

/-- No fence: whatever a machine does. -/
def FW (ro : Option Nat) : Fence := { fn := fun _ => True, depth := none, alive := false, round := ro }
theorem FW.room (ro : Option Nat) (n : Nat) : (FW ro).room n := fun _ h => by simp [FW] at h
theorem callsIn_FW {ro : Option Nat} {n : Nat} {f : FuncId} {vs : Array Value} {R : Ending → World → Prop} : CallsIn (FW ro) n P f vs w R ↔ Calls P f vs w R :=
  ⟨fun h cs => let ⟨e, w', fr, r, s, x⟩ := h.2 cs (FW.room _ _); ⟨e, w', fr, r, comesIn_wide.1 s, x⟩, fun h => ⟨trivial, fun cs _ => let ⟨e, w', fr, r, s, x⟩ := h cs; ⟨e, w', fr, r, comesIn_wide.2 s, x⟩⟩⟩
theorem roundIn_FW {ro : Option Nat} {n : Nat} {l : Nat} {f : FuncId} {tmps : Array Value} {x y : Code} {R : Ending → World → Prop} (h : RoundIn Fence.wide 0 P l f tmps x y w R) : RoundIn (FW ro) n P l f tmps x y w R :=
  ⟨trivial, fun c cs _ => h.2 c cs (room_wide _)⟩

/-- What may come of operations: the next state, or a panic. -/
def PQ (Out : Z → Ending → World → Prop) (z : Z) (N : Act → World → Prop) : Exit → Act → World → Prop
  | .normal, a, w => N a w
  | .panic c, a, w => a.defers = [] ∧ Out z (.panicked c) w
  | _, _, _ => False

/-- No number out of N in a state. -/
def Fresh (N : Nat → Bool) (glob : List (Nat × AV)) (st : ASt) : Prop := Lack N glob st.objs ∧ (∀ i v, assoc st.slots i = some v → lacks N v = true) ∧ ∀ d ∈ st.dfs, lacksD N d = true
theorem lacksDF (d : ADf) : lacksD (fun _ => false) d = true := by cases d <;> simp [lacksD, lacksLF]
theorem fresh_lack {N : Nat → Bool} (h : freshOK N D.glob st = true) : Fresh N D.glob st := by
  unfold freshOK at h
  simp only [Bool.and_eq_true, List.all_eq_true, Bool.not_eq_true'] at h
  obtain ⟨⟨⟨h1, h2⟩, h3⟩, h4⟩ := h
  exact ⟨⟨fun i o ho => (h2 _ (assoc_mem ho)).1, fun i o ho => (h2 _ (assoc_mem ho)).2, fun g v hg => h3 _ (assoc_mem hg)⟩, fun i v hi => h1 _ (assoc_mem hi), h4⟩

theorem RR.done (hr : RD D M0 B0 w0 κ0 st κ a w) {N : Nat → Bool} (hf : Fresh N D.glob st) {c : COut} {u : Value} {dst : Option Tmp} (hd : dst.all (· < D.nt) = true) (h : Done D.glob M0 B0 w0 N κ st.objs w c κ' u w') :
    RD D M0 B0 w0 κ0 (st.upd dst c.dst c.objs) κ' (a.put dst u) w' := by
  obtain ⟨hl, hs⟩ := hf
  refine ⟨hr.toR.next h.next h.mem hs.1 hs.2 (fun d hd' => ?_) (fun _ => h.val), fun i hi => ?_⟩
  · subst hd'
    simpa using hd
  · obtain ⟨h1, h2⟩ := hr.par i hi
    obtain ⟨o, ho⟩ := Option.isSome_iff_exists.1 h2
    refine ⟨(h.next.kap i (hl.ids i o ho)).trans h1, ?_⟩
    show (assoc (putObjs st.objs c.objs) i).isSome = true
    unfold putObjs
    rw [assoc_app]
    split
    · rfl
    · exact h2

theorem RR.no_defers (hr : RD D M0 B0 w0 κ0 st κ a w) (h : st.dfs.isEmpty = true) : a.defers = [] := by
  have := hr.defers
  rw [List.isEmpty_iff.1 h] at this
  exact this
theorem RR.M (hr : RD D M0 B0 w0 κ0 st κ a w) : ∀ b, M0 b → b < w.heap.size := fun b hb => Nat.lt_of_lt_of_le (hr.old b hb) hr.mem.keep.size

theorem opIn_rep (hr : RD D M0 B0 w0 κ0 st κ a w) {x : Operand} {v : AV} (h : opIn st.slots D.glob x = some v) : RepV w (okB M0 κ st.objs) κ v (a.eval x) := by
  cases x with
  | tmp t => exact hr.slots t v h
  | const u =>
    simp only [opIn] at h
    rw [Option.ite_none_right_eq_some] at h
    obtain ⟨h1, h⟩ := h
    cases h
    exact ⟨rfl, scOKb_ok h1⟩
  | func f =>
    simp only [opIn] at h
    rw [Option.ite_none_right_eq_some] at h
    obtain ⟨hf, h⟩ := h
    cases h
    exact ⟨[], by unfold FnR; rw [if_pos hf]; rfl, rfl⟩
  | global g => exact hr.mem.glob g v h

theorem ops_rep (hr : RD D M0 B0 w0 κ0 st κ a w) : ∀ (xs : List Operand) (vs : List AV), xs.mapM (opIn st.slots D.glob) = some vs → RepL w (okB M0 κ st.objs) κ vs (xs.map a.eval)
  | [], vs, h => by simp at h; subst h; rfl
  | x :: xs, vs, h => by
    rw [List.mapM_cons] at h
    obtain ⟨v, h1, h⟩ := bind_some h
    obtain ⟨vs', h2, h⟩ := bind_some h
    cases h
    exact ⟨_, _, rfl, opIn_rep hr h1, ops_rep hr xs vs' h2⟩

/-- The states that an operation may leave. -/
def Nx (D : DEnv Z) (M0 B0 : Nat → Prop) (w0 : World) (κ0 : Nat → Value) (K : ASt → Tr Z) (z : Z) (a : Act) (w : World) : Prop := ∃ κ st, RD D M0 B0 w0 κ0 st κ a w ∧ (K st).eval = some z

theorem wpIn_of_run {ro : Option Nat} {n : Nat} {o : Oper} {next : Act → World → Prop} {Q : Exit → Act → World → Prop} (hnd : ∀ c, o.op ≠ .defer c) (h : o.uponIn (FW ro) n P a next Q ((execOp a.eval o).run P w)) : o.wpIn (FW ro) n P a w next Q :=
  ⟨fun _ _ => trivial, by rw [Oper.semAt_eq _ _ _ hnd]; exact h⟩

/-- A function's value is called. -/
theorem upon_of_inv {ro : Option Nat} {n : Nat} {o : Oper} {fo : Operand} {ags : Array Operand} {ts : Array TypeId} (ho : o.op = .call ⟨.value fo, ags, ts⟩) {u : Value} (hu : a.eval fo = u) (hy : ∀ l fs c, u = .func (.yield l) fs c → fs = #[])
    {R : Ending → World → Prop} {next : Act → World → Prop} {Q : Exit → Act → World → Prop} (h : InvV P u (ags.toList.map a.eval) w R)
    (hret : ∀ v w', R (.returned v) w' → next (a.put o.dst v) w') (hpan : ∀ c w', R (.panicked c) w' → Q (.panic c) a w') (hout : ∀ w', R .outgrown w' → False) : o.wpIn (FW ro) n P a w next Q := by
  refine wpIn_of_run (fun c hc => by rw [ho] at hc; cases hc) ?_
  have hargs : ags.map a.eval = (ags.toList.map a.eval).toArray := by apply Array.toList_inj.1; simp
  unfold InvV at h
  split at h
  · rename_i f first cap
    have he : (execOp a.eval o).run P w = (callFunc f (first ++ (ags.toList.map a.eval).toArray ++ cap)).run P w := by
      unfold execOp
      rw [ho]
      simp only [resolve, hu, Deferred.ofValue]
      simp only [Sem.run_bind, Sem.run_pure, Result.andThen_ok, invoke, hargs]
    rw [he]
    unfold Inv at h
    split at h
    · rename_i g as' w' hrun
      rw [hrun]
      rw [Oper.uponIn_enter]
      refine ⟨fun hd => by simp [FW] at hd, callsIn_FW.2 (Calls.mono h (fun e w'' he => ?_))⟩
      cases e with
      | returned v => exact hret v w'' he
      | panicked c => exact hpan c w'' he
      | outgrown => exact (hout w'' he).elim
    · rename_i v w' hrun
      rw [hrun]
      exact hret v w' h
    · exact h.elim
  · rename_i l fs cap
    have := hy l fs cap rfl
    subst this
    have he : (execOp a.eval o).run P w = (Instr.yield l (ags.toList.map a.eval).toArray).run P w := by
      unfold execOp
      rw [ho]
      simp only [resolve, hu, Deferred.ofValue]
      simp only [Sem.run_bind, Sem.run_pure, Result.andThen_ok, invoke, hargs, Array.empty_append]
    rw [he]
    split at h
    · rename_i l' f tmps x y w' hrun
      rw [hrun]
      rw [Oper.uponIn_round]
      refine ⟨fun hd => by simp [FW] at hd, roundIn_FW (RoundIn.mono h (fun e w'' he => ?_))⟩
      cases e with
      | returned v => exact hret v w'' he
      | panicked c => exact hpan c w'' he
      | outgrown => exact (hout w'' he).elim
    · exact h.elim
  · exact h.elim

theorem FnR.first {f : Nat} {us : List Value} {u : Value} (h : FnR f us u) : ∀ l fs c, u = .func (.yield l) fs c → fs = #[] := by
  intro l fs c he
  subst he
  unfold FnR at h
  split at h
  · cases h
  · split at h
    · cases h
    · obtain ⟨l', h, _⟩ := h
      cases h; rfl

theorem core_wp (T : Told P D M0 B0 w0 κ0 Out) {o : Oper} {nid : Nat} {K : ASt → Tr Z} {z : Z} {vals : List AV} {c : COut} {Q : Exit → Act → World → Prop} (hr : RD D M0 B0 w0 κ0 st κ a w) (hf : Fresh (newIds nid) D.glob st) (hd : o.dst.all (· < D.nt) = true)
    (hv : (o.op.operands.toList).mapM (opIn st.slots D.glob) = some vals) (hc : core D.Θ D.eqs o.op nid (gather st.objs (touch o.op vals)) vals = some c) (h : (Tr.vc c.vc (K (st.upd o.dst c.dst c.objs))).eval = some z) :
    o.wpIn (FW ro) n P a w (Nx D M0 B0 w0 κ0 K z) Q := by
  have hnd : ∀ cl, o.op ≠ .defer cl := fun cl hcl => by rw [hcl] at hc; cases hc
  refine wpIn_of_run hnd ?_
  simp only [Tr.eval] at h
  rw [Option.ite_none_right_eq_some] at h
  obtain ⟨hvc, h⟩ := h
  obtain ⟨κ', u, w', d1, d2⟩ := core_ok (P := P) ⟨hr.mem, hr.M, T.hΘ, T.hE, hf.1, gather_sub _ _⟩ hc hvc a.eval (ops_rep hr _ _ hv)
  have hn := hr.done hf hd d1
  rcases d2 with d2 | ⟨d2, rfl⟩
  · rw [d2]; exact ⟨κ', _, hn, h⟩
  · rw [d2]; exact ⟨κ', _, hn, h⟩

theorem CSpec.ok_spec {s : CSpec} (h : s.ok = true) : s.inp.slots.map (·.1) = List.range s.inp.slots.length ∧ s.inp.objs.map (·.1) = List.range s.inp.objs.length ∧ (s.robj.map (·.1)).Nodup ∧ (∀ p ∈ s.robj, p.1 < s.inp.objs.length + 16) ∧
    ∀ i, i < s.inp.objs.length → i ∈ s.robj.map (·.1) := by
  unfold CSpec.ok at h
  simp only [Bool.and_eq_true, decide_eq_true_eq, List.all_eq_true] at h
  obtain ⟨⟨⟨⟨h1, h2⟩, h3⟩, h4⟩, h5⟩ := h
  exact ⟨h1, h2, h3, h4, fun i hi => by simpa using h5 i (List.mem_range.2 hi)⟩

theorem mkO_mem_key {l : List (Nat × OSh)} {x : El (tyO l)} {i : Nat} (h : i ∈ l.map (·.1)) : ∃ o, (i, o) ∈ mkO l x := by
  rw [← mkO_keys l x] at h
  obtain ⟨⟨j, o⟩, h1, h2⟩ := List.mem_map.1 h
  simp only at h2
  subst h2
  exact ⟨o, h1⟩

/-- What a call leaves, as an operation leaves it. -/
theorem call_done (hr : RD D M0 B0 w0 κ0 st κ a w) (hgl : ∀ g v, assoc D.glob g = some v → lacks (fun _ => true) v = true) {nid : Nat} (hl : Lack (newIds nid) D.glob st.objs) {s : CSpec} (hs : s.ok = true) {b : Bnd} (hg : b.good = true) {x : s.inp.X} {us : List Value}
    (hf : Fitted w M0 κ st.objs b (s.inp.slots.map (·.2)) s.inp.objs x us) (hb : boundAll st.objs b.m s.inp.objs.length = true) {y : El (cns (tyL s.res) (tyO s.robj))} {v : Value}
    (h : RetOut D.glob (calleeM M0 κ (b.kap κ) (freezeAll st.objs b.fz) (mkO s.inp.objs (snd' x))) (live (b.kap κ) (mkO s.inp.objs (snd' x))) (b.kap κ) w s.inp.objs.length s.res s.robj y (.returned v) w') :
    ∃ κ', Done D.glob M0 B0 w0 (newIds nid) κ st.objs w ⟨true, ren (outMap b.m s.inp.objs.length nid) (resV (mkL s.res (fst' y))), freezeIds st.objs b.fz ++ outObjs b.m s.inp.objs.length nid (mkO s.robj (snd' y))⟩ κ' v w' := by
  obtain ⟨κ', h1, h2, h3⟩ := h
  obtain ⟨s1, s2, s3, s4, s5⟩ := CSpec.ok_spec hs
  exact ⟨_, call_back hr.mem hr.M hl hg hf hb (by rw [mkO_keys]; exact s3) (fun p hp => by
    have : p.1 ∈ (mkO s.robj (snd' y)).map (·.1) := List.mem_map.2 ⟨p, hp, rfl⟩
    rw [mkO_keys] at this
    obtain ⟨q, hq, he⟩ := List.mem_map.1 this
    rw [← he]; exact s4 q hq) (fun i hi => mkO_mem_key (s5 i hi)) s2 h1 h2 h3⟩

theorem keeps_call (hr : RD D M0 B0 w0 κ0 st κ a w) {b : Bnd} {shs : List Sh} {os : List (Nat × OSh)} {x : El (cns (tyL shs) (tyO os))} {us : List Value} (hf : Fitted w M0 κ st.objs b shs os x us) (hk : Keeps (live (b.kap κ) (mkO os (snd' x))) w w') : Keeps B0 w0 w' := by
  obtain ⟨_, m1⟩ := hr.mem.freezeAll hr.M b.fz
  have h0 := hr.mem.keep
  refine ⟨hk.os.trans h0.os, hk.tape.trans h0.tape, hk.output.trans h0.output, Nat.le_trans h0.size hk.size, fun k hlt hB => ?_⟩
  rw [← h0.block k hlt hB]
  refine hk.block k (Nat.lt_of_lt_of_le hlt h0.size) (fun hl => ?_)
  rcases (m1.off k (hf.live hl)).2 with h | h
  · omega
  · exact hB h

theorem closed_rep {v : AV} {u : Value} {ok : Nat → Prop} (hc : closedV v = true) (h : RepV w ok κ v u) : ∀ w ok κ, RepV w ok κ v u := by
  cases v with
  | sc x => exact fun _ _ _ => h
  | agg cs =>
    obtain ⟨us, rfl, hl⟩ := h
    refine fun w' ok' κ' => ⟨us, rfl, ?_⟩
    simp only [closedV, List.all_eq_true] at hc
    refine RepL.of_get cs us (RepL.length _ _ hl) (fun j c u hj hu => ?_)
    obtain ⟨u', h1, h2⟩ := RepL.get _ _ hl j c hj
    rw [hu] at h1
    cases h1
    have := hc c (List.mem_of_getElem? hj)
    cases c <;> first | exact h2 | cases this
  | _ => cases hc

theorem callee_rep {ok : Nat → Prop} {g : Nat} {vas cap : List AV} {ags caps : List Value} {u : Value} (h : FnR g caps u) (h1 : RepL w ok κ vas ags) (h2 : RepL w ok κ cap caps) : ∃ vs, RepL w ok κ (calleeV g vas cap) vs ∧ Invoked P w (calleeN g) vs (InvV P u ags w) := by
  unfold calleeV calleeN Invoked
  have h0 := h
  unfold FnR at h
  by_cases hg : g < 1000000
  · rw [if_pos hg] at h
    simp only [hg, if_true]
    subst h
    exact ⟨ags ++ caps, h1.append h2, by funext R; simp [InvV]⟩
  · rw [if_neg hg] at h
    by_cases hg2 : g < 2000000
    · rw [if_pos hg2] at h
      have e : g - 1000000 < 1000000 := by omega
      simp only [hg, if_false, hg2, if_true, e]
      subst h
      exact ⟨caps ++ ags, h2.append h1, by funext R; simp [InvV]⟩
    · simp only [hg, if_false, hg2]
      exact ⟨ags ++ caps, h1.append h2, ags, caps, u, rfl, h0, rfl⟩

theorem call_wp (T : Told P D M0 B0 w0 κ0 Out) {o : Oper} {nid : Nat} {K : ASt → Tr Z} {z : Z} {N : Act → World → Prop} (hr : RD D M0 B0 w0 κ0 st κ a w) (hfr : Fresh (newIds nid) D.glob st) (hd : o.dst.all (· < D.nt) = true)
    {fo : Operand} {ags : Array Operand} {ts : Array TypeId} (ho : o.op = .call ⟨.value fo, ags, ts⟩) {g : FuncId} {cap vas : List AV} (hv : (o.op.operands.toList).mapM (opIn st.slots D.glob) = some (.fn g cap :: vas)) {s : CSpec} (hs : findCall D.calls (calleeN g) (calleeV g vas cap) = some s)
    {x : s.inp.X} {b : Bnd} (hfit : fitAll .nil0 (s.inp.slots.map (·.2)) s.inp.objs (calleeV g vas cap) st.objs = some (x, b)) (hok : s.ok = true) (hb : boundAll st.objs b.m s.inp.objs.length = true)
    (h : (match s.F with
      | .plain F => Tr.bind _ (F x) fun (y : El (cns (tyL s.res) (tyO s.robj))) => K (st.upd o.dst (ren (outMap b.m s.inp.objs.length nid) (resV (mkL s.res (fst' y)))) (freezeIds st.objs b.fz ++ outObjs b.m s.inp.objs.length nid (mkO s.robj (snd' y))))
      | .exc sh F => Tr.bindE _ _ (F x) (fun e => if st.dfs.isEmpty then D.panK (sh.mk e) else .fail) fun (y : El (cns (tyL s.res) (tyO s.robj))) => K (st.upd o.dst (ren (outMap b.m s.inp.objs.length nid) (resV (mkL s.res (fst' y)))) (freezeIds st.objs b.fz ++ outObjs b.m s.inp.objs.length nid (mkO s.robj (snd' y))))).eval = some z) :
    o.wpIn (FW ro) n P a w (Nx D M0 B0 w0 κ0 K z) (PQ Out z N) := by
  have hrep := ops_rep hr _ _ hv
  have hopn : o.op.operands.toList.map a.eval = a.eval fo :: ags.toList.map a.eval := by
    rw [ho]
    simp [Op.operands, Call.operands]
  rw [hopn] at hrep
  obtain ⟨u0, us0, e0, ⟨ucap, e1, hcap⟩, hags⟩ := hrep
  injection e0 with e2 e3
  subst e3
  obtain ⟨vs, hvs, hinv⟩ := callee_rep (P := P) (w := w) e1 hags hcap
  obtain ⟨hg, _, hf⟩ := fitAll_fitted hr.mem hr.M hfit hvs
  have hent := call_entry hr.mem hr.M T.hgl hg hf
  have hcall := T.calls (calleeN g) _ s hs x _ _ _ _ _ hent hinv
  obtain ⟨hlack, hslots⟩ := hfr
  have back : ∀ (y : El (cns (tyL s.res) (tyO s.robj))) (v : Value) (w' : World), RetOut D.glob (calleeM M0 κ (b.kap κ) (freezeAll st.objs b.fz) (mkO s.inp.objs (snd' x))) (live (b.kap κ) (mkO s.inp.objs (snd' x))) (b.kap κ) w s.inp.objs.length s.res s.robj y (.returned v) w' →
      (K (st.upd o.dst (ren (outMap b.m s.inp.objs.length nid) (resV (mkL s.res (fst' y)))) (freezeIds st.objs b.fz ++ outObjs b.m s.inp.objs.length nid (mkO s.robj (snd' y))))).eval = some z → Nx D M0 B0 w0 κ0 K z (a.put o.dst v) w' := by
    intro y v w' hret hk
    obtain ⟨κ', hdone⟩ := call_done hr T.hgl hlack hok hg hf hb hret
    exact ⟨κ', _, hr.done ⟨hlack, hslots⟩ hd hdone, hk⟩
  revert h hcall
  cases hF : s.F with
  | plain F =>
    intro h hcall
    simp only [Tr.eval] at h
    cases hy : F x with
    | none => rw [hy] at h; cases h
    | some y =>
      rw [hy] at h
      exact upon_of_inv ho e2 e1.first (hcall y hy) (fun v w' hret => back y v w' hret h) (fun c w' hp => hp.elim) (fun w' hp => hp)
  | exc sh F =>
    intro h hcall
    simp only [Tr.eval, exc] at h
    cases hy : F x with
    | none => rw [hy] at h; cases h
    | some r =>
      rw [hy] at h
      cases r with
      | ok y => exact upon_of_inv ho e2 e1.first (hcall _ hy) (fun v w' hret => back y v w' hret h) (fun c w' hp => hp.elim) (fun w' hp => hp)
      | error e =>
        refine upon_of_inv ho e2 e1.first (hcall _ hy) (fun v w' hret => hret.elim) (fun c w' hp => ?_) (fun w' hp => hp)
        obtain ⟨u, rfl, h1, h2⟩ := hp
        have h' : (if st.dfs.isEmpty then D.panK (sh.mk e) else .fail : Tr Z).eval = some z := h
        split at h'
        · rename_i hdf
          exact ⟨hr.no_defers hdf, T.pan _ z h' w' u h1 (keeps_call hr hf h2)⟩
        · cases h'

theorem panic_wp (T : Told P D M0 B0 w0 κ0 Out) {o : Oper} {z : Z} {next N : Act → World → Prop} (hr : RD D M0 B0 w0 κ0 st κ a w) {x : Operand} (ho : o.op = .panic x) {t : TypeId} {v : AV} (hv : opIn st.slots D.glob x = some (.ifc t v)) (hc : closedV v = true) (hdf : st.dfs.isEmpty = true)
    (h : (D.panK (.ifc t v)).eval = some z) : o.wpIn (FW ro) n P a w next (PQ Out z N) := by
  obtain ⟨u, e1, hu⟩ := opIn_rep hr hv
  have hrun : (execOp a.eval o).run P w = .halt (.panic (.iface t u)) w := by
    unfold execOp
    rw [ho]
    simp only
    rw [e1]
    rfl
  refine wpIn_of_run (fun c hc => by rw [ho] at hc; cases hc) ?_
  rw [hrun, Oper.uponIn_panic]
  exact ⟨hr.no_defers hdf, T.pan _ z h w _ (fun w ok κ => ⟨u, rfl, closed_rep hc hu w ok κ⟩) hr.mem.keep⟩

theorem decode_le (s : ByteArray) (i : Nat) : (Utf8.decode s i).1 ≤ 2147483647 := by
  have hb : (s.get! (i + 0)).toNat < 256 := UInt8.toNat_lt _
  unfold Utf8.decode
  simp only [Utf8.runeError]
  split
  · simp only; omega
  · split
    · split <;> simp only <;> omega
    · split
      · split <;> simp only <;> omega
      · split
        · split <;> simp only <;> omega
        · simp only; omega
theorem decode_rune (s : ByteArray) (i : Nat) : IntKind.i32.has ((Utf8.decode s i).1 : Int) := by
  have := decode_le s i
  constructor
  · show (-2147483648 : Int) ≤ _; omega
  · show _ ≤ (2147483647 : Int); omega

/-- A walk over a string's letters goes on. -/
theorem next_wp {o : Oper} {nid : Nat} {K : ASt → Tr Z} {z : Z} {Q : Exit → Act → World → Prop} (hr : RD D M0 B0 w0 κ0 st κ a w) (hf : Fresh (newIds nid) D.glob st) (hd : o.dst.all (· < D.nt) = true) {x : Operand} (ho : o.op = .next x true) {id : Nat}
    (hv : (o.op.operands.toList).mapM (opIn st.slots D.glob) = some [.ptr id 0]) {s : ByteArray} {pos : Nat} (hobj : assoc st.objs id = some (.iter s pos))
    (h : (Tr.br (decide (pos < s.size)) (K (st.upd o.dst (.tup [bool true, int pos, .sc (.int .i32 (Utf8.decode s pos).1)]) [(id, .iter s (pos + (Utf8.decode s pos).2))])) (K (st.upd o.dst (.tup [bool false]) []))).eval = some z) :
    o.wpIn (FW ro) n P a w (Nx D M0 B0 w0 κ0 K z) Q := by
  have hx : opIn st.slots D.glob x = some (.ptr id 0) := by
    rw [ho] at hv
    simp only [Op.operands, List.mapM_cons, List.mapM_nil] at hv
    obtain ⟨y, h1, h2⟩ := bind_some hv
    cases h2
    exact h1
  obtain ⟨b, hκ, hu⟩ := opIn_rep hr hx
  obtain ⟨b', hκ', hblk, hsz⟩ := hr.mem.each id _ hobj
  rw [hκ'] at hκ
  cases hκ
  refine wpIn_of_run (fun c hc => by rw [ho] at hc; cases hc) ?_
  simp only [Tr.eval] at h
  have hgl := hf.1.glob
  by_cases hp : pos < s.size
  · rw [if_pos (by simpa using hp)] at h
    have hrun : (execOp a.eval o).run P w = .ok (.value (.tuple #[.bool true, .int .i64 pos, .int .i32 (Utf8.decode s pos).1])) (w.putObj b (.stringIter s (pos + (Utf8.decode s pos).2))) := by
      unfold execOp
      rw [ho]
      simp only [hu, Nat.add_zero, Instr.next, Sem.run_bind]
      have e1 : (getObj b).run P w = .ok (.stringIter s pos) w := by simp [getObj, Sem.run, hblk]
      have hlt : b < w.heap.size := (Array.getElem?_eq_some_iff.1 hblk).1
      have e2 : ∀ o', (setObj b o').run P w = .ok () (w.putObj b o') := fun o' => by simp [setObj, Sem.run, hblk, World.putObj]
      simp only [e1, Result.andThen_ok, if_pos hp, Sem.run_bind, e2]
      rfl
    rw [hrun]
    have hput := hr.mem.put hr.M (o' := .iter s (pos + (Utf8.decode s pos).2)) (w' := w.putObj b (.stringIter s (pos + (Utf8.decode s pos).2))) hobj rfl rfl (b := b) (by rw [hκ']; rfl) (World.putObj_size) rfl rfl rfl (fun k hk => World.putObj_heap_other hk)
      (fun ok' _ _ => ⟨b, hκ', World.putObj_heap_same (Array.getElem?_eq_some_iff.1 hblk).1, hsz⟩)
    have hn : Done D.glob M0 B0 w0 (newIds nid) κ st.objs w ⟨true, .tup [bool true, int pos, .sc (.int .i32 (Utf8.decode s pos).1)], [(id, .iter s (pos + (Utf8.decode s pos).2))]⟩ κ (.tuple #[.bool true, .int .i64 pos, .int .i32 (Utf8.decode s pos).1]) (w.putObj b (.stringIter s (pos + (Utf8.decode s pos).2))) := by
      refine ⟨⟨fun i hi => rfl, hput.1.same, hput.1.live, hput.1.os, hput.1.tape, hput.1.output, hput.1.size⟩, hput.2, ⟨[.bool true, .int .i64 pos, .int .i32 (Utf8.decode s pos).1], rfl, _, _, rfl, ⟨rfl, trivial⟩, _, _, rfl, ⟨rfl, ?_⟩, _, _, rfl, ⟨rfl, decode_rune s pos⟩, rfl⟩⟩
      show IntKind.i64.has (pos : Int)
      constructor
      · show (-9223372036854775808 : Int) ≤ _; omega
      · show _ ≤ (9223372036854775807 : Int); omega
    exact ⟨κ, _, hr.done hf hd hn, h⟩
  · rw [if_neg (by simpa using hp)] at h
    have hrun : (execOp a.eval o).run P w = .ok (.value (.tuple #[.bool false])) w := by
      unfold execOp
      rw [ho]
      simp only [hu, Nat.add_zero, Instr.next, Sem.run_bind]
      have e1 : (getObj b).run P w = .ok (.stringIter s pos) w := by simp [getObj, Sem.run, hblk]
      simp only [e1, Result.andThen_ok, if_neg hp]
      rfl
    rw [hrun]
    have hn : Done D.glob M0 B0 w0 (newIds nid) κ st.objs w ⟨true, .tup [bool false], []⟩ κ (.tuple #[.bool false]) w := done_pure hr.mem ⟨[.bool false], rfl, _, _, rfl, ⟨rfl, trivial⟩, rfl⟩
    exact ⟨κ, _, hr.done hf hd hn, h⟩

/-- A slice is copied. -/
theorem clone_wp (T : Told P D M0 B0 w0 κ0 Out) {o : Oper} {nid : Nat} {K : ASt → Tr Z} {z : Z} {N : Act → World → Prop} (hr : RD D M0 B0 w0 κ0 st κ a w) (hf : Fresh (newIds nid) D.glob st) (hd : o.dst.all (· < D.nt) = true)
    {fo : Operand} {ags : Array Operand} {ts : Array TypeId} (ho : o.op = .call ⟨.value fo, ags, ts⟩) {g : FuncId} {x : AV} (hv : (o.op.operands.toList).mapM (opIn st.slots D.glob) = some [.fn g [], x]) {e : TypeId} {t : TC} (hcl : assoc D.clones g = some (e, t)) (hg : g < 1000000)
    {xs : List (Den t)} {te : TI} (hxs : unS t (settle st.objs x) = some xs) (hte : assoc D.Θ e = some te) (hb : xs.length * te.bytes ≤ 140737488355328) (h : (K (st.upd o.dst (.af nid) [(nid, .arr e t xs)])).eval = some z) :
    o.wpIn (FW ro) n P a w (Nx D M0 B0 w0 κ0 K z) (PQ Out z N) := by
  have hrep := ops_rep hr _ _ hv
  have hopn : o.op.operands.toList.map a.eval = a.eval fo :: ags.toList.map a.eval := by
    rw [ho]
    simp [Op.operands, Call.operands]
  rw [hopn] at hrep
  obtain ⟨u0, us0, e0, ⟨ucap, e1, hcap⟩, ux, us1, e2, hx, e3⟩ := hrep
  injection e0 with e4 e5
  subst e5
  rw [show ucap = [] from hcap] at e1
  rw [show us1 = [] from e3] at e2
  unfold FnR at e1
  rw [if_pos hg] at e1
  obtain ⟨ad, c, us, hu, h1, h2, h3, h4, h5⟩ := read_cells (obs := st.objs) (fun id o ho => hr.mem.each id o ho) hxs hx
  have hI := T.clones g e t hcl te hte w ad xs.length c us h1 h2 hb h3 h5
  refine upon_of_inv ho (e4.trans e1) (fun l fs c h => by cases h) (R := _) (by rw [e2, hu]; simpa [InvV] using hI) (fun v w' hret => ?_) (fun c w' hp => ?_) (fun w' hp => ?_)
  · obtain ⟨v', q1, q2, q3, q4, a', c', q5⟩ := hret
    cases q1
    have hadd := hr.mem.add hr.M q2 (v := v) (o := .arr e t xs) (newIds_self nid) hf.1 (fun b _ hb => q3 b hb)
      (fun ok' _ hxx => ⟨us, by rw [upd_same]; exact q4, h2, h3, fun j y hj => (h4 j y hj).mono hxx⟩)
    have hdone : Done D.glob M0 B0 w0 (newIds nid) κ st.objs w ⟨true, .af nid, [(nid, .arr e t xs)]⟩ (upd κ nid v) v w' := ⟨hadd.1, hadd.2, ⟨(upd_same _ _ _).symm, a', _, c', q5⟩⟩
    exact ⟨_, _, hr.done hf hd hdone, h⟩
  · obtain ⟨v', q1, _⟩ := hp; cases q1
  · obtain ⟨v', q1, _⟩ := hp; cases q1

theorem carry_wp (T : Told P D M0 B0 w0 κ0 Out) {o : Oper} {nid : Nat} {K : ASt → Tr Z} {z : Z} {N : Act → World → Prop} (hr : RD D M0 B0 w0 κ0 st κ a w) (h : (carry D o nid st K).eval = some z) : o.wpIn (FW ro) n P a w (Nx D M0 B0 w0 κ0 K z) (PQ Out z N) := by
  unfold carry at h
  split at h
  · cases h
  · rename_i vals hv
    split at h
    · rename_i hc
      simp only [Bool.and_eq_true] at hc
      split at h
      · rename_i x ho
        split at h
        · rename_i t v
          split at h
          · rename_i hcl
            have hx : opIn st.slots D.glob x = some (.ifc t v) := by
              rw [ho] at hv
              simp only [Op.operands, List.mapM_cons, List.mapM_nil] at hv
              obtain ⟨y, h1, h2⟩ := bind_some hv
              cases h2
              exact h1
            simp only [Bool.and_eq_true] at hcl
            exact panic_wp T hr ho hx hcl.1 hcl.2 h
          · cases h
        · cases h
      · rename_i x ho
        split at h
        · rename_i id
          split at h
          · rename_i s pos hobj
            exact next_wp hr (fresh_lack hc.1) hc.2 ho hv hobj h
          · cases h
        · cases h
      · rename_i fo ags ts ho
        split at h
        · rename_i g cap vas
          split at h
          · rename_i e t hcl
            split at h
            · rename_i x
              split at h
              · rename_i xs te hxs hte
                split at h
                · rename_i hg
                  simp only [Tr.eval] at h
                  rw [Option.ite_none_right_eq_some] at h
                  exact clone_wp T hr (fresh_lack hc.1) hc.2 ho hv hcl hg hxs hte (by simpa using h.1) h.2
                · cases h
              · cases h
            · cases h
          split at h
          · rename_i s hs
            split at h
            · rename_i x b hfit
              split at h
              · rename_i hok
                exact call_wp T hr (fresh_lack hc.1) hc.2 ho hv hs hfit hok.1 hok.2 h
              · cases h
            · cases h
          · cases h
        · cases h
      · split at h
        · rename_i c hcore
          exact core_wp T hr (fresh_lack hc.1) hc.2 hv hcore h
        · cases h
    · cases h

/-- A guard that is decided stays so. -/
theorem RR.lit (hr : RD D M0 B0 w0 κ0 st κ a w) {d : Tmp} {v : Bool} (h : assoc st.slots d = some (.sc (.bool v))) : RD D M0 B0 w0 κ0 { st with slots := (d, .sc (.bool v)) :: st.slots } κ a w := by
  refine ⟨⟨hr.mem, fun i x hi => ?_, hr.defers, hr.size, hr.old⟩, hr.par⟩
  rw [assoc_cons] at hi
  split at hi
  · rename_i he
    subst he
    cases hi
    exact hr.slots _ _ h
  · exact hr.slots i x hi

theorem RR.skip (hr : RD D M0 B0 w0 κ0 st κ a w) {dst : Option Tmp} (hd : dst.all (· < D.nt) = true) : RD D M0 B0 w0 κ0 (st.upd dst (.tup []) []) κ (a.put dst undef) w := by
  have hn : Next M0 (fun _ => false) κ κ st.objs st.objs w w := Next.refl0
  refine ⟨?_, hr.par⟩
  have := hr.toR.next (dst := dst) (v := .tup []) (u := undef) hn hr.mem (fun i v _ => lacksF v) (fun d _ => lacksDF d) (fun d hd' => by subst hd'; simpa using hd) (fun _ => ⟨[], rfl, rfl⟩)
  exact this

/-- A guard that was not carried out itself. -/
theorem RR.unwanted (hr : RD D M0 B0 w0 κ0 st κ a w) {ops : Array Oper} {o : Oper} {j : Nat} {want : Bool} {d : Tmp} (hg : o.guard = some (j, want)) (hd : (ops[j]?).bind (·.dst) = some d) (hb : assoc st.slots d = some (.tup [])) : Region.wanted o (yielded ops a.tmps) = false := by
  obtain ⟨us, h1, h2⟩ := hr.slots d _ hb
  rw [show us = [] from h2] at h1
  have : yielded ops a.tmps j = none := by
    unfold yielded
    rw [hd, Option.bind_some]
    rw [Array.getD_eq_getD_getElem?] at h1
    cases hx : a.tmps[d]? with
    | none => rfl
    | some v =>
      rw [hx] at h1
      simp only [Option.getD_some] at h1
      subst h1
      rfl
  simp [Region.wanted, hg, this]

/-- An operation under its guard, as a region's step. -/
theorem step_wp (T : Told P D M0 B0 w0 κ0 Out) {ops : Array Oper} {i : Nat} {o : Oper} (ho : ops[i]? = some o) {nid : Nat} {K : ASt → Tr Z} {z : Z} {N : Act → World → Prop} (hr : RD D M0 B0 w0 κ0 st κ a w) (h : (stepT D ops o nid st K).eval = some z) :
    wpOpIn (FW ro) n P ops (PQ Out z N) i (Nx D M0 B0 w0 κ0 K z) a w := by
  unfold wpOpIn
  rw [ho]
  simp only
  unfold stepT at h
  split at h
  · rename_i hg
    have hw : Region.wanted o (yielded ops a.tmps) = true := by simp [Region.wanted, hg]
    rw [if_pos hw]
    exact (carry_wp T hr h)
  · rename_i j want hg
    split at h
    · rename_i d hd
      split at h
      · rename_i b hb
        have hval := hr.slots d _ hb
        have hat : a.tmps[d]? = some (.bool b) := by
          have h1 := hval.1
          rw [Array.getD_eq_getD_getElem?] at h1
          cases hx : a.tmps[d]? with
          | none => rw [hx] at h1; simp [undef] at h1
          | some v => rw [hx] at h1; simp at h1; rw [h1]
        have hw : Region.wanted o (yielded ops a.tmps) = (some b == some want) := by
          simp only [Region.wanted, hg, yielded, hd, Option.bind_some, hat]
        simp only [Tr.eval] at h
        rw [hw]
        cases b <;> cases want <;> simp only [cond, if_true, if_false, Bool.false_eq_true] at h
        · rw [if_pos (by decide)]; exact (carry_wp T (hr.lit hb) h)
        · rw [if_neg (by decide)]
          split at h
          · rename_i hda
            exact ⟨fun _ _ => trivial, κ, _, (hr.lit hb).skip hda, h⟩
          · cases h
        · rw [if_neg (by decide)]
          split at h
          · rename_i hda
            exact ⟨fun _ _ => trivial, κ, _, (hr.lit hb).skip hda, h⟩
          · cases h
        · rw [if_pos (by decide)]; exact (carry_wp T (hr.lit hb) h)
      · rename_i hb
        rw [hr.unwanted hg hd hb, if_neg (by simp)]
        split at h
        · rename_i hda
          exact ⟨fun _ _ => trivial, κ, _, hr.skip hda, h⟩
        · cases h
      · cases h
    · cases h
end
end Go.AM
