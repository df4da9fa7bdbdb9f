/- General words for walking a function's code: the temporaries as a function, rules for each form of code, the entry of a function. No program. -/
import Derived.OrdersHeld
import Derived.Tactics
import Derived.Deep.LoopGhost
import Derived.LoopN
import Derived.WalkKit
import Derived.IntWalk
import Derived.KernelRfl
namespace Go.Sl
open Go

abbrev Env := Nat → Value
def put (e : Env) (d : Nat) (v : Value) : Env := fun t => bif Nat.beq t d then v else e t
def env0 (l : List Value) : Env := fun t => l.getD t undef
def ev (e : Env) : Operand → Value
  | .tmp t => e t
  | .const v => v
  | .global g => .pointer (some ⟨g, 0, none⟩)
  | .func f => .func (.func f) #[] #[]

theorem put_same (e : Env) (d : Nat) (v : Value) : put e d v d = v := by simp [put]
theorem beq_ne {t d : Nat} (h : t ≠ d) : Nat.beq t d = false := by
  cases hb : Nat.beq t d
  · rfl
  · exact absurd (Nat.eq_of_beq_eq_true hb) h
theorem put_other (e : Env) {d t : Nat} (v : Value) (h : t ≠ d) : put e d v t = e t := by simp [put, beq_ne h]

structure Fits (n : Nat) (a : Act) (e : Env) : Prop where
  size : a.tmps.size = n
  nod : a.defers = []
  get : ∀ t, a.tmps.getD t undef = e t

theorem Fits.ev {n : Nat} {a : Act} {e : Env} (h : Fits n a e) (x : Operand) : a.eval x = Sl.ev e x := by
  cases x <;> simp [Act.eval, Sl.ev, ← h.get]

theorem Fits.evs {n : Nat} {a : Act} {e : Env} (h : Fits n a e) : a.eval = Sl.ev e := funext h.ev

theorem Fits.put {n : Nat} {a : Act} {e : Env} (h : Fits n a e) {d : Nat} (hd : d < n) (v : Value) : Fits n (a.put (some d) v) (Sl.put e d v) := by
  refine ⟨by simp [Act.put, h.size], h.nod, fun t => ?_⟩
  by_cases ht : t = d
  · subst ht
    have : t < a.tmps.size := by rw [h.size]; exact hd
    simp [Act.put, Sl.put, this]
  · have hne : ¬ d = t := fun e => ht e.symm
    have := h.get t
    simp only [Array.getD_eq_getD_getElem?] at this ⊢
    simp [Act.put, Sl.put, beq_ne ht, Array.getElem?_setIfInBounds_ne hne, this]

theorem Fits.put_none {n : Nat} {a : Act} {e : Env} (h : Fits n a e) (v : Value) : Fits n (a.put none v) e := h

def cpost (n : Nat) (N R : Env → World → Prop) (E : Nat → Env → World → Prop) : Exit → Act → World → Prop
  | .normal, a, w => ∃ e, Fits n a e ∧ N e w
  | .ret, a, w => ∃ e, Fits n a e ∧ R e w
  | .exit i, a, w => ∃ e, Fits n a e ∧ E i e w
  | _, _, _ => False

def CWp (P : Program) (n : Nat) (c : Code) (N R : Env → World → Prop) (E : Nat → Env → World → Prop) (e : Env) (w : World) : Prop :=
  ∀ a, Fits n a e → c.wp P (cpost n N R E) a w

section
variable {P : Program} {n : Nat} {N R : Env → World → Prop} {E : Nat → Env → World → Prop} {e : Env} {w : World}

theorem cw_seq {x y : Code} (h : CWp P n x (fun e w => CWp P n y N R E e w) R E e w) : CWp P n (.seq x y) N R E e w := by
  intro a ha
  refine wp_seq (wp_mono (h a ha) ?_)
  intro ex a' w' q
  cases ex with
  | normal => obtain ⟨e', hf, hn⟩ := q; exact hn a' hf
  | exit i => exact q
  | goto i => exact q
  | ret => exact q
  | panic c => exact q
  | outgrown => exact q

theorem cw_skip (h : N e w) : CWp P n .skip N R E e w := fun _ ha => wp_skip ⟨e, ha, h⟩
theorem cw_ret (h : R e w) : CWp P n .ret N R E e w := fun _ ha => wp_ret ⟨e, ha, h⟩
theorem cw_exit {i : Nat} (h : E i e w) : CWp P n (.exit i) N R E e w := fun _ ha => wp_exit ⟨e, ha, h⟩

def bk (id : Nat) (N : Env → World → Prop) (E : Nat → Env → World → Prop) : Nat → Env → World → Prop :=
  fun i e w => bif Nat.beq i id then N e w else E i e w

theorem cw_block {id : Nat} {c : Code} (h : CWp P n c N R (bk id N E) e w) : CWp P n (.block id c) N R E e w := by
  intro a ha
  refine wp_block (wp_mono (h a ha) ?_)
  intro ex a' w' q
  cases ex with
  | exit i =>
    obtain ⟨e', hf, hn⟩ := q
    by_cases hi : i = id
    · subst hi
      simp only [Exit.inBlock, if_true]
      refine ⟨e', hf, ?_⟩
      simpa [bk] using hn
    · simp only [Exit.inBlock, if_neg hi]
      refine ⟨e', hf, ?_⟩
      simpa [bk, beq_ne hi] using hn
  | normal => exact q
  | goto i => exact q
  | ret => exact q
  | panic c => exact q
  | outgrown => exact q

theorem bk_here {id : Nat} {N' : Env → World → Prop} (h : N' e w) : bk id N' E id e w := by simpa [bk] using h
theorem bk_up {i id : Nat} {N' : Env → World → Prop} (hne : Nat.beq i id = false) (h : E i e w) : bk id N' E i e w := by simpa [bk, hne] using h

theorem cw_if {c : Operand} {x y : Code} {b : Bool} (hc : ev e c = .bool b) (ht : b = true → CWp P n x N R E e w) (hf : b = false → CWp P n y N R E e w) :
    CWp P n (.cond c x y) N R E e w := fun a ha => wp_cond_split (by rw [ha.ev, hc]) (fun h => ht h a ha) (fun h => hf h a ha)
theorem cw_yes {c : Operand} {x y : Code} (hc : ev e c = .bool true) (h : CWp P n x N R E e w) : CWp P n (.cond c x y) N R E e w :=
  fun a ha => wp_cond_true (by rw [ha.ev, hc]) (h a ha)
theorem cw_no {c : Operand} {x y : Code} (hc : ev e c = .bool false) (h : CWp P n y N R E e w) : CWp P n (.cond c x y) N R E e w :=
  fun a ha => wp_cond_false (by rw [ha.ev, hc]) (h a ha)

/-- A loop: the invariant bears a number that every round lowers. -/
theorem cw_loop {c : Code} (I : Nat → Env → World → Prop) (k₀ : Nat) (h₀ : I k₀ e w)
    (round : ∀ k e w, I k e w → CWp P n c (fun e' w' => ∃ k', k' < k ∧ I k' e' w') R E e w) : CWp P n (.loop c) N R E e w := by
  intro a ha
  refine wp_loop_ghost (fun k a w => ∃ e, Fits n a e ∧ I k e w) k₀ ⟨e, ha, h₀⟩ ?_
  rintro k a' w' ⟨e', hf, hI⟩
  refine wp_mono (round k e' w' hI a' hf) ?_
  intro ex a'' w'' q
  cases ex with
  | normal => obtain ⟨e2, hf2, k', hlt, hI'⟩ := q; exact ⟨k', hlt, e2, hf2, hI'⟩
  | exit i => exact q
  | goto i => exact q
  | ret => exact q
  | panic c => exact q
  | outgrown => exact q

/-- a loop of few rounds, round by round -/
def Rounds (P : Program) (n : Nat) (c : Code) (R : Env → World → Prop) (E : Nat → Env → World → Prop) : Nat → Env → World → Prop
  | 0, _, _ => False
  | k + 1, e, w => CWp P n c (Rounds P n c R E k) R E e w
theorem rounds_go {c : Code} {k : Nat} (h : CWp P n c (Rounds P n c R E k) R E e w) : Rounds P n c R E (k + 1) e w := h
theorem cw_rounds {c : Code} (k : Nat) (h : Rounds P n c R E k e w) : CWp P n (.loop c) N R E e w := by
  intro a ha
  refine wp_loop_rounds k ?_
  induction k generalizing e w a with
  | zero => exact h.elim
  | succ k ih =>
    rw [rounds_succ]
    refine wp_mono (h a ha) ?_
    intro ex a' w' q
    cases ex with
    | normal => obtain ⟨e', hf, hr⟩ := q; exact ih hr a' hf
    | exit i => exact q
    | goto i => exact q
    | ret => exact q
    | panic c => exact q
    | outgrown => exact q

theorem CWp.mono {c : Code} {N' R' : Env → World → Prop} {E' : Nat → Env → World → Prop} (h : CWp P n c N R E e w)
    (hN : ∀ e w, N e w → N' e w) (hR : ∀ e w, R e w → R' e w) (hE : ∀ i e w, E i e w → E' i e w) : CWp P n c N' R' E' e w := by
  intro a ha
  refine wp_mono (h a ha) ?_
  intro ex a' w' q
  cases ex with
  | normal => obtain ⟨e', hf, q⟩ := q; exact ⟨e', hf, hN _ _ q⟩
  | exit i => obtain ⟨e', hf, q⟩ := q; exact ⟨e', hf, hE _ _ _ q⟩
  | goto i => exact q
  | ret => obtain ⟨e', hf, q⟩ := q; exact ⟨e', hf, hR _ _ q⟩
  | panic c => exact q
  | outgrown => exact q
end

/-! ### a function's entry -/
def retp (P : Program) (fn : Func) (Q : Value → World → Prop) (e : Env) (w : World) : Prop :=
  ∀ a, Fits fn.ntmps a e → ∃ v, (results fn a.tmps).run P w = .ok v w ∧ Q v w
def noexit : Nat → Env → World → Prop := fun _ _ _ => False
def retd (Q : Value → World → Prop) : Ending → World → Prop
  | .returned v, w => Q v w
  | _, _ => False

theorem fn_enter {P : Program} {f : FuncId} {fn : Func} {c : Code} {args : List Value} {w : World} {Q : Value → World → Prop} (hf : P.funcs[f]? = some fn)
    (hb : fn.body = some c) (hn : Nat.ble args.length fn.ntmps = true) (h : CWp P fn.ntmps c (retp P fn Q) (retp P fn Q) noexit (env0 args) w) : Calls P f args.toArray w (retd Q) := by
  have hn := Nat.le_of_ble_eq_true hn
  refine calls_of_wp hf hb ?_
  have hfit : Fits fn.ntmps { tmps := args.toArray ++ Array.replicate (fn.ntmps - args.toArray.size) undef, defers := [] } (env0 args) := by
    refine ⟨by simp; omega, rfl, fun t => ?_⟩
    simp only [env0, Array.getD_eq_getD_getElem?, List.getD_eq_getElem?_getD, Array.getElem?_append, List.size_toArray, List.getElem?_toArray]
    by_cases ht : t < args.length
    · simp [ht]
    · simp only [if_neg ht, Array.getElem?_replicate]
      rw [List.getElem?_eq_none (by omega)]
      split <;> rfl
  refine wp_mono (h _ hfit) ?_
  intro ex a' w' q
  cases ex with
  | normal => obtain ⟨e', hf, q⟩ := q; obtain ⟨v, h1, h2⟩ := q a' hf; exact ⟨hf.nod, v, h1, h2⟩
  | exit i => obtain ⟨e', hf, q⟩ := q; exact q.elim
  | goto i => exact q
  | ret => obtain ⟨e', hf, q⟩ := q; obtain ⟨v, h1, h2⟩ := q a' hf; exact ⟨hf.nod, v, h1, h2⟩
  | panic c => exact q.elim
  | outgrown => exact q.elim

section
variable {P : Program} {fn : Func} {Q : Value → World → Prop} {e : Env} {w : World}
theorem ret0 (h : fn.results = #[]) (q : Q (.tuple #[]) w) : retp P fn Q e w := fun a _ => ⟨_, results_none h a.tmps P w, q⟩
theorem ret1 {t : Nat} (h : fn.results = #[.tmp t]) (q : Q (e t) w) : retp P fn Q e w := fun a ha => ⟨_, results_tmp h a.tmps P w, by rw [ha.get]; exact q⟩
theorem ret2 {t u : Nat} (h : fn.results = #[.tmp t, .tmp u]) (q : Q (.tuple #[e t, e u]) w) : retp P fn Q e w :=
  fun a ha => ⟨_, results_tmp2 h a.tmps P w, by rw [ha.get, ha.get]; exact q⟩
end
end Go.Sl
/- General words for a statement's operations: in the order of the text, or in whatever order the tape picks. No program. -/
namespace Go.Sl
open Go
section
variable {P : Program} {ops : Array Oper} {Q : Exit → Act → World → Prop} {md : Region.Mode} {S : World → Prop} {hd : Nat → Bool}

/-- Whatever comes up next; S is shown anew behind each operation of the head. -/
def Pick (P : Program) (md : Region.Mode) (ops : Array Oper) (Q : Exit → Act → World → Prop) (S : World → Prop) (hd : Nat → Bool) : Nat → Array Bool → Act → World → Prop
  | 0, lst, a, w => Region.ready md ops lst = [] ∧ Q .normal a w
  | k + 1, lst, a, w => (Region.ready md ops lst = [] → Q .normal a w) ∧
      ∀ i ∈ Region.ready md ops lst, wpOp P ops Q i (fun a' w' => (hd i = true → S w') ∧ Pick P md ops Q S hd k (lst.setIfInBounds i true) a' w') a w

theorem Pick.any : ∀ (k : Nat) (lst : Array Bool) (a : Act) (w : World), Pick P md ops Q S hd k lst a w → wpAny P md ops Q k lst a w
  | 0, _, _, _, h => h
  | k + 1, _, _, _, h => ⟨h.1, fun i hi => wpOp_mono (fun a' w' q => Pick.any k _ a' w' q.2) (h.2 i hi)⟩

theorem notin_of_unlisted {lst : Array Bool} {i j : Nat} {oj : Oper} (hj : ops[j]? = some oj) (hr : j ∈ Region.ready md ops lst) (hi : lst.getD i true = false)
    {ed : Edge} (he : ed ∈ oj.after) (hb : Region.binds md ed = true) (hon : ed.on = i) : False := by
  obtain ⟨_, oj', hoj, hall⟩ := mem_ready.1 hr
  rw [hj] at hoj
  cases hoj
  have h1 := hall ed he hb
  rw [hon] at h1
  simp only [Array.getD_eq_getD_getElem?] at h1 hi
  cases hx : lst[i]? with
  | none => simp [hx] at hi
  | some b => simp only [hx, Option.getD_some] at h1 hi; simp [h1] at hi

/-- An operation of the head that yields its value wherever S holds may be taken first. -/
theorem Pick.first {i : Nat} {oi : Oper} {v : Value} (hi : ops[i]? = some oi) (hsel : ∀ (j : Nat) (o : Oper) cs b, ops[j]? = some o → o.op ≠ .select cs b)
    (hQ : ∀ c a w, Q (.panic c) (a.put oi.dst v) w → Q (.panic c) a w)
    (hT : ∀ j oj, ops[j]? = some oj → hd j = false → ∃ ed ∈ oj.after, Region.binds md ed = true ∧ ed.on = i) :
    ∀ (k : Nat) (lst : Array Bool) (a : Act) (w : World),
      (∀ j oj, ops[j]? = some oj → j ≠ i → lst.getD j true = false → (∀ ed ∈ oj.after, Region.binds md ed = true → ed.on ≠ i) → oi.apart ops oj = true) →
      i ∈ Region.ready md ops lst → YieldsIf P ops S oi v a → S w → hd i = true →
      Pick P md ops Q S hd k (lst.setIfInBounds i true) (a.put oi.dst v) w → Pick P md ops Q S hd (k + 1) lst a w := by
  intro k
  induction k with
  | zero =>
    intro lst a w _ hr hy hS hh H
    refine ⟨fun h0 => absurd hr (by rw [h0]; simp), fun j hj => ?_⟩
    rcases Nat.decEq j i with hne | rfl
    · have hm := ready_mono hj hne
      rw [H.1] at hm
      cases hm
    · exact hy.wpOp hi hS ⟨fun _ => hS, H⟩
  | succ k ih =>
    intro lst a w hfree hr hy hS hh H
    refine ⟨fun h0 => absurd hr (by rw [h0]; simp), fun j hj => ?_⟩
    rcases Nat.decEq j i with hne | rfl
    · obtain ⟨hjun, oj, hoj, _⟩ := mem_ready.1 hj
      have hiun := (mem_ready.1 hr).1
      have hhd : hd j = true := by
        cases hb : hd j with
        | true => rfl
        | false =>
          obtain ⟨ed, he, hbi, hon⟩ := hT j oj hoj hb
          exact (notin_of_unlisted hoj hj hiun he hbi hon).elim
      have hno : ∀ ed ∈ oj.after, Region.binds md ed = true → ed.on ≠ i := fun ed he hb hon => notin_of_unlisted hoj hj hiun he hb hon
      have h2 := wpOp_putIf hoj (hfree j oj hoj hne hjun hno) (fun cs b => hsel i oi cs b hi) (fun cs b => hsel j oj cs b hoj) hQ hy (H.2 j (ready_mono hj hne))
      have hfree' : ∀ m om, ops[m]? = some om → m ≠ i → (lst.setIfInBounds j true).getD m true = false →
          (∀ ed ∈ om.after, Region.binds md ed = true → ed.on ≠ i) → oi.apart ops om = true := fun m om hm hmi hun hno' => by
        refine hfree m om hm hmi ?_ hno'
        rcases Nat.decEq j m with hjm | rfl
        · rwa [getD_set_ne true hjm] at hun
        · exact hjun
      refine wpOp_mono (fun a' w' q => ?_) h2
      have hS' := q.2.1 hhd
      refine ⟨fun _ => hS', ih (lst.setIfInBounds j true) a' w' hfree' (ready_mono hr (fun e => hne e.symm)) q.1 hS' hh ?_⟩
      rw [Array.setIfInBounds_comm _ _ hne]
      exact q.2.2
    · exact hy.wpOp hi hS ⟨fun _ => hS, H⟩
end

/-! ### the same over temporaries as a function -/
def only (n : Nat) (N : Env → World → Prop) : Exit → Act → World → Prop
  | .normal, a, w => ∃ e, Fits n a e ∧ N e w
  | _, _, _ => False

/-- is an operation carried out? -/
def wanted (ops : Array Oper) (e : Env) (o : Oper) : Bool :=
  match o.guard with
  | none => true
  | some (j, want) => match (ops[j]?).bind (·.dst) with
    | some d => match e d with
      | .bool b => b == want
      | _ => false
    | none => false

theorem wanted_fits {ops : Array Oper} {n : Nat} {a : Act} {e : Env} (h : Fits n a e) (o : Oper) : Region.wanted o (yielded ops a.tmps) = wanted ops e o := by
  unfold Region.wanted wanted
  cases o.guard with
  | none => rfl
  | some g =>
    obtain ⟨j, want⟩ := g
    simp only [yielded]
    cases (ops[j]?).bind (·.dst) with
    | none => simp
    | some d =>
      have hg := h.get d
      simp only [Array.getD_eq_getD_getElem?] at hg
      cases hx : a.tmps[d]? with
      | none =>
        simp only [hx, Option.getD_none] at hg
        simp only [Option.bind_some, hx, ← hg, undef]
        rfl
      | some v =>
        simp only [hx, Option.getD_some] at hg
        simp only [Option.bind_some, hx, ← hg]
        cases v <;> simp

section
variable {P : Program} {n : Nat} {ops : Array Oper} {N : Env → World → Prop} {e : Env} {w : World}

def putO (e : Env) : Option Nat → Value → Env
  | some d, v => put e d v
  | none, _ => e
def inO (n : Nat) : Option Nat → Bool
  | some d => Nat.blt d n
  | none => true
theorem Fits.putO {n : Nat} {a : Act} {e : Env} (h : Fits n a e) {d : Option Nat} (hd : inO n d = true) (v : Value) : Fits n (a.put d v) (putO e d v) := by
  cases d with
  | none => exact h
  | some d => exact h.put (by have h1 := hd; simp only [inO, Nat.blt] at h1; exact Nat.le_of_ble_eq_true h1) v

/-- what one operation does: it yields a value, or enters a function that hands one back -/
def DoesB (P : Program) (o : Oper) (e : Env) (w : World) (K : Value → World → Prop) : Prop :=
  match (execOp (ev e) o).run P w with
  | .ok (.value v) w' => K v w'
  | .ok .skip w' => K undef w'
  | .ok (.enter f args) w' => Calls P f args w' (retd K)
  | _ => False

structure Does (P : Program) (o : Oper) (e : Env) (w : World) (K : Value → World → Prop) : Prop where
  out : DoesB P o e w K

theorem Does.wp {o : Oper} {K : Value → World → Prop} (h : Does P o e w K) {a : Act} (ha : Fits n a e) (hd : inO n o.dst = true) {K' : Act → World → Prop} {Q : Exit → Act → World → Prop}
    (hk : ∀ v a' w', Fits n a' (putO e o.dst v) → a' = a.put o.dst v → K v w' → K' a' w') : o.wp P a w K' Q := by
  unfold Oper.wp Oper.upon
  rw [ha.evs]
  have h := h.out
  unfold DoesB at h
  split at h
  · rename_i v w' hr; simp only [hr]; exact hk _ _ _ (ha.putO hd v) rfl h
  · rename_i w' hr; simp only [hr]; exact hk _ _ _ (ha.putO hd undef) rfl h
  · rename_i f args w' hr
    simp only [hr]
    refine Calls.mono h fun e w'' q => ?_
    cases e with
    | returned v => exact hk _ _ _ (ha.putO hd v) rfl q
    | panicked c => exact q.elim
    | outgrown => exact q.elim
  · exact h.elim

def Ops (P : Program) (n : Nat) (ops : Array Oper) (l : List Oper) (N : Env → World → Prop) (e : Env) (w : World) : Prop :=
  ∀ a, Fits n a e → wpList P ops (only n N) l a w

theorem cw_region {R : Env → World → Prop} {E : Nat → Env → World → Prop} {id : Nat} {l : List Oper} (h : Ops P n l.toArray l N e w) : CWp P n (.region id l.toArray false) N R E e w := by
  intro a ha
  refine wp_mono (wp_region_lit (h a ha)) ?_
  intro ex a' w' q
  cases ex with
  | normal => exact q
  | _ => exact q.elim

theorem o_nil (h : N e w) : Ops P n ops [] N e w := fun _ ha => wpList_nil ⟨e, ha, h⟩

theorem o_does {o : Oper} {l : List Oper} (hd : inO n o.dst = true) (hw : wanted ops e o = true) (h : Does P o e w (fun v w' => Ops P n ops l N (putO e o.dst v) w')) :
    Ops P n ops (o :: l) N e w := by
  intro a ha
  unfold wpList
  rw [wanted_fits ha, if_pos hw]
  exact .inl (h.wp ha hd fun v a' w' hf _ hk => hk a' hf)

theorem o_no {o : Oper} {l : List Oper} (hd : inO n o.dst = true) (hw : wanted ops e o = false) (h : Ops P n ops l N (putO e o.dst undef) w) :
    Ops P n ops (o :: l) N e w := by
  intro a ha
  unfold wpList
  rw [wanted_fits ha, if_neg (by simp [hw])]
  exact h _ (ha.putO hd undef)

/-- whatever order the tape picks: a state of the statement: which operations are done -/
def Any (P : Program) (n : Nat) (ops : Array Oper) (S : World → Prop) (hd : Nat → Bool) (k : Nat) (lst : Array Bool) (N : Env → World → Prop) (e : Env) (w : World) : Prop :=
  ∀ a, Fits n a e → Pick P .any ops (only n N) S hd k lst a w

variable {S : World → Prop} {hd : Nat → Bool} {k : Nat} {lst : Array Bool}

theorem cw_draw0 {R : Env → World → Prop} {E : Nat → Env → World → Prop} {id : Nat} {l : List Oper} (S : World → Prop) (hd : Nat → Bool) (hm : P.follows .mixedOrders = true)
    (h : Any P n l.toArray S hd l.length (Array.replicate l.length false) N e { w with drawn := w.drawn + 1 }) : CWp P n (.region id l.toArray true) N R E e w := by
  intro a ha
  refine wp_mono (wp_region_any hm (Pick.any _ _ _ _ (by simpa using h a ha))) ?_
  intro ex a' w' q
  cases ex with
  | normal => exact q
  | _ => exact q.elim

/-- all that an operation of the head owes, as one Bool -/
def mayFirst (ops : Array Oper) (hd : Nat → Bool) (lst : Array Bool) (i : Nat) : Bool :=
  Region.noSelect ops && Region.free .any ops lst i && (Region.ready .any ops lst).contains i && hd i &&
    (List.range ops.size).all fun j => hd j || match ops[j]? with
      | some oj => oj.after.any fun ed => Region.binds .any ed && ed.on == i
      | none => true

theorem any_take (i : Nat) {o : Oper} {v : Value} (hi : ops[i]? = some o) (hb : mayFirst ops hd lst i = true) (hd' : inO n o.dst = true)
    (hy : wanted ops e o = true ∧ (∀ w, S w → (execOp (ev e) o).run P w = .ok (.value v) w) ∨ wanted ops e o = false ∧ v = undef) (hS : S w)
    (h : Any P n ops S hd k (lst.setIfInBounds i true) N (putO e o.dst v) w) : Any P n ops S hd (k + 1) lst N e w := by
  intro a ha
  simp only [mayFirst, Bool.and_eq_true] at hb
  obtain ⟨⟨⟨⟨h1, h2⟩, h3⟩, h4⟩, h5⟩ := hb
  refine Pick.first hi (Region.noSelect_spec h1) (fun _ _ _ q => q.elim) ?_ k lst a w (Region.free_spec hi h2) (by simpa using h3) ?_ hS h4 (h _ (ha.putO hd' v))
  · intro j oj hj hh
    simp only [List.all_eq_true, List.mem_range] at h5
    have := h5 j (Array.getElem?_eq_some_iff.1 hj).1
    simp only [hh, hj, Bool.false_or] at this
    obtain ⟨ed, he, hb⟩ := Array.any_eq_true'.1 this
    simp only [Bool.and_eq_true, beq_iff_eq] at hb
    exact ⟨ed, he, hb.1, hb.2⟩
  · rcases hy with ⟨hw, hv⟩ | ⟨hw, hv⟩
    · exact .inl ⟨by rw [wanted_fits ha]; exact hw, by rw [ha.evs]; exact hv⟩
    · exact .inr ⟨by rw [wanted_fits ha]; exact hw, hv⟩

theorem any_does (i : Nat) {o : Oper} (hi : ops[i]? = some o) (hr : Region.ready .any ops lst = [i]) (hd' : inO n o.dst = true) (hw : wanted ops e o = true)
    (h : Does P o e w (fun v w' => (hd i = true → S w') ∧ Any P n ops S hd k (lst.setIfInBounds i true) N (putO e o.dst v) w')) : Any P n ops S hd (k + 1) lst N e w := by
  intro a ha
  refine ⟨fun h0 => (by rw [hr] at h0; cases h0), fun j hj => ?_⟩
  rw [hr] at hj
  obtain rfl : j = i := by simpa using hj
  unfold wpOp
  simp only [hi]
  rw [wanted_fits ha, if_pos hw]
  exact .inl (h.wp ha hd' fun v a' w' hf _ hk => ⟨hk.1, hk.2 a' hf⟩)

theorem any_no (i : Nat) {o : Oper} (hi : ops[i]? = some o) (hr : Region.ready .any ops lst = [i]) (hd' : inO n o.dst = true) (hw : wanted ops e o = false)
    (hS : hd i = true → S w) (h : Any P n ops S hd k (lst.setIfInBounds i true) N (putO e o.dst undef) w) : Any P n ops S hd (k + 1) lst N e w := by
  intro a ha
  refine ⟨fun h0 => (by rw [hr] at h0; cases h0), fun j hj => ?_⟩
  rw [hr] at hj
  obtain rfl : j = i := by simpa using hj
  unfold wpOp
  simp only [hi]
  rw [wanted_fits ha, if_neg (by simp [hw])]
  exact ⟨hS, h _ (ha.putO hd' undef)⟩

theorem any_done (hr : Region.ready .any ops lst = []) (h : N e w) : Any P n ops S hd k lst N e w := by
  intro a ha
  cases k with
  | zero => exact ⟨hr, e, ha, h⟩
  | succ k => exact ⟨fun _ => ⟨e, ha, h⟩, fun i hi => by rw [hr] at hi; cases hi⟩
end
end Go.Sl
/- General words for memory: assertions that own blocks, joined by a list. No program. -/
namespace Go.Sl
open Go

structure Agree (w w' : World) (F : Nat → Prop) : Prop where
  blk : ∀ b, F b → w'.heap[b]? = w.heap[b]?
  os : w'.os = w.os
  out : w'.output = w.output

/-- An assertion: of a world, of what blocks are shared for good, and of what blocks are owned. -/
structure HP where
  holds : World → (Nat → Prop) → (Nat → Prop) → Prop
  loc : ∀ {w w' : World} {R R' F : Nat → Prop}, holds w R F → Agree w w' (fun b => F b ∨ R b) → (∀ b, R b → R' b) → holds w' R' F

def emp : HP := ⟨fun _ _ F => ∀ b, ¬ F b, fun h _ _ => h⟩
def star (A B : HP) : HP := ⟨fun w R F => ∃ F1 F2, (∀ b, F b ↔ F1 b ∨ F2 b) ∧ (∀ b, F1 b → ¬ F2 b) ∧ A.holds w R F1 ∧ B.holds w R F2, by
  rintro w w' R R' F ⟨F1, F2, h1, h2, ha, hb⟩ hag hR
  exact ⟨F1, F2, h1, h2, A.loc ha ⟨fun b hb' => hag.blk b (hb'.imp (fun q => (h1 b).2 (.inl q)) id), hag.os, hag.out⟩ hR,
    B.loc hb ⟨fun b hb' => hag.blk b (hb'.imp (fun q => (h1 b).2 (.inr q)) id), hag.os, hag.out⟩ hR⟩⟩
/-- a block that is owned -/
def obj (r : Nat) (o : Obj) : HP := ⟨fun w _ F => (∀ b, F b ↔ b = r) ∧ w.heap[r]? = some o, by
  rintro w w' R R' F ⟨h1, h2⟩ hag _
  exact ⟨h1, by rw [hag.blk r (.inl ((h1 r).2 rfl)), h2]⟩⟩
/-- a block that nobody writes any more -/
def ro (r : Nat) (o : Obj) : HP := ⟨fun w R F => (∀ b, ¬ F b) ∧ R r ∧ w.heap[r]? = some o, by
  rintro w w' R R' F ⟨h1, h2, h3⟩ hag hR
  exact ⟨h1, hR r h2, by rw [hag.blk r (.inr h2), h3]⟩⟩
def ex {α : Type} (f : α → HP) : HP := ⟨fun w R F => ∃ x, (f x).holds w R F, by
  rintro w w' R R' F ⟨x, h⟩ hag hR
  exact ⟨x, (f x).loc h hag hR⟩⟩
def pur (p : Prop) : HP := ⟨fun _ _ F => (∀ b, ¬ F b) ∧ p, fun h _ _ => h⟩
/-- all that was there at first is as it was, and nobody writes it -/
def old (w0 : World) : HP := ⟨fun w R F => (∀ b, ¬ F b) ∧ (∀ b, b < w0.heap.size → R b ∧ w.heap[b]? = w0.heap[b]?) ∧ w.os = w0.os ∧ w.output = w0.output, by
  rintro w w' R R' F ⟨h1, h2, h3, h4⟩ hag hR
  exact ⟨h1, fun b hb => ⟨hR b (h2 b hb).1, by rw [hag.blk b (.inr (h2 b hb).1), (h2 b hb).2]⟩, by rw [hag.os, h3], by rw [hag.out, h4]⟩⟩

def stars : List HP → HP
  | [] => emp
  | A :: L => star A (stars L)

def Sat (w : World) (L : List HP) : Prop := ∃ R F, (∀ b, R b → ¬ F b) ∧ (∀ b, F b ∨ R b → b < w.heap.size) ∧ (stars L).holds w R F

theorem stars_perm {L L' : List HP} (hp : L.Perm L') : ∀ {w R F}, (stars L).holds w R F → (stars L').holds w R F := by
  induction hp with
  | nil => exact fun h => h
  | cons x _ ih =>
    rintro w R F ⟨F1, F2, h1, h2, ha, hb⟩
    exact ⟨F1, F2, h1, h2, ha, ih hb⟩
  | swap x y l =>
    rintro w R F ⟨F1, F2, h1, h2, ha, G1, G2, g1, g2, hc, hd⟩
    refine ⟨G1, fun b => F1 b ∨ G2 b, fun b => ?_, fun b hb => ?_, hc, F1, G2, fun b => Iff.rfl, fun b hb hg => h2 b hb ((g1 b).2 (.inr hg)), ha, hd⟩
    · rw [h1, g1]
      constructor
      · rintro (h | h | h)
        · exact .inr (.inl h)
        · exact .inl h
        · exact .inr (.inr h)
      · rintro (h | h | h)
        · exact .inr (.inl h)
        · exact .inl h
        · exact .inr (.inr h)
    · rintro (h | h)
      · exact h2 b h ((g1 b).2 (.inl hb))
      · exact g2 b hb h
  | trans _ _ ih1 ih2 => exact fun h => ih2 (ih1 h)

theorem Sat.perm {w : World} {L L' : List HP} (h : Sat w L) (hp : L.Perm L') : Sat w L' :=
  let ⟨R, F, h1, h2, h3⟩ := h; ⟨R, F, h1, h2, stars_perm hp h3⟩

theorem perm_eraseIdx {α : Type} {l : List α} {k : Nat} {x : α} (h : l[k]? = some x) : l.Perm (x :: l.eraseIdx k) := by
  induction l generalizing k with
  | nil => simp at h
  | cons y l ih =>
    cases k with
    | zero => simp at h; subst h; simp
    | succ k =>
      simp at h
      simp only [List.eraseIdx_cons_succ]
      exact ((ih h).cons y).trans (List.Perm.swap _ _ _)

theorem perm_set {α : Type} {l : List α} {k : Nat} {x y : α} (h : l[k]? = some x) : (y :: l.eraseIdx k).Perm (l.set k y) := by
  induction l generalizing k with
  | nil => simp at h
  | cons z l ih =>
    cases k with
    | zero => simp
    | succ k =>
      simp at h
      simp only [List.eraseIdx_cons_succ, List.set_cons_succ]
      exact (List.Perm.swap _ _ _).trans ((ih h).cons z)

/-- the elements of a list at places, then the rest -/
def pickAt {α : Type} : List Nat → List α → Option (List α)
  | [], l => some l
  | k :: ks, l => match l[k]? with
    | some x => (pickAt ks (l.eraseIdx k)).map (x :: ·)
    | none => none

theorem perm_pickAt {α : Type} : ∀ (ks : List Nat) {l l' : List α}, pickAt ks l = some l' → l.Perm l'
  | [], l, l', h => by simp [pickAt] at h; subst h; exact .refl _
  | k :: ks, l, l', h => by
    simp only [pickAt] at h
    split at h
    · rename_i x hx
      cases hr : pickAt ks (l.eraseIdx k) with
      | none => simp [hr] at h
      | some r =>
        simp [hr] at h
        subst h
        exact (perm_eraseIdx hx).trans ((perm_pickAt ks hr).cons x)
    · cases h

/-- places are of the list as it is when its turn comes (each one taken out) -/
theorem Sat.pick {w : World} {L L' : List HP} (h : Sat w L) (ks : List Nat) (hp : pickAt ks L = some L') : Sat w L' := h.perm (perm_pickAt ks hp)

theorem Sat.mono {w : World} {A B : HP} {L : List HP} (h : Sat w (A :: L)) (hab : ∀ R F, A.holds w R F → B.holds w R F) : Sat w (B :: L) := by
  obtain ⟨R, F, h1, h2, F1, F2, h3, h4, h5, h6⟩ := h
  exact ⟨R, F, h1, h2, F1, F2, h3, h4, hab _ _ h5, h6⟩

theorem sat_star {w : World} {A B : HP} {L : List HP} : Sat w (star A B :: L) ↔ Sat w (A :: B :: L) := by
  constructor
  · rintro ⟨R, F, h1, h2, F1, F2, h3, h4, ⟨G1, G2, g1, g2, ga, gb⟩, h6⟩
    refine ⟨R, F, h1, h2, G1, fun b => G2 b ∨ F2 b, fun b => ?_, fun b hb => ?_, ga, G2, F2, fun b => Iff.rfl, fun b hb h => h4 b ((g1 b).2 (.inr hb)) h, gb, h6⟩
    · rw [h3, g1, or_assoc]
    · rintro (h | h)
      · exact g2 b hb h
      · exact h4 b ((g1 b).2 (.inl hb)) h
  · rintro ⟨R, F, h1, h2, F1, F2, h3, h4, ha, G1, G2, g1, g2, gb, h6⟩
    refine ⟨R, F, h1, h2, fun b => F1 b ∨ G1 b, G2, fun b => ?_, fun b hb h => ?_, ⟨F1, G1, fun b => Iff.rfl, fun b hb h => h4 b hb ((g1 b).2 (.inl h)), ha, gb⟩, h6⟩
    · rw [h3, g1, or_assoc]
    · rcases hb with hb | hb
      · exact h4 b hb ((g1 b).2 (.inr h))
      · exact g2 b hb h

theorem sat_ex {α : Type} {w : World} {f : α → HP} {L : List HP} : Sat w (ex f :: L) ↔ ∃ x, Sat w (f x :: L) := by
  constructor
  · rintro ⟨R, F, h1, h2, F1, F2, h3, h4, ⟨x, h5⟩, h6⟩
    exact ⟨x, R, F, h1, h2, F1, F2, h3, h4, h5, h6⟩
  · rintro ⟨x, R, F, h1, h2, F1, F2, h3, h4, h5, h6⟩
    exact ⟨R, F, h1, h2, F1, F2, h3, h4, ⟨x, h5⟩, h6⟩

theorem sat_pur {w : World} {p : Prop} {L : List HP} : Sat w (pur p :: L) ↔ p ∧ Sat w L := by
  constructor
  · rintro ⟨R, F, h1, h2, F1, F2, h3, h4, ⟨h5, hp⟩, h6⟩
    have : F = F2 := by funext b; simp [h3, h5]
    subst this
    exact ⟨hp, R, F, h1, h2, h6⟩
  · rintro ⟨hp, R, F, h1, h2, h6⟩
    exact ⟨R, F, h1, h2, fun _ => False, F, fun b => by simp, fun b hb => hb.elim, ⟨fun b => id, hp⟩, h6⟩

theorem sat_stars {w : World} {L M : List HP} : Sat w (stars M :: L) ↔ Sat w (M ++ L) := by
  induction M generalizing L with
  | nil =>
    constructor
    · rintro ⟨R, F, h1, h2, F1, F2, h3, h4, h5, h6⟩
      have : F = F2 := by funext b; have := h5 b; simp [h3, this]
      subst this
      exact ⟨R, F, h1, h2, h6⟩
    · rintro ⟨R, F, h1, h2, h6⟩
      exact ⟨R, F, h1, h2, fun _ => False, F, fun b => by simp, fun b hb => hb.elim, fun b => id, h6⟩
  | cons A M ih =>
    simp only [stars, List.cons_append]
    rw [sat_star]
    constructor
    · intro h
      have h' := ih.1 (h.perm (List.Perm.swap _ _ _))
      exact h'.perm List.perm_middle
    · intro h
      exact (ih.2 (h.perm List.perm_middle.symm)).perm (List.Perm.swap _ _ _)

/-- what is not wanted any more -/
theorem Sat.drop {w : World} {A : HP} {L : List HP} (h : Sat w (A :: L)) : Sat w L := by
  obtain ⟨R, F, h1, h2, F1, F2, h3, h4, h5, h6⟩ := h
  exact ⟨R, F2, fun b hb hf => h1 b hb ((h3 b).2 (.inr hf)), fun b hb => h2 b (hb.imp (fun q => (h3 b).2 (.inr q)) id), h6⟩

theorem Sat.head {w : World} {A : HP} {L : List HP} (h : Sat w (A :: L)) : ∃ R F, (∀ b, F b ∨ R b → b < w.heap.size) ∧ A.holds w R F := by
  obtain ⟨R, F, h1, h2, F1, F2, h3, h4, h5, h6⟩ := h
  exact ⟨R, F1, fun b hb => h2 b (hb.imp (fun q => (h3 b).2 (.inl q)) id), h5⟩

theorem Sat.obj {w : World} {L : List HP} (h : Sat w L) (k : Nat) {r : Nat} {o : Obj} (hk : L[k]? = some (Sl.obj r o)) : w.heap[r]? = some o := by
  obtain ⟨R, F, _, h2⟩ := (h.perm (perm_eraseIdx hk)).head
  exact h2.2
theorem Sat.ro {w : World} {L : List HP} (h : Sat w L) (k : Nat) {r : Nat} {o : Obj} (hk : L[k]? = some (Sl.ro r o)) : w.heap[r]? = some o := by
  obtain ⟨R, F, _, h2⟩ := (h.perm (perm_eraseIdx hk)).head
  exact h2.2.2
theorem Sat.old {w w0 : World} {L : List HP} (h : Sat w L) (k : Nat) (hk : L[k]? = some (Sl.old w0)) {b : Nat} (hb : b < w0.heap.size) : w.heap[b]? = w0.heap[b]? := by
  obtain ⟨R, F, _, h2⟩ := (h.perm (perm_eraseIdx hk)).head
  exact (h2.2.1 b hb).2

theorem cell_of {w : World} {r : Nat} {c : Array Value} {T : TypeId} {fz : Nat × Nat} (h : w.heap[r]? = some (.cells c T fz)) {i : Nat} {v : Value} (hi : c[i]? = some v) : w.cell? ⟨r, i, none⟩ = some v := by
  simp [World.cell?, h, hi]

theorem Sat.cell {w : World} {L : List HP} (h : Sat w L) (k : Nat) {r : Nat} {c : Array Value} {T : TypeId} {fz : Nat × Nat} (hk : L[k]? = some (Sl.obj r (.cells c T fz)))
    {i : Nat} {v : Value} (hi : c[i]? = some v) : w.cell? ⟨r, i, none⟩ = some v := cell_of (h.obj k hk) hi
theorem Sat.cellr {w : World} {L : List HP} (h : Sat w L) (k : Nat) {r : Nat} {c : Array Value} {T : TypeId} {fz : Nat × Nat} (hk : L[k]? = some (Sl.ro r (.cells c T fz)))
    {i : Nat} {v : Value} (hi : c[i]? = some v) : w.cell? ⟨r, i, none⟩ = some v := cell_of (h.ro k hk) hi

/-- nothing that anybody speaks of has changed -/
theorem Sat.same {w w' : World} {L : List HP} (h : Sat w L) (hag : ∀ b, b < w.heap.size → w'.heap[b]? = w.heap[b]?) (ho : w'.os = w.os) (hu : w'.output = w.output) (hsz : w.heap.size ≤ w'.heap.size) : Sat w' L := by
  obtain ⟨R, F, h1, h2, h3⟩ := h
  exact ⟨R, F, h1, fun b hb => Nat.lt_of_lt_of_le (h2 b hb) hsz, (stars L).loc h3 ⟨fun b hb => hag b (h2 b hb), ho, hu⟩ (fun _ q => q)⟩

theorem Sat.drawn {w : World} {L : List HP} (h : Sat w L) (k : Nat) : Sat { w with drawn := k } L := h.same (fun _ _ => rfl) rfl rfl (Nat.le_refl _)

theorem Sat.new {w : World} {L : List HP} (h : Sat w L) (o : Obj) : Sat { w with heap := w.heap.push o } (Sl.obj w.heap.size o :: L) := by
  obtain ⟨R, F, h1, h2, h3⟩ := h
  refine ⟨R, fun b => b = w.heap.size ∨ F b, fun b hb => ?_, fun b hb => ?_, fun b => b = w.heap.size, F, fun b => Iff.rfl, fun b hb hf => ?_, ⟨fun b => Iff.rfl, by simp⟩, (stars L).loc h3 ⟨fun b hb => ?_, rfl, rfl⟩ (fun _ q => q)⟩
  · rintro (hq | hq)
    · have := h2 b (.inr hb); omega
    · exact h1 b hb hq
  · simp only [Array.size_push]
    rcases hb with (rfl | hq) | hq
    · omega
    · have := h2 b (.inl hq); omega
    · have := h2 b (.inr hq); omega
  · subst hb; have := h2 _ (.inl hf); omega
  · have := h2 b hb
    have hne : b ≠ w.heap.size := by omega
    simp [Array.getElem?_push, hne]

/-- one owned block is written -/
theorem Sat.write {w w' : World} {L : List HP} (h : Sat w L) (k : Nat) {r : Nat} {o o' : Obj} (hk : L[k]? = some (Sl.obj r o)) (hr : w'.heap[r]? = some o')
    (hag : ∀ b, b ≠ r → w'.heap[b]? = w.heap[b]?) (ho : w'.os = w.os) (hu : w'.output = w.output) (hsz : w'.heap.size = w.heap.size) : Sat w' (L.set k (Sl.obj r o')) := by
  refine Sat.perm ?_ (perm_set hk)
  obtain ⟨R, F, h1, h2, F1, F2, h3, h4, ⟨h5, _⟩, h6⟩ := h.perm (perm_eraseIdx hk)
  refine ⟨R, F, h1, fun b hb => by rw [hsz]; exact h2 b hb, F1, F2, h3, h4, ⟨h5, hr⟩, (stars _).loc h6 ⟨fun b hb => hag b ?_, ho, hu⟩ (fun _ q => q)⟩
  rintro rfl
  have hb1 : F1 b := (h5 b).2 rfl
  rcases hb with hb | hb
  · exact h4 b hb1 hb
  · exact h1 b hb ((h3 b).2 (.inl hb1))

/-- an owned block is given to all -/
theorem Sat.share {w : World} {L : List HP} (h : Sat w L) (k : Nat) {r : Nat} {o : Obj} (hk : L[k]? = some (Sl.obj r o)) : Sat w (L.set k (Sl.ro r o)) := by
  refine Sat.perm ?_ (perm_set hk)
  obtain ⟨R, F, h1, h2, F1, F2, h3, h4, ⟨h5, h7⟩, h6⟩ := h.perm (perm_eraseIdx hk)
  refine ⟨fun b => R b ∨ b = r, F2, ?_, ?_, fun _ => False, F2, fun b => by simp, fun b hb => hb.elim, ⟨fun b => id, .inr rfl, h7⟩, (stars _).loc h6 ⟨fun _ _ => rfl, rfl, rfl⟩ (fun _ q => .inl q)⟩
  · rintro b (hb | rfl) hf
    · exact h1 b hb ((h3 b).2 (.inr hf))
    · exact h4 b ((h5 b).2 rfl) hf
  · rintro b (hb | hb | rfl)
    · exact h2 b (.inl ((h3 b).2 (.inr hb)))
    · exact h2 b (.inr hb)
    · exact h2 b (.inl ((h3 b).2 (.inl ((h5 b).2 rfl))))

/-- what is shared may be told twice -/
theorem Sat.dup {w : World} {L : List HP} (h : Sat w L) (k : Nat) {r : Nat} {o : Obj} (hk : L[k]? = some (Sl.ro r o)) : Sat w (Sl.ro r o :: L) := by
  obtain ⟨R, F, h1, h2, h3⟩ := h
  obtain ⟨F1, F2, h5, h6, ⟨h7, h8⟩, h9⟩ := stars_perm (perm_eraseIdx hk) h3
  exact ⟨R, F, h1, h2, fun _ => False, F, fun b => by simp, fun b hb => hb.elim, ⟨fun b => id, h8⟩, h3⟩

/-- two owned blocks are two -/
theorem Sat.ne {w : World} {L : List HP} {r r' : Nat} {o o' : Obj} (h : Sat w (Sl.obj r o :: Sl.obj r' o' :: L)) : r ≠ r' := by
  obtain ⟨R, F, h1, h2, F1, F2, h3, h4, ⟨h5, _⟩, G1, G2, g1, g2, ⟨g5, _⟩, h6⟩ := h
  rintro rfl
  exact h4 r ((h5 r).2 rfl) ((g1 r).2 (.inl ((g5 r).2 rfl)))
end Go.Sl
/- General words for single operations that only reckon or read. No program. -/
namespace Go.Sl
open Go
section
variable {P : Program} {o : Oper} {e : Env} {w : World} {x y c : Operand} {t u : TypeId}

theorem r_move {v : Value} (ho : o.op = .move x) (hx : ev e x = v) : (execOp (ev e) o).run P w = .ok (.value v) w := by simp [execOp, ho, hx, go_sem]
theorem r_assign {v : Value} (ho : o.op = .assign x) (hx : ev e x = v) : (execOp (ev e) o).run P w = .ok (.value v) w := by simp [execOp, ho, hx, go_sem]
theorem r_pick {b : Bool} {v : Value} {z : Operand} (ho : o.op = .pick c x z) (hc : ev e c = .bool b) (hx : (if b then ev e x else ev e z) = v) : (execOp (ev e) o).run P w = .ok (.value v) w := by
  subst hx; simp [execOp, ho, hc, asBool, go_sem]
theorem r_pickt {b : Bool} {v : Value} {z : Operand} (ho : o.op = .pick c x z) (hc : ev e c = .bool b) (hb : b = true) (hx : ev e x = v) : (execOp (ev e) o).run P w = .ok (.value v) w :=
  r_pick ho hc (by subst hb; exact hx)
theorem r_pickf {b : Bool} {v : Value} {z : Operand} (ho : o.op = .pick c x z) (hc : ev e c = .bool b) (hb : b = false) (hx : ev e z = v) : (execOp (ev e) o).run P w = .ok (.value v) w :=
  r_pick ho hc (by subst hb; exact hx)
theorem r_nilp {a : Addr} (ho : o.op = .nilCheck x) (hx : ev e x = .pointer (some a)) : (execOp (ev e) o).run P w = .ok (.value (.pointer (some a))) w := by simp [execOp, ho, hx, go_sem]
theorem r_nilf {f : FuncId} {fs cs : Array Value} (ho : o.op = .nilCheck x) (hx : ev e x = .func (.func f) fs cs) : (execOp (ev e) o).run P w = .ok (.value (.func (.func f) fs cs)) w := by simp [execOp, ho, hx, go_sem]
theorem r_nilm {r : Option Nat} (ho : o.op = .nilCheck x) (hx : ev e x = .map r) : (execOp (ev e) o).run P w = .ok (.value (.map r)) w := by simp [execOp, ho, hx, go_sem]
theorem r_not {b : Bool} (ho : o.op = .unOp .not t x) (hx : ev e x = .bool b) : (execOp (ev e) o).run P w = .ok (.value (.bool !b)) w := by simp [execOp, ho, hx, Op.unary, go_sem]
theorem r_tuple {vs : Array Value} {i : Nat} {v : Value} (ho : o.op = .extract x i) (hx : ev e x = .tuple vs) (hi : vs[i]? = some v) : (execOp (ev e) o).run P w = .ok (.value v) w := by
  simp [execOp, ho, hx, Instr.extract, hi, go_sem]
theorem r_func {f : Fn} {fs cs : Array Operand} {fv cv : List Value} (ho : o.op = .makeFunc f fs cs) (hf : fs.toList.map (ev e) = fv) (hc : cs.toList.map (ev e) = cv) : (execOp (ev e) o).run P w = .ok (.value (.func f fv.toArray cv.toArray)) w := by
  have h1 : (fs.toList.map (ev e)).toArray = fs.map (ev e) := by apply Array.ext'; simp
  have h2 : (cs.toList.map (ev e)).toArray = cs.map (ev e) := by apply Array.ext'; simp
  subst hf; subst hc; rw [h1, h2]; simp [execOp, ho, Instr.makeFunc, go_sem]

/-! whole numbers -/
theorem eqg {op : BinOp} {a b : Value} (h1 : a ≠ .nilIface ∨ b ≠ .nilIface) (h2 : ∀ c, a ≠ .agg c) : eqGuard op t x y a b = pure () := by
  unfold eqGuard
  cases a with
  | nilIface => cases b <;> first | (exact ite_self _) | simp at h1
  | agg c => exact absurd rfl (h2 c)
  | _ => exact ite_self _

theorem r_bin {op : BinOp} {a b v : Value} {w' : World} (ho : o.op = .binOp op t x y u) (hx : ev e x = a) (hy : ev e y = b) (h1 : a ≠ .nilIface ∨ b ≠ .nilIface) (h2 : ∀ c, a ≠ .agg c)
    (h : (binOp op t a b).run P w = .ok v w') : (execOp (ev e) o).run P w = .ok (.value v) w' := by
  simp only [execOp, ho, hx, hy, eqg h1 h2]
  simp [h, go_sem]
theorem r_add {k : IntKind} {a b v : Int} (ho : o.op = .binOp .add t x y u) (hx : ev e x = .int k a) (hy : ev e y = .int k b) (hv : k.wrap (a + b) = v) : (execOp (ev e) o).run P w = .ok (.value (.int k v)) w :=
  r_bin ho hx hy (by simp) (by simp) (by subst hv; simp [binOp, Op.intArith, go_sem])
theorem r_sub {k : IntKind} {a b v : Int} (ho : o.op = .binOp .sub t x y u) (hx : ev e x = .int k a) (hy : ev e y = .int k b) (hv : k.wrap (a - b) = v) : (execOp (ev e) o).run P w = .ok (.value (.int k v)) w :=
  r_bin ho hx hy (by simp) (by simp) (by subst hv; simp [binOp, Op.intArith, go_sem])
theorem r_mul {k : IntKind} {a b v : Int} (ho : o.op = .binOp .mul t x y u) (hx : ev e x = .int k a) (hy : ev e y = .int k b) (hv : k.wrap (a * b) = v) : (execOp (ev e) o).run P w = .ok (.value (.int k v)) w :=
  r_bin ho hx hy (by simp) (by simp) (by subst hv; simp [binOp, Op.intArith, go_sem])
theorem r_eql {k : IntKind} {a b : Int} (ho : o.op = .binOp .eql t x y u) (hx : ev e x = .int k a) (hy : ev e y = .int k b) : (execOp (ev e) o).run P w = .ok (.value (.bool (a == b))) w :=
  r_bin ho hx hy (by simp) (by simp) (by simp [binOp, Op.intCmp, go_sem])
theorem r_neq {k : IntKind} {a b : Int} (ho : o.op = .binOp .neq t x y u) (hx : ev e x = .int k a) (hy : ev e y = .int k b) : (execOp (ev e) o).run P w = .ok (.value (.bool (a != b))) w :=
  r_bin ho hx hy (by simp) (by simp) (by simp [binOp, Op.intCmp, go_sem])
theorem r_lss {k : IntKind} {a b : Int} (ho : o.op = .binOp .lss t x y u) (hx : ev e x = .int k a) (hy : ev e y = .int k b) : (execOp (ev e) o).run P w = .ok (.value (.bool (decide (a < b)))) w :=
  r_bin ho hx hy (by simp) (by simp) (by simp [binOp, Op.intCmp, go_sem])
theorem r_leq {k : IntKind} {a b : Int} (ho : o.op = .binOp .leq t x y u) (hx : ev e x = .int k a) (hy : ev e y = .int k b) : (execOp (ev e) o).run P w = .ok (.value (.bool (decide (a ≤ b)))) w :=
  r_bin ho hx hy (by simp) (by simp) (by simp [binOp, Op.intCmp, go_sem])
theorem r_gtr {k : IntKind} {a b : Int} (ho : o.op = .binOp .gtr t x y u) (hx : ev e x = .int k a) (hy : ev e y = .int k b) : (execOp (ev e) o).run P w = .ok (.value (.bool (decide (b < a)))) w :=
  r_bin ho hx hy (by simp) (by simp) (by simp [binOp, Op.intCmp, go_sem])
theorem r_geq {k : IntKind} {a b : Int} (ho : o.op = .binOp .geq t x y u) (hx : ev e x = .int k a) (hy : ev e y = .int k b) : (execOp (ev e) o).run P w = .ok (.value (.bool (decide (b ≤ a)))) w :=
  r_bin ho hx hy (by simp) (by simp) (by simp [binOp, Op.intCmp, go_sem])
theorem r_bits {op : BinOp} {k : IntKind} {a b : Int} {v : Value} (ho : o.op = .binOp op t x y u) (hop : op = .and ∨ op = .or ∨ op = .xor ∨ op = .andNot) (hx : ev e x = .int k a) (hy : ev e y = .int k b)
    (hv : (Op.intBits op k a b).run P w = .ok v w) : (execOp (ev e) o).run P w = .ok (.value v) w :=
  r_bin ho hx hy (by simp) (by simp) (by rcases hop with rfl | rfl | rfl | rfl <;> simpa [binOp] using hv)
theorem r_shl {k k' : IntKind} {a b : Int} (ho : o.op = .binOp .shl t x y u) (hx : ev e x = .int k a) (hy : ev e y = .int k' b) (hb : 0 ≤ b) : (execOp (ev e) o).run P w = .ok (.value (.int k (k.wrap (a * 2 ^ (min b.toNat k.bits))))) w :=
  r_bin ho hx hy (by simp) (by simp) (by simp only [binOp, Op.shift]; rw [if_neg (by omega)]; simp [go_sem])
theorem r_shr {k k' : IntKind} {a b : Int} (ho : o.op = .binOp .shr t x y u) (hx : ev e x = .int k a) (hy : ev e y = .int k' b) (hb : 0 ≤ b) : (execOp (ev e) o).run P w = .ok (.value (.int k (a.fdiv (2 ^ (min b.toNat k.bits))))) w :=
  r_bin ho hx hy (by simp) (by simp) (by simp only [binOp, Op.shift]; rw [if_neg (by omega)]; simp [go_sem])
theorem r_conv {k k' : IntKind} {s d : TypeId} {a v : Int} (ho : o.op = .convert s d x) (hs : P.underlying s = some (.int k')) (hd : P.underlying d = some (.int k)) (hx : ev e x = .int k' a) (hv : k.wrap a = v) :
    (execOp (ev e) o).run P w = .ok (.value (.int k v)) w := by
  subst hv; simp [execOp, ho, hx, convert, underlying, hs, hd, Conv.intToInt, go_sem]

/-! texts -/
theorem ba_beq (a b : ByteArray) : (a == b) = decide (a = b) := by
  rcases a with ⟨a⟩; rcases b with ⟨b⟩
  have h : (({ data := a } : ByteArray) == { data := b }) = (a == b) := rfl
  rw [h]
  by_cases hab : a = b
  · subst hab; simp
  · simp [hab]
theorem ba_lst (a b : ByteArray) : (a.toList == b.toList) = decide (a = b) := by
  by_cases hab : a = b
  · subst hab; simp
  · have : a.toList ≠ b.toList := fun h => hab (by
      rw [ByteArray.toList_eq, ByteArray.toList_eq] at h
      exact ByteArray.ext (Array.ext' h))
    simp [hab, this]
theorem r_seq {a b : ByteArray} (ho : o.op = .binOp .eql t x y u) (hx : ev e x = .string a) (hy : ev e y = .string b) : (execOp (ev e) o).run P w = .ok (.value (.bool (decide (a = b)))) w :=
  r_bin ho hx hy (by simp) (by simp) (by simp only [binOp, Op.stringOp, ba_lst]; rfl)
theorem r_sne {a b : ByteArray} (ho : o.op = .binOp .neq t x y u) (hx : ev e x = .string a) (hy : ev e y = .string b) : (execOp (ev e) o).run P w = .ok (.value (.bool (!decide (a = b)))) w :=
  r_bin ho hx hy (by simp) (by simp) (by simp only [binOp, Op.stringOp, ba_lst]; rfl)
theorem r_slt {a b : ByteArray} (ho : o.op = .binOp .lss t x y u) (hx : ev e x = .string a) (hy : ev e y = .string b) : (execOp (ev e) o).run P w = .ok (.value (.bool (Op.bytesLess a.toList b.toList))) w :=
  r_bin ho hx hy (by simp) (by simp) (by simp [binOp, Op.stringOp, go_sem])
theorem r_sle {a b : ByteArray} (ho : o.op = .binOp .leq t x y u) (hx : ev e x = .string a) (hy : ev e y = .string b) : (execOp (ev e) o).run P w = .ok (.value (.bool (Op.bytesLess a.toList b.toList || a.toList == b.toList))) w :=
  r_bin ho hx hy (by simp) (by simp) (by simp [binOp, Op.stringOp, go_sem])
theorem r_sgt {a b : ByteArray} (ho : o.op = .binOp .gtr t x y u) (hx : ev e x = .string a) (hy : ev e y = .string b) : (execOp (ev e) o).run P w = .ok (.value (.bool (!(Op.bytesLess a.toList b.toList || a.toList == b.toList)))) w :=
  r_bin ho hx hy (by simp) (by simp) (by simp only [binOp, Op.stringOp, go_sem]; rfl)

/-! bools, pointers, maps, slices against nil -/
theorem eq1 {a b : Value} {d : Bool} (h : ∀ n, (Op.equalIn (n + 1) t a b).run P w = .ok d w) : (Op.equal t a b).run P w = .ok d w := h 9999
theorem in_bool {a b : Bool} (ht : P.underlying t = some .bool) (n : Nat) : (Op.equalIn (n + 1) t (.bool a) (.bool b)).run P w = .ok (a == b) w := by
  simp [Op.equalIn, underlying, ht, go_sem]
theorem in_ptr {E : TypeId} {a : Option Addr} (ht : P.underlying t = some (.pointer E)) (n : Nat) : (Op.equalIn (n + 1) t (.pointer a) (.pointer none)).run P w = .ok a.isNone w := by
  cases a <;> simp [Op.equalIn, underlying, ht, go_sem]
theorem in_map {K E : TypeId} {a : Option Nat} (ht : P.underlying t = some (.map K E)) (n : Nat) : (Op.equalIn (n + 1) t (.map a) (.map none)).run P w = .ok a.isNone w := by
  cases a <;> simp [Op.equalIn, underlying, ht, go_sem]
theorem in_slice {E : TypeId} {a : Option Addr} {n c : Nat} (ht : P.underlying t = some (.slice E)) (k : Nat) : (Op.equalIn (k + 1) t (.slice a n c) (.slice none 0 0)).run P w = .ok a.isNone w := by
  cases a <;> simp [Op.equalIn, underlying, ht, go_sem]
theorem in_fun {ps rs : Array TypeId} {vr : Bool} {f : Fn} {fs cs : Array Value} (ht : P.underlying t = some (.func ps rs vr)) (k : Nat) : (Op.equalIn (k + 1) t (.func f fs cs) .nilFunc).run P w = .ok false w := by
  simp [Op.equalIn, underlying, ht, go_sem]
theorem r_eq {a b : Value} {d : Bool} (ho : o.op = .binOp .eql t x y u) (hx : ev e x = a) (hy : ev e y = b) (h1 : a ≠ .nilIface ∨ b ≠ .nilIface) (h2 : ∀ c, a ≠ .agg c)
    (hb : binOp .eql t a b = (do pure (.bool (← Op.equal t a b)))) (h : (Op.equal t a b).run P w = .ok d w) : (execOp (ev e) o).run P w = .ok (.value (.bool d)) w :=
  r_bin ho hx hy h1 h2 (by rw [hb]; simp [h, go_sem])
theorem r_ne {a b : Value} {d : Bool} (ho : o.op = .binOp .neq t x y u) (hx : ev e x = a) (hy : ev e y = b) (h1 : a ≠ .nilIface ∨ b ≠ .nilIface) (h2 : ∀ c, a ≠ .agg c)
    (hb : binOp .neq t a b = (do pure (.bool (!(← Op.equal t a b))))) (h : (Op.equal t a b).run P w = .ok d w) : (execOp (ev e) o).run P w = .ok (.value (.bool (!d))) w :=
  r_bin ho hx hy h1 h2 (by rw [hb]; simp [h, go_sem])
theorem r_beq {a b : Bool} (ho : o.op = .binOp .eql t x y u) (ht : P.underlying t = some .bool) (hx : ev e x = .bool a) (hy : ev e y = .bool b) : (execOp (ev e) o).run P w = .ok (.value (.bool (a == b))) w :=
  r_eq ho hx hy (by simp) (by simp) rfl (eq1 (in_bool ht))
theorem r_bne {a b : Bool} (ho : o.op = .binOp .neq t x y u) (ht : P.underlying t = some .bool) (hx : ev e x = .bool a) (hy : ev e y = .bool b) : (execOp (ev e) o).run P w = .ok (.value (.bool (!(a == b)))) w :=
  r_ne ho hx hy (by simp) (by simp) rfl (eq1 (in_bool ht))
theorem r_peqn {E : TypeId} {a : Option Addr} (ho : o.op = .binOp .eql t x y u) (ht : P.underlying t = some (.pointer E)) (hx : ev e x = .pointer a) (hy : ev e y = .pointer none) : (execOp (ev e) o).run P w = .ok (.value (.bool a.isNone)) w :=
  r_eq ho hx hy (by simp) (by simp) rfl (eq1 (in_ptr ht))
theorem r_pnen {E : TypeId} {a : Option Addr} (ho : o.op = .binOp .neq t x y u) (ht : P.underlying t = some (.pointer E)) (hx : ev e x = .pointer a) (hy : ev e y = .pointer none) : (execOp (ev e) o).run P w = .ok (.value (.bool !a.isNone)) w :=
  r_ne ho hx hy (by simp) (by simp) rfl (eq1 (in_ptr ht))
theorem r_meqn {K E : TypeId} {a : Option Nat} (ho : o.op = .binOp .eql t x y u) (ht : P.underlying t = some (.map K E)) (hx : ev e x = .map a) (hy : ev e y = .map none) : (execOp (ev e) o).run P w = .ok (.value (.bool a.isNone)) w :=
  r_eq ho hx hy (by simp) (by simp) rfl (eq1 (in_map ht))
theorem r_mnen {K E : TypeId} {a : Option Nat} (ho : o.op = .binOp .neq t x y u) (ht : P.underlying t = some (.map K E)) (hx : ev e x = .map a) (hy : ev e y = .map none) : (execOp (ev e) o).run P w = .ok (.value (.bool !a.isNone)) w :=
  r_ne ho hx hy (by simp) (by simp) rfl (eq1 (in_map ht))
theorem r_leqn {E : TypeId} {a : Option Addr} {n c : Nat} (ho : o.op = .binOp .eql t x y u) (ht : P.underlying t = some (.slice E)) (hx : ev e x = .slice a n c) (hy : ev e y = .slice none 0 0) : (execOp (ev e) o).run P w = .ok (.value (.bool a.isNone)) w :=
  r_eq ho hx hy (by simp) (by simp) rfl (eq1 (in_slice ht))
theorem r_lnen {E : TypeId} {a : Option Addr} {n c : Nat} (ho : o.op = .binOp .neq t x y u) (ht : P.underlying t = some (.slice E)) (hx : ev e x = .slice a n c) (hy : ev e y = .slice none 0 0) : (execOp (ev e) o).run P w = .ok (.value (.bool !a.isNone)) w :=
  r_ne ho hx hy (by simp) (by simp) rfl (eq1 (in_slice ht))

/-! addresses and reads -/
theorem r_field {fs : Array Field} {f : Field} {i m : Nat} {r ofs : Nat} (ho : o.op = .fieldAddr t x i) (ht : P.underlying t = some (.struct fs)) (hf : fs[i]? = some f)
    (hz : ∀ w, (sizeOf f.type).run P w = .ok (m + 1) w) (hx : ev e x = .pointer (some ⟨r, ofs, none⟩)) {j : Nat} (hj : ofs + f.offset = j) :
    (execOp (ev e) o).run P w = .ok (.value (.pointer (some ⟨r, j, none⟩))) w := by
  subst hj
  have ha : Addr.add ⟨r, ofs, none⟩ f.offset = ⟨r, ofs + f.offset, none⟩ := by
    unfold Addr.add
    by_cases h : f.offset = 0 <;> simp [h]
  simp [execOp, ho, hx, Instr.fieldAt, Instr.sureAddr, underlying, ht, hf, fieldPlace, hz, Sem.run_bind, Result.andThen, go_sem]
theorem r_load {a : Addr} {v : Value} (ho : o.op = .load t x) (hx : ev e x = .pointer (some a)) (ht : ∀ w, (isAgg t).run P w = .ok false w) (hc : w.cell? a = some v) : (execOp (ev e) o).run P w = .ok (.value v) w := by
  simp [execOp, ho, hx, Instr.loadAt, Instr.sureAddr, loadVar, ht, load, Sem.run, hc, Sem.run_bind, Result.andThen, go_sem]

theorem add_at (r ofs i : Nat) : Addr.add ⟨r, ofs, none⟩ i = ⟨r, ofs + i, none⟩ := by
  unfold Addr.add
  by_cases h : i = 0 <;> simp [h]

theorem run_cells {r : Nat} (vs : List Value) : ∀ {ofs i : Nat} {acc : Array Value} (_ : ∀ j v, vs[j]? = some v → w.cell? ⟨r, ofs + i + j, none⟩ = some v),
    (loadCellsFrom ⟨r, ofs, none⟩ i vs.length acc).run P w = .ok (acc ++ vs.toArray) w := by
  induction vs with
  | nil => intro ofs i acc _; simp [loadCellsFrom, go_sem]
  | cons v vs ih =>
    intro ofs i acc h
    have h0 := h 0 v rfl
    simp only [List.length_cons, loadCellsFrom, add_at, Sem.run_bind, load, Sem.run]
    simp only [Nat.add_zero] at h0
    simp only [h0, Result.andThen]
    rw [ih (fun j v' hj => by have := h (j + 1) v' (by simpa using hj); rwa [show ofs + (i + 1) + j = ofs + i + (j + 1) from by omega])]
    simp

theorem r_loada {r ofs : Nat} (vs : List Value) {m : Nat} (ho : o.op = .load t x) (hx : ev e x = .pointer (some ⟨r, ofs, none⟩)) (ht : ∀ w, (isAgg t).run P w = .ok true w) (hz : ∀ w, (sizeOf t).run P w = .ok m w)
    (hm : vs.length = m) (hc : ∀ j v, vs[j]? = some v → w.cell? ⟨r, ofs + j, none⟩ = some v) : (execOp (ev e) o).run P w = .ok (.value (.agg vs.toArray)) w := by
  subst hm
  have := run_cells (P := P) (w := w) (r := r) vs (ofs := ofs) (i := 0) (acc := #[]) (by simpa using hc)
  simp [execOp, ho, hx, Instr.loadAt, Instr.sureAddr, loadVar, ht, hz, loadCells, this, Sem.run_bind, Result.andThen, go_sem]

theorem r_lens {a : Option Addr} {n c : Nat} {ts : Array TypeId} {E : TypeId} (ho : o.op = .call ⟨.builtin .len, #[x], ts⟩) (h0 : ts[0]? = some t) (ht : P.underlying t = some (.slice E)) (hx : ev e x = .slice a n c) :
    (execOp (ev e) o).run P w = .ok (.value (.int .i64 n)) w := by
  simp [execOp, ho, resolve, invoke, builtin, Builtin.len_, h0, underlying, ht, hx, goInt, Sem.run_bind, Result.andThen, go_sem]
theorem r_lent {s : ByteArray} {ts : Array TypeId} (ho : o.op = .call ⟨.builtin .len, #[x], ts⟩) (h0 : ts[0]? = some t) (ht : P.underlying t = some .string) (hx : ev e x = .string s) :
    (execOp (ev e) o).run P w = .ok (.value (.int .i64 s.size)) w := by
  simp [execOp, ho, resolve, invoke, builtin, Builtin.len_, h0, underlying, ht, hx, goInt, Sem.run_bind, Result.andThen, go_sem]
theorem r_lenm {r : Nat} {es : Array MapEntry} {ck : Nat} {ts : Array TypeId} {K E : TypeId} (ho : o.op = .call ⟨.builtin .len, #[x], ts⟩) (h0 : ts[0]? = some t) (ht : P.underlying t = some (.map K E)) (hx : ev e x = .map (some r)) (hm : w.heap[r]? = some (.map es ck)) :
    (execOp (ev e) o).run P w = .ok (.value (.int .i64 es.size)) w := by
  simp [execOp, ho, resolve, invoke, builtin, Builtin.len_, h0, underlying, ht, hx, goInt, getObj, Sem.run, hm, Sem.run_bind, Result.andThen, go_sem]
theorem r_cap {a : Option Addr} {n c : Nat} {ts : Array TypeId} {E : TypeId} (ho : o.op = .call ⟨.builtin .cap, #[x], ts⟩) (h0 : ts[0]? = some t) (ht : P.underlying t = some (.slice E)) (hx : ev e x = .slice a n c) :
    (execOp (ev e) o).run P w = .ok (.value (.int .i64 c)) w := by
  simp [execOp, ho, resolve, invoke, builtin, Builtin.cap_, h0, underlying, ht, hx, goInt, Sem.run_bind, Result.andThen, go_sem]
end
end Go.Sl
/- General words for single operations that make or write memory. No program. -/
namespace Go.Sl
open Go
section
variable {P : Program} {o : Oper} {e : Env} {w : World} {x y : Operand} {t T : TypeId} {K : Value → World → Prop} {L : List HP}

theorem d_val {v : Value} {w' : World} (hr : (execOp (ev e) o).run P w = .ok (.value v) w') (h : K v w') : Does P o e w K := by
  refine ⟨?_⟩; unfold DoesB; rw [hr]; exact h
theorem d_skip {w' : World} (hr : (execOp (ev e) o).run P w = .ok .skip w') (h : K undef w') : Does P o e w K := by
  refine ⟨?_⟩; unfold DoesB; rw [hr]; exact h
theorem d_enter {w' : World} {f : FuncId} {args : Array Value} (hr : (execOp (ev e) o).run P w = .ok (.enter f args) w') (h : Calls P f args w' (retd K)) : Does P o e w K := by
  refine ⟨?_⟩; unfold DoesB; rw [hr]; exact h

/-! calls -/
theorem d_call {f : FuncId} {xs : Array Operand} {ts : Array TypeId} {args : List Value} (ho : o.op = .call ⟨.value (.func f), xs, ts⟩) (hx : xs.toList.map (ev e) = args)
    (hf : ∀ args w, (callFunc f args).run P w = .ok (.enter f args) w) (h : Calls P f args.toArray w (retd K)) : Does P o e w K := by
  have hx : xs.map (ev e) = args.toArray := Array.ext' (by rw [Array.toList_map, hx])
  refine d_enter (w' := w) (f := f) (args := args.toArray) ?_ h
  simp [execOp, ho, resolve, ev, Deferred.ofValue, invoke, hf, hx, go_sem]
theorem d_callv {f : FuncId} {y : Operand} {xs : Array Operand} {ts : Array TypeId} {fs cs : Array Value} {args : List Value} (ho : o.op = .call ⟨.value y, xs, ts⟩) (hy : ev e y = .func (.func f) fs cs)
    (hx : fs.toList ++ xs.toList.map (ev e) ++ cs.toList = args)
    (hf : ∀ args w, (callFunc f args).run P w = .ok (.enter f args) w) (h : Calls P f args.toArray w (retd K)) : Does P o e w K := by
  have hx : fs ++ xs.map (ev e) ++ cs = args.toArray := Array.ext' (by rw [Array.toList_append, Array.toList_append, Array.toList_map, hx])
  refine d_enter (w' := w) (f := f) (args := args.toArray) ?_ h
  simp only [Array.append_assoc] at hx
  simp [execOp, ho, resolve, hy, Deferred.ofValue, invoke, hf, hx, go_sem]

theorem run_underlying {d : TypeDesc} (ht : P.underlying t = some d) : (underlying t).run P w = .ok d w := by simp [underlying, ht, go_sem]

/-- the value of one cell -/
def one : Value → Bool
  | .agg _ => false
  | .tuple _ => false
  | _ => true

/-! new blocks -/
theorem push_same {w : World} (o : Obj) : ∀ b, b < w.heap.size → ({ w with heap := w.heap.push o } : World).heap[b]? = w.heap[b]? := by
  intro b hb
  have : b ≠ w.heap.size := by omega
  simp [Array.getElem?_push, this]

theorem d_box {v : Value} {c : Array Value} (ho : o.op = .box T x) (hx : ev e x = v) (hc : v.cells = c) (hs : Sat w L)
    (h : ∀ r w', Sat w' (obj r (.cells c T) :: L) → K (.pointer (some ⟨r, 0, none⟩)) w') : Does P o e w K := by
  subst hc
  refine d_val (w' := { w with heap := w.heap.push (.cells v.cells T) }) (v := .pointer (some ⟨w.heap.size, 0, none⟩)) ?_ (h _ _ (hs.new _))
  simp [execOp, ho, hx, Instr.box, newVar, newRow, newObj, Sem.run, Result.andThen, go_sem]
theorem d_alloc {v : Value} {c : Array Value} (ho : o.op = .alloc T) (hz : ∀ w, (zeroValue T).run P w = .ok v w) (hc : v.cells = c) (hs : Sat w L)
    (h : ∀ r w', Sat w' (obj r (.cells c T) :: L) → K (.pointer (some ⟨r, 0, none⟩)) w') : Does P o e w K := by
  subst hc
  refine d_val (w' := { w with heap := w.heap.push (.cells v.cells T) }) (v := .pointer (some ⟨w.heap.size, 0, none⟩)) ?_ (h _ _ (hs.new _))
  simp [execOp, ho, hz, Instr.alloc, newVar, newRow, newObj, Sem.run, Sem.run_bind, Result.andThen, go_sem]
theorem d_map (ho : o.op = .makeMap t none) (hs : Sat w L)
    (h : ∀ r w', Sat w' (obj r (.map #[] 0) :: L) → K (.map (some r)) w') : Does P o e w K := by
  refine d_val (w' := { w with heap := w.heap.push (.map #[] 0) }) (v := .map (some w.heap.size)) ?_ (h _ _ (hs.new _))
  simp [execOp, ho, Instr.makeMap, newObj, Sem.run, Result.andThen, go_sem]

/-! writes -/
def writeAt (c : Array Value) (i : Nat) : List Value → Array Value
  | [] => c
  | v :: vs => writeAt (c.setIfInBounds i v) (i + 1) vs

def fillW (place : Nat → Option (Nat × Nat)) (cells : Array Value) : List (Nat × Value) → Option (Array Value)
  | [] => some cells
  | (i, v) :: rest => match place i with
    | none => none
    | some (off, size) => bif Nat.beq v.cells.toList.length size && Nat.ble (off + size) cells.size then fillW place (writeAt cells off v.cells.toList) rest else none
theorem zip_write (vs : List Value) : ∀ (cells : Array Value) (off k : Nat), (vs.zipIdx k).foldl (fun cs p => cs.setIfInBounds (off + p.2) p.1) cells = writeAt cells (off + k) vs := by
  induction vs with
  | nil => intro cells off k; rfl
  | cons v vs ih => intro cells off k; simp only [List.zipIdx_cons, List.foldl_cons, writeAt]; rw [ih]; rfl
theorem fill_eq {place : Nat → Option (Nat × Nat)} : ∀ (l : List (Nat × Value)) {cells c : Array Value}, fillW place cells l = some c → Instr.fill place cells l = some c := by
  intro l
  induction l with
  | nil => intro cells c h; exact h
  | cons p l ih =>
    intro cells c h
    obtain ⟨i, v⟩ := p
    simp only [fillW] at h
    simp only [Instr.fill]
    split at h
    · cases h
    · rename_i off size hp
      simp only [hp]
      cases hb : (Nat.beq v.cells.toList.length size && Nat.ble (off + size) cells.size) with
      | false => rw [hb] at h; cases h
      | true =>
        simp only [hb, cond_true] at h
        simp only [Bool.and_eq_true] at hb
        have h1 : v.cells.size = size := by have := Nat.eq_of_beq_eq_true hb.1; simpa using this
        have h2 := Nat.le_of_ble_eq_true hb.2
        have h3 : ¬ ((v.cells.size ≠ size || decide (off + v.cells.size > cells.size)) = true) := by
          simp only [h1, ne_eq, not_true_eq_false, decide_false, Bool.false_or, decide_eq_true_eq]; omega
        rw [if_neg h3]
        refine ih ?_
        rw [← h]
        congr 1
        rw [← Array.foldl_toList, Array.toList_zipIdx]
        exact zip_write _ _ _ 0

def partsOf (e : Env) (ps : Array (Nat × Operand)) : List (Nat × Value) := ps.toList.map fun p => (p.1, ev e p.2)

theorem r_build {fs : Array Field} {ps : Array (Nat × Operand)} {z : Value} {zc c : Array Value} {pl : Array (Nat × Nat)} (ho : o.op = .build t ps) (ht : P.underlying t = some (.struct fs))
    (hz : ∀ w, (zeroValue t).run P w = .ok z w) (hzc : z.cells = zc) (hpl : ∀ w, (fs.mapM fun f => (do pure (f.offset, ← sizeOf f.type) : Sem (Nat × Nat))).run P w = .ok pl w)
    (hf : fillW (fun i => pl[i]?) zc (partsOf e ps) = some c) : (execOp (ev e) o).run P w = .ok (.value (.agg c)) w := by
  subst hzc
  have hf' : Instr.fill (fun i => pl[i]?) z.cells (ps.map fun p => (p.1, ev e p.2)).toList = some c := by rw [Array.toList_map]; exact fill_eq _ hf
  have hpl' := hpl w
  simp only [execOp, ho, Instr.build, Sem.run_bind, hz, Result.andThen, run_underlying ht]
  generalize (fs.mapM fun f => (do pure (f.offset, ← sizeOf f.type) : Sem (Nat × Nat))) = q at hpl' ⊢
  simp only [hpl', hf']
  simp [go_sem]

theorem d_buildSlice {E : TypeId} {ps : Array (Nat × Operand)} {z : Value} {zc c : Array Value} {n m : Nat} (ho : o.op = .buildSlice t n ps) (ht : P.underlying t = some (.slice E))
    (hm : ∀ w, (sizeOf E).run P w = .ok m w) (hz : ∀ w, (zeroValue E).run P w = .ok z w) (hzc : z.cells = zc) (hb : Nat.ble (n * m) (2 ^ 24) = true) (h0 : Nat.beq (n * m) 0 = false)
    (hf : fillW (fun i => some (i * m, m)) ((List.range (n * m)).map (fun i => zc.toList.getD (i % zc.toList.length) default)).toArray (partsOf e ps) = some c) (hs : Sat w L)
    (h : ∀ r w', Sat w' (obj r (.cells c E) :: L) → K (.slice (some ⟨r, 0, none⟩) n n) w') : Does P o e w K := by
  subst hzc
  have hb' : ¬ (n * m > 2 ^ 24) := by have := Nat.le_of_ble_eq_true hb; omega
  have h0' : ¬ (n * m = 0) := by intro h; simp [h] at h0
  have hz0 : ((List.range (n * m)).map (fun i => z.cells.toList.getD (i % z.cells.toList.length) default)).toArray = (Array.range (n * m)).map (z.cells[· % z.cells.size]!) := by
    apply Array.ext'
    simp only [Array.toList_map, Array.toList_range, List.getD_eq_getElem?_getD, getElem!_def, Array.length_toList, Array.getElem?_toList]
    apply List.map_congr_left
    intro i _
    cases z.cells[i % z.cells.size]? <;> rfl
  have hf' : Instr.fill (fun i => some (i * m, m)) ((Array.range (n * m)).map (z.cells[· % z.cells.size]!)) (ps.map fun p => (p.1, ev e p.2)).toList = some c := by
    rw [Array.toList_map, ← hz0]; exact fill_eq _ hf
  refine d_val (w' := { w with heap := w.heap.push (.cells c E) }) (v := .slice (some ⟨w.heap.size, 0, none⟩) n n) ?_ (h _ _ (hs.new _))
  simp only [execOp, ho, Instr.buildSlice, Sem.run_bind, hz, hm, Result.andThen, run_underlying ht, if_neg hb', if_neg h0']
  have hp : ∀ (a : Array Value) (w : World), Sem.run P (pure a) w = .ok a w := fun _ _ => rfl
  simp only [hp, hf']
  simp [newRow, newObj, Sem.run, Result.andThen, go_sem]

theorem writeAt_size (vs : List Value) : ∀ (c : Array Value) (i : Nat), (writeAt c i vs).size = c.size := by
  induction vs with
  | nil => intro c i; rfl
  | cons v vs ih => intro c i; simp [writeAt, ih]
theorem writeAt_get (vs : List Value) : ∀ (c : Array Value) (i j : Nat), (writeAt c i vs)[j]? = if i ≤ j ∧ j < i + vs.length ∧ j < c.size then vs[j - i]? else c[j]? := by
  induction vs with
  | nil => intro c i j; rw [if_neg (by simp only [List.length_nil]; omega)]; rfl
  | cons v vs ih =>
    intro c i j
    simp only [writeAt, ih, Array.size_setIfInBounds, List.length_cons]
    by_cases h1 : i + 1 ≤ j ∧ j < i + 1 + vs.length ∧ j < c.size
    · rw [if_pos h1, if_pos (by omega), show j - i = (j - (i + 1)) + 1 from by omega]; simp
    · rw [if_neg h1]
      by_cases h2 : i = j
      · subst h2
        by_cases h3 : i < c.size
        · rw [if_pos (by omega)]; simp [h3]
        · rw [if_neg (by omega), Array.getElem?_eq_none (by simp; omega), Array.getElem?_eq_none (by omega)]
      · rw [if_neg (by omega), Array.getElem?_setIfInBounds_ne h2]

/-- cells of one block in the world -/
def World.row (w : World) (r : Nat) (c : Array Value) (U : TypeId) (fz : Nat × Nat) : World := { w with heap := w.heap.setIfInBounds r (.cells c U fz) }

theorem run_storeCells {r : Nat} {U : TypeId} (vs : List Value) : ∀ {w : World} {c : Array Value} {ofs i : Nat} (_ : w.heap[r]? = some (.cells c U (0, 0))) (_ : ofs + i + vs.length ≤ c.size)
    (_ : ∀ v ∈ vs, one v = true), ∃ w', (storeCells ⟨r, ofs, none⟩ vs i).run P w = .ok () w' ∧ w'.heap[r]? = some (.cells (writeAt c (ofs + i) vs) U (0, 0)) ∧
      (∀ b, b ≠ r → w'.heap[b]? = w.heap[b]?) ∧ w'.os = w.os ∧ w'.output = w.output ∧ w'.heap.size = w.heap.size := by
  induction vs with
  | nil => intro w c ofs i h _ _; exact ⟨w, by simp [storeCells, go_sem], h, fun _ _ => rfl, rfl, rfl, rfl⟩
  | cons v vs ih =>
    intro w c ofs i h hl hv
    simp only [List.length_cons] at hl
    have hv0 := hv v (by simp)
    have hlt : r < w.heap.size := by
      rcases Nat.lt_or_ge r w.heap.size with h' | h'
      · exact h'
      · rw [Array.getElem?_eq_none h'] at h; cases h
    have hc : w.cell? ⟨r, ofs + i, none⟩ = some (c[ofs + i]'(by omega)) := by simp [World.cell?, h]
    have hfz : w.frozen? ⟨r, ofs + i, none⟩ = false := by simp [World.frozen?, h]
    have hw : (w.setCell ⟨r, ofs + i, none⟩ v).heap[r]? = some (.cells (c.setIfInBounds (ofs + i) v) U (0, 0)) := by
      simp only [World.setCell, Array.getElem?_modify, if_true, h]
      simp
    obtain ⟨w', h1, h2, h3, h4, h5, h6⟩ := ih (w := w.setCell ⟨r, ofs + i, none⟩ v) (ofs := ofs) (i := i + 1) hw (by simp; omega) (fun v hv' => hv v (by simp [hv']))
    refine ⟨w', ?_, by rw [h2]; rfl, fun b hb => ?_, by rw [h4]; rfl, by rw [h5]; rfl, by rw [h6]; simp [World.setCell]⟩
    · simp only [storeCells, add_at, Sem.run_bind, store]
      cases v <;> first | (simp [one] at hv0; done) | (simp only [Sem.run, hc, hfz, Bool.false_eq_true, if_false, Result.andThen]; exact h1)
    · rw [h3 b hb]; simp [World.setCell, Array.getElem?_modify, Ne.symm hb]

theorem d_store {v : Value} {vs : List Value} {r i k m : Nat} {c c' : Array Value} {U : TypeId} (ho : o.op = .store T x y) (hx : ev e x = .pointer (some ⟨r, i, none⟩)) (hy : ev e y = v)
    (hvs : v.cells = vs.toArray) (hm : ∀ w, (sizeOf T).run P w = .ok m w) (hl : vs.length = m) (hone : vs.all one = true) (hs : Sat w L) (hk : L[k]? = some (obj r (.cells c U (0, 0))))
    (hb : i + vs.length ≤ c.size) (hc : writeAt c i vs = c') (h : ∀ w', Sat w' (L.set k (obj r (.cells c' U (0, 0)))) → K undef w') : Does P o e w K := by
  subst hc; subst hl
  obtain ⟨w', h1, h2, h3, h4, h5, h6⟩ := run_storeCells (P := P) vs (ofs := i) (i := 0) (hs.obj k hk) (by omega) (fun v hv => List.all_eq_true.1 hone v hv)
  refine d_skip (w' := w') ?_ (h w' (hs.write k hk h2 h3 h4 h5 h6))
  have hsz : v.cells.size = vs.length := by rw [hvs]; simp
  have hl : v.cells.toList = vs := by rw [hvs]
  simp only [execOp, ho, hx, hy, Instr.storeAt, Instr.sureAddr, storeVar, Sem.run_bind, hm, Result.andThen, hsz, hl, ne_eq, not_true_eq_false, if_false]
  simp [h1, go_sem]

def writeL (c : List Value) (i : Nat) : List Value → List Value
  | [] => c
  | v :: vs => writeL (c.set i v) (i + 1) vs
theorem writeL_eq (vs : List Value) : ∀ (c : List Value) (i : Nat), writeAt c.toArray i vs = (writeL c i vs).toArray := by
  induction vs with
  | nil => intro c i; rfl
  | cons v vs ih => intro c i; simp only [writeAt, writeL, List.setIfInBounds_toArray, ih]
theorem d_st {v : Value} {vs : List Value} {r i k m : Nat} {c c' : List Value} {U : TypeId} (ho : o.op = .store T x y) (hx : ev e x = .pointer (some ⟨r, i, none⟩)) (hy : ev e y = v)
    (hvs : v.cells = vs.toArray) (hm : ∀ w, (sizeOf T).run P w = .ok m w) (hl : vs.length = m) (hone : vs.all one = true) (hs : Sat w L) (hk : L[k]? = some (obj r (.cells c.toArray U (0, 0))))
    (hb : Nat.ble (i + vs.length) c.length = true) (hc : writeL c i vs = c') (h : ∀ w', Sat w' (L.set k (obj r (.cells c'.toArray U (0, 0)))) → K undef w') : Does P o e w K :=
  d_store ho hx hy hvs hm hl hone hs hk (by have := Nat.le_of_ble_eq_true hb; simpa using this) (by rw [writeL_eq, hc]) h
end
end Go.Sl
/- General words: what a written script of a walk uses besides. No program. -/
namespace Go.Sl
open Go
section
variable {P : Program} {n : Nat} {N R : Env → World → Prop} {E : Nat → Env → World → Prop} {e : Env} {w : World} {o : Oper} {K : Value → World → Prop}

theorem bsplit {p : Prop} (b : Bool) (ht : b = true → p) (hf : b = false → p) : p := by cases b; exact hf rfl; exact ht rfl

theorem wanted_of {ops : Array Oper} {j d : Nat} {want b : Bool} (hg : o.guard = some (j, want)) (hj : (ops[j]?).bind (·.dst) = some d) (hd : e d = .bool b) (hb : b = want) : wanted ops e o = true := by
  simp [wanted, hg, hj, hd, hb]
theorem wanted_not {ops : Array Oper} {j d : Nat} {want b : Bool} (hg : o.guard = some (j, want)) (hj : (ops[j]?).bind (·.dst) = some d) (hd : e d = .bool b) (hb : b = !want) : wanted ops e o = false := by
  simp [wanted, hg, hj, hd, hb]

theorem cw_yes' {c : Operand} {x y : Code} {b : Bool} (hc : ev e c = .bool b) (hb : b = true) (h : CWp P n x N R E e w) : CWp P n (.cond c x y) N R E e w := cw_yes (by rw [hc, hb]) h
theorem cw_no' {c : Operand} {x y : Code} {b : Bool} (hc : ev e c = .bool b) (hb : b = false) (h : CWp P n y N R E e w) : CWp P n (.cond c x y) N R E e w := cw_no (by rw [hc, hb]) h

theorem put_self {d : Nat} {v : Value} (h : e d = v) : e = put e d v := by
  funext t
  by_cases ht : t = d
  · subst ht; rw [put_same, h]
  · rw [put_other _ _ ht]
theorem cw_put {c : Code} {d : Nat} {v : Value} (h : e d = v) (hc : CWp P n c N R E (put e d v) w) : CWp P n c N R E e w := by rw [put_self h]; exact hc

theorem cw_draw {id : Nat} {l : List Oper} {L : List HP} (S : World → Prop) (hd : Nat → Bool) (hm : P.follows .mixedOrders = true) (hs : Sat w L)
    (h : ∀ w, Sat w L → Any P n l.toArray S hd l.length (Array.replicate l.length false) N e w) : CWp P n (.region id l.toArray true) N R E e w :=
  cw_draw0 S hd hm (h _ (hs.drawn _))
theorem any_head {ops : Array Oper} {S : World → Prop} {hd : Nat → Bool} {k : Nat} {lst : Array Bool} (i : Nat) {o : Oper} (hi : ops[i]? = some o) (hr : Region.ready .any ops lst = [i]) (hd' : inO n o.dst = true)
    (hw : wanted ops e o = true) (_ : hd i = true) (h : Does P o e w (fun v w' => S w' ∧ Any P n ops S hd k (lst.setIfInBounds i true) N (putO e o.dst v) w')) : Any P n ops S hd (k + 1) lst N e w :=
  any_does i hi hr hd' hw (by
    refine ⟨?_⟩
    have h := h.out
    unfold DoesB at h ⊢
    split at h <;> first | exact h.elim | skip
    · exact ⟨fun _ => h.1, h.2⟩
    · exact ⟨fun _ => h.1, h.2⟩
    · exact h.mono fun e w q => by cases e <;> first | exact ⟨fun _ => q.1, q.2⟩ | exact q.elim)
theorem any_tail {ops : Array Oper} {S : World → Prop} {hd : Nat → Bool} {k : Nat} {lst : Array Bool} (i : Nat) {o : Oper} (hi : ops[i]? = some o) (hr : Region.ready .any ops lst = [i]) (hd' : inO n o.dst = true)
    (hw : wanted ops e o = true) (hh : hd i = false) (h : Does P o e w (fun v w' => Any P n ops S hd k (lst.setIfInBounds i true) N (putO e o.dst v) w')) : Any P n ops S hd (k + 1) lst N e w :=
  any_does i hi hr hd' hw (by
    have hb : hd i = true → False := fun hx => by rw [hh] at hx; cases hx
    refine ⟨?_⟩
    have h := h.out
    unfold DoesB at h ⊢
    split at h <;> first | exact h.elim | skip
    · exact ⟨fun hx => (hb hx).elim, h⟩
    · exact ⟨fun hx => (hb hx).elim, h⟩
    · exact h.mono fun e w q => by cases e <;> first | exact ⟨fun hx => (hb hx).elim, q⟩ | exact q.elim)
section
variable {ops : Array Oper} {d : Nat} {op : Op} {ty : TypeId} {pos : String} {aft : Array Edge} {g : Option (Nat × Bool)} {l : List Oper} {S : World → Prop} {hd : Nat → Bool} {k : Nat} {lst : Array Bool}
/-- one operation with a temporary -/
theorem o_s (hd : Nat.blt d n = true) (hw : wanted ops e ⟨some d, op, ty, pos, aft, g⟩ = true) (h : Does P ⟨some d, op, ty, pos, aft, g⟩ e w (fun v w' => Ops P n ops l N (put e d v) w')) :
    Ops P n ops (⟨some d, op, ty, pos, aft, g⟩ :: l) N e w := o_does hd hw h
theorem o_sn (hd : Nat.blt d n = true) (hw : wanted ops e ⟨some d, op, ty, pos, aft, g⟩ = false) (h : Ops P n ops l N (put e d undef) w) :
    Ops P n ops (⟨some d, op, ty, pos, aft, g⟩ :: l) N e w := o_no hd hw h
/-- one without -/
theorem o_u (hd : true = true) (hw : wanted ops e ⟨none, op, ty, pos, aft, g⟩ = true) (h : Does P ⟨none, op, ty, pos, aft, g⟩ e w (fun _ w' => Ops P n ops l N e w')) :
    Ops P n ops (⟨none, op, ty, pos, aft, g⟩ :: l) N e w := o_does hd hw h
theorem o_un (hd : true = true) (hw : wanted ops e ⟨none, op, ty, pos, aft, g⟩ = false) (h : Ops P n ops l N e w) :
    Ops P n ops (⟨none, op, ty, pos, aft, g⟩ :: l) N e w := o_no hd hw h
theorem take_s (i : Nat) {v : Value} (hi : ops[i]? = some ⟨some d, op, ty, pos, aft, g⟩) (hb : mayFirst ops hd lst i = true) (hd' : Nat.blt d n = true)
    (hy : wanted ops e ⟨some d, op, ty, pos, aft, g⟩ = true ∧ (∀ w, S w → (execOp (ev e) ⟨some d, op, ty, pos, aft, g⟩).run P w = .ok (.value v) w) ∨ wanted ops e ⟨some d, op, ty, pos, aft, g⟩ = false ∧ v = undef) (hS : S w)
    (h : Any P n ops S hd k (lst.setIfInBounds i true) N (put e d v) w) : Any P n ops S hd (k + 1) lst N e w := any_take i hi hb hd' hy hS h
theorem head_s (i : Nat) (hi : ops[i]? = some ⟨some d, op, ty, pos, aft, g⟩) (hr : Region.ready .any ops lst = [i]) (hd' : Nat.blt d n = true)
    (hw : wanted ops e ⟨some d, op, ty, pos, aft, g⟩ = true) (hh : hd i = true) (h : Does P ⟨some d, op, ty, pos, aft, g⟩ e w (fun v w' => S w' ∧ Any P n ops S hd k (lst.setIfInBounds i true) N (put e d v) w')) : Any P n ops S hd (k + 1) lst N e w :=
  any_head i hi hr hd' hw hh h
theorem head_u (i : Nat) (hi : ops[i]? = some ⟨none, op, ty, pos, aft, g⟩) (hr : Region.ready .any ops lst = [i]) (hd' : true = true)
    (hw : wanted ops e ⟨none, op, ty, pos, aft, g⟩ = true) (hh : hd i = true) (h : Does P ⟨none, op, ty, pos, aft, g⟩ e w (fun _ w' => S w' ∧ Any P n ops S hd k (lst.setIfInBounds i true) N e w')) : Any P n ops S hd (k + 1) lst N e w :=
  any_head i hi hr hd' hw hh h
theorem tail_s (i : Nat) (hi : ops[i]? = some ⟨some d, op, ty, pos, aft, g⟩) (hr : Region.ready .any ops lst = [i]) (hd' : Nat.blt d n = true)
    (hw : wanted ops e ⟨some d, op, ty, pos, aft, g⟩ = true) (hh : hd i = false) (h : Does P ⟨some d, op, ty, pos, aft, g⟩ e w (fun v w' => Any P n ops S hd k (lst.setIfInBounds i true) N (put e d v) w')) : Any P n ops S hd (k + 1) lst N e w :=
  any_tail i hi hr hd' hw hh h
theorem tail_u (i : Nat) (hi : ops[i]? = some ⟨none, op, ty, pos, aft, g⟩) (hr : Region.ready .any ops lst = [i]) (hd' : true = true)
    (hw : wanted ops e ⟨none, op, ty, pos, aft, g⟩ = true) (hh : hd i = false) (h : Does P ⟨none, op, ty, pos, aft, g⟩ e w (fun _ w' => Any P n ops S hd k (lst.setIfInBounds i true) N e w')) : Any P n ops S hd (k + 1) lst N e w :=
  any_tail i hi hr hd' hw hh h
theorem no_s (i : Nat) (hi : ops[i]? = some ⟨some d, op, ty, pos, aft, g⟩) (hr : Region.ready .any ops lst = [i]) (hd' : Nat.blt d n = true) (hw : wanted ops e ⟨some d, op, ty, pos, aft, g⟩ = false)
    (hS : hd i = true → S w) (h : Any P n ops S hd k (lst.setIfInBounds i true) N (put e d undef) w) : Any P n ops S hd (k + 1) lst N e w := any_no i hi hr hd' hw hS h
theorem no_u (i : Nat) (hi : ops[i]? = some ⟨none, op, ty, pos, aft, g⟩) (hr : Region.ready .any ops lst = [i]) (hd' : true = true) (hw : wanted ops e ⟨none, op, ty, pos, aft, g⟩ = false)
    (hS : hd i = true → S w) (h : Any P n ops S hd k (lst.setIfInBounds i true) N e w) : Any P n ops S hd (k + 1) lst N e w := any_no i hi hr hd' hw hS h
end
theorem row_lit {r : Nat} {c : Array Value} {T : TypeId} {fz : Nat × Nat} {ofs : Nat} {vs : List Value} (h : w.heap[r]? = some (.cells c T fz)) (hv : (c.toList.drop ofs).take vs.length = vs) :
    ∀ j v, vs[j]? = some v → w.cell? ⟨r, ofs + j, none⟩ = some v := by
  intro j v hj
  refine cell_of h ?_
  have hlt : j < vs.length := by
    rcases Nat.lt_or_ge j vs.length with h' | h'
    · exact h'
    · rw [List.getElem?_eq_none h'] at hj; cases hj
  rw [← hv, List.getElem?_take, if_pos hlt, List.getElem?_drop] at hj
  rw [← hj]; simp
theorem cw_cut {x y : Code} (M : Env → World → Prop) (hx : CWp P n x M R E e w) (hy : ∀ e w, M e w → CWp P n y N R E e w) : CWp P n (.seq x y) N R E e w :=
  cw_seq (hx.mono hy (fun _ _ q => q) (fun _ _ _ q => q))

/-- a call by the callee's contract -/
theorem d_use {f : FuncId} {xs : Array Operand} {ts : Array TypeId} {args : List Value} {Q : Value → World → Prop} (hc : Calls P f args.toArray w (retd Q)) (ho : o.op = .call ⟨.value (.func f), xs, ts⟩)
    (hx : xs.toList.map (ev e) = args) (hf : ∀ args w, (callFunc f args).run P w = .ok (.enter f args) w) (h : ∀ v w', Q v w' → K v w') : Does P o e w K :=
  d_call ho hx hf (hc.mono fun e w' q => by cases e with
    | returned v => exact h v w' q
    | panicked c => exact q
    | outgrown => exact q)
theorem d_usev {f : FuncId} {y : Operand} {xs : Array Operand} {ts : Array TypeId} {fs cs : Array Value} {args : List Value} {Q : Value → World → Prop} (hc : Calls P f args.toArray w (retd Q)) (ho : o.op = .call ⟨.value y, xs, ts⟩)
    (hy : ev e y = .func (.func f) fs cs) (hx : fs.toList ++ xs.toList.map (ev e) ++ cs.toList = args) (hf : ∀ args w, (callFunc f args).run P w = .ok (.enter f args) w) (h : ∀ v w', Q v w' → K v w') : Does P o e w K :=
  d_callv ho hy hx hf (hc.mono fun e w' q => by cases e with
    | returned v => exact h v w' q
    | panicked c => exact q
    | outgrown => exact q)
/-- what a result variable holds -/
def rvE (r : ResultVar) (tmps : Array Value) : Sem Value :=
  match r with
  | .tmp t => pure (tmps.getD t undef)
  | .cell a t => (do loadVar t (← asAddr (tmps.getD a undef)) : Sem Value)
theorem results_rv (fn : Func) (tmps : Array Value) : results fn tmps = (do
    let vs ← fn.results.mapM fun r => rvE r tmps
    pure (if h : vs.size = 1 then vs[0] else .tuple vs)) := by
  unfold results
  congr 1
def RV (P : Program) (r : ResultVar) (e : Env) (w : World) (v : Value) : Prop := ∀ tmps : Array Value, (∀ t, tmps.getD t undef = e t) → (rvE r tmps).run P w = .ok v w
theorem rv_t {t : Nat} {v : Value} (h : e t = v) : RV P (.tmp t) e w v := fun tmps ht => by simp only [rvE, ht, h]; rfl
theorem rv_c {a : Nat} {T : TypeId} {ad : Addr} {v : Value} (h : e a = .pointer (some ad)) (hT : ∀ w, (isAgg T).run P w = .ok false w) (hc : w.cell? ad = some v) : RV P (.cell a T) e w v := fun tmps ht => by
  have hp : ∀ {α : Type} (x : α) (w : World), Sem.run P (pure x) w = .ok x w := fun _ _ => rfl
  simp only [rvE, ht, h, asAddr, Sem.run_bind, hp, Result.andThen, loadVar, hT, Bool.false_eq_true, if_false, load, Sem.run, hc]
theorem rv_a {a : Nat} {T : TypeId} {r ofs m : Nat} (vs : List Value) (h : e a = .pointer (some ⟨r, ofs, none⟩)) (hT : ∀ w, (isAgg T).run P w = .ok true w) (hz : ∀ w, (sizeOf T).run P w = .ok m w) (hm : vs.length = m)
    (hc : ∀ j v, vs[j]? = some v → w.cell? ⟨r, ofs + j, none⟩ = some v) : RV P (.cell a T) e w (.agg vs.toArray) := fun tmps ht => by
  have hp : ∀ {α : Type} (x : α) (w : World), Sem.run P (pure x) w = .ok x w := fun _ _ => rfl
  subst hm
  have := run_cells (P := P) (w := w) (r := r) vs (ofs := ofs) (i := 0) (acc := #[]) (by simpa using hc)
  simp only [rvE, ht, h, asAddr, Sem.run_bind, hp, Result.andThen, loadVar, hT, if_true, hz, loadCells, this]; simp
theorem hpure {α : Type} (x : α) (w : World) : Sem.run P (pure x) w = .ok x w := rfl
theorem map_bind {α β : Type} (g : α → β) (x : Sem α) : g <$> x = x >>= fun a => pure (g a) := rfl
section
variable {fn : Func} {Q : Value → World → Prop}
theorem retc1 {r1 : ResultVar} {v1 : Value} (h : fn.results = #[r1]) (h1 : RV P r1 e w v1) (q : Q v1 w) : retp P fn Q e w := fun a ha => ⟨v1, by
  have h1' := h1 a.tmps ha.get
  have hp : ∀ {α : Type} (x : α) (w : World), Sem.run P (pure x) w = .ok x w := fun _ _ => rfl
  simp only [results_rv, h, List.mapM_toArray, List.mapM_cons, List.mapM_nil, map_bind, Sem.run_bind, h1', Result.andThen, hp]
  rfl, q⟩
theorem retc2 {r1 r2 : ResultVar} {v1 v2 : Value} (h : fn.results = #[r1, r2]) (h1 : RV P r1 e w v1) (h2 : RV P r2 e w v2) (q : Q (.tuple #[v1, v2]) w) : retp P fn Q e w := fun a ha => ⟨_, by
  have h1' := h1 a.tmps ha.get
  have h2' := h2 a.tmps ha.get
  have hp : ∀ {α : Type} (x : α) (w : World), Sem.run P (pure x) w = .ok x w := fun _ _ => rfl
  simp only [results_rv, h, List.mapM_toArray, List.mapM_cons, List.mapM_nil, map_bind, Sem.run_bind, h1', h2', Result.andThen, hp]
  rfl, q⟩
theorem retc3 {r1 r2 r3 : ResultVar} {v1 v2 v3 : Value} (h : fn.results = #[r1, r2, r3]) (h1 : RV P r1 e w v1) (h2 : RV P r2 e w v2) (h3 : RV P r3 e w v3) (q : Q (.tuple #[v1, v2, v3]) w) : retp P fn Q e w := fun a ha => ⟨_, by
  have h1' := h1 a.tmps ha.get
  have h2' := h2 a.tmps ha.get
  have h3' := h3 a.tmps ha.get
  have hp : ∀ {α : Type} (x : α) (w : World), Sem.run P (pure x) w = .ok x w := fun _ _ => rfl
  simp only [results_rv, h, List.mapM_toArray, List.mapM_cons, List.mapM_nil, map_bind, Sem.run_bind, h1', h2', h3', Result.andThen, hp]
  rfl, q⟩
end
theorem wi64 {a : Int} (h : -9223372036854775808 ≤ a ∧ a ≤ 9223372036854775807) : IntKind.i64.wrap a = a := IntWalk.i64_in _ h
theorem wu64 {a : Int} (h : 0 ≤ a ∧ a ≤ 18446744073709551615) : IntKind.u64.wrap a = a := by simp [IntKind.wrap, IntKind.bits, IntKind.signed]; omega
theorem wu8 {a : Int} (h : 0 ≤ a ∧ a ≤ 255) : IntKind.u8.wrap a = a := IntWalk.u8_in _ h
end
end Go.Sl
