/- General words for running code of which all is known: the run. No program. -/
import Derived.Test.YtahhbplejfjmnaaGreatDoorED
import Derived.Test.YtahhbplejfjmnaaGreatDoorSB
import Derived.RangeFuncRecord
import Derived.LoopNIn
namespace Go.Ev
open Go Go.Sl
noncomputable section

inductive XO where
  | normal | ret | exit (i : Nat)
structure Out where
  x : XO
  ae : List (Nat × AV)
  ds : List Nat
  s : St
/-- of a function: its code, and which temporaries need not be kept from statement to statement -/
structure FI where
  fn : Func
  lose : Nat
/-- functions without a body -/
inductive Ext where
  | clone
structure Cx where
  X : Tr TI
  F : Tr FI
  E : Tr Ext
  /-- what is known of functions without looking into them -/
  con : Nat → List AV → St → Option (List (AV × St))
/-- what a frame is -/
structure Fr where
  n : Nat
  lose : Nat
  rnd : Bool

def bitOf (m t : Nat) : Bool := Nat.beq (Nat.mod (Nat.shiftRight m t) 2) 1
def trim (m : Nat) (l : List (Nat × AV)) : List (Nat × AV) :=
  List.rec (motive := fun _ => Nat → List (Nat × AV)) (fun _ => []) (fun p _ ih m => bif bitOf m p.1 then ih m else p :: ih (Nat.lor m (Nat.shiftLeft 1 p.1))) l m

def opA (X : Tr TI) (ae : List (Nat × AV)) (s : St) (op : Op) : Option (AV × St) :=
  match pureA X ae op with
  | some a => some (a, s)
  | none => match readA X ae s op with
    | some a => some (a, s)
    | none => match lookA X ae s.h op with
     | some a => some (a, s)
     | none => match read2A X ae s.h op with
     | some a => some (a, s)
     | none => match empA X ae op with
     | some a => some (a, s)
     | none => match isNilA X ae op with
     | some a => some (a, s)
     | none => match eqA X ae op with
     | some a => some (a, s)
     | none => match buildA X ae op with
      | some a => some (a, s)
      | none => match pure2A X ae op with
       | some a => some (a, s)
       | none => match allocA X ae s op with
        | some r => some r
        | none => match appA X ae s op with
          | some r => some r
          | none => match mapA X ae s op with
            | some r => some r
            | none => match makeA X ae s op with
           | some r => some r
           | none => appZA X ae s op

/-- a call of a function without a body -/
def extA (E : Tr Ext) (ae : List (Nat × AV)) (s : St) (op : Op) : Option (AV × St) :=
  match op with
  | .call ⟨.value (.func f), xs, _⟩ => match E.get f with
    | some .clone => match xs.toList with
      | [x] => match opnd ae x with
        | some (.iface t (.map i)) => match s.h.get i with
          | some (.map ck m) => some (.iface t (.map s.nx), ⟨s.h.put s.nx (some (.map ck m)), s.nx + 1, s.k⟩)
          | _ => none
        | _ => none
      | _ => none
    | none => none
  | _ => none
def opB (c : Cx) (ae : List (Nat × AV)) (s : St) (op : Op) : Option (AV × St) :=
  match opA c.X ae s op with
  | some r => some r
  | none => extA c.E ae s op

structure Evs where
  code : Fr → Code → List (Nat × AV) → List Nat → St → Option (List Out)
  call : Nat → List AV → St → Option (List (AV × St))

/-- all of many, or none -/
def many {α β : Type} (f : α → Option (List β)) (l : List α) : Option (List β) :=
  List.rec (motive := fun _ => Option (List β)) (some []) (fun a _ ih => match f a with
    | some r => match ih with
      | some q => some (r ++ q)
      | none => none
    | none => none) l

def wantA (ops : List Oper) (ae : List (Nat × AV)) (o : Oper) : Option Bool :=
  match o.guard with
  | none => some true
  | some (j, want) => match ops[j]? with
    | some oj => match oj.dst with
      | some d => match eget ae d with
        | some (.bool b) => some (b == want)
        | some (.tup []) => some false
        | _ => none
      | none => none
    | none => none

def callsA (p : Evs) (ae : List (Nat × AV)) (s : St) (c : Call) : Option (List (AV × St)) :=
  match c.callee with
  | .value y => match opnd ae y with
    | some (.func f xs ys) => match opnds ae c.args.toList with
      | some l => p.call f (xs ++ (l ++ ys)) s
      | none => none
    | some (.yield i) => match opnds ae c.args.toList with
      | some l => match s.h.get i with
        | some (.loop Q) => bif Nat.beq l.length Q.ps.length && Q.ps.all (Nat.blt · Q.n) then (match p.code ⟨Q.n, Q.lose, true⟩ Q.assign (List.foldl (fun ae q => q :: ae) Q.env (Q.ps.zip l)) [] ⟨s.h.put i none, s.nx, s.k⟩ with
          | some outs => many (fun o => match o.x, o.ds with
            | .normal, [] => (match p.code ⟨Q.n, Q.lose, true⟩ Q.body o.ae [] o.s with
              | some outs => many (fun o => match o.x, o.ds with
                | .normal, [] => some [(.bool true, ⟨o.s.h.put i (some (.loop Q)), o.s.nx, o.s.k⟩)]
                | _, _ => none) outs
              | none => none)
            | _, _ => none) outs
          | none => none) else none
        | _ => none
      | none => none
    | _ => none
  | _ => none

/-- operations with several outcomes -/
def manyA (p : Evs) (ae : List (Nat × AV)) (s : St) (op : Op) : Option (List (AV × St)) :=
  match op with
  | .call cl => callsA p ae s cl
  | op => nextA ae s op
def opsA (c : Cx) (p : Evs) (n : Nat) (all : List Oper) : List Oper → List (Nat × AV) → St → Option (List (List (Nat × AV) × St)) :=
  fun l => List.rec (motive := fun _ => List (Nat × AV) → St → Option (List (List (Nat × AV) × St))) (fun ae s => some [(ae, s)])
    (fun o _ ih ae s =>
      let fin (a : AV) (s : St) := match o.dst with
        | some d => bif Nat.blt d n then ih ((d, a) :: ae) s else none
        | none => ih ae s
      match wantA all ae o with
      | some true => match opB c ae s o.op with
        | some r => fin r.1 r.2
        | none => match manyA p ae s o.op with
          | some rs => match rs with
            | [] => none
            | [r] => fin r.1 r.2
            | rs => many (fun r => fin r.1 r.2) rs
          | none => none
      | some false => fin (.tup []) s
      | none => none) l
end
end Go.Ev
/- General words for running code of which all is known: what never changes never changes. No program. -/
namespace Go.Ev
open Go Go.Sl
section
variable {X : Tr TI} {ae : List (Nat × AV)} {s : St} {op : Op} {r : AV × St}

theorem kp_alloc (h : allocA X ae s op = some r) : r.2.k = s.k := by
  unfold allocA at h
  simp only [Bool.cond_eq_ite] at h
  repeat' (split at h)
  all_goals first | (cases h; rfl) | cases h
theorem kp_app (h : appA X ae s op = some r) : r.2.k = s.k := by
  unfold appA at h
  simp only [Bool.cond_eq_ite] at h
  repeat' (split at h)
  all_goals first | (cases h; rfl) | cases h
theorem kp_mapgo {t : TypeId} {x y z : Operand} (h : mapA.go X ae s t x y z = some r) : r.2.k = s.k := by
  unfold mapA.go at h
  simp only [Bool.cond_eq_ite] at h
  repeat' (split at h)
  all_goals first | (cases h; rfl) | cases h
theorem kp_map (h : mapA X ae s op = some r) : r.2.k = s.k := by
  unfold mapA at h
  simp only [Bool.cond_eq_ite] at h
  repeat' (split at h)
  all_goals first | exact kp_mapgo h | (cases h; rfl) | cases h
theorem kp_make (h : makeA X ae s op = some r) : r.2.k = s.k := by
  unfold makeA at h
  simp only [Bool.cond_eq_ite] at h
  repeat' (split at h)
  all_goals first | (cases h; rfl) | cases h
theorem kp_appZ (h : appZA X ae s op = some r) : r.2.k = s.k := by
  unfold appZA at h
  simp only [Bool.cond_eq_ite] at h
  repeat' (split at h)
  all_goals first | (cases h; rfl) | cases h
theorem kp_ext {E : Tr Ext} (h : extA E ae s op = some r) : r.2.k = s.k := by
  unfold extA at h
  repeat' (split at h)
  all_goals first | (cases h; rfl) | cases h
theorem kp_next {rs : List (AV × St)} (h : nextA ae s op = some rs) : ∀ r ∈ rs, r.2.k = s.k := by
  unfold nextA at h
  split at h
  · split at h
    · split at h
      · cases h; intro r hr; rw [List.mem_singleton.1 hr]
      · split at h
        · rename_i ck m _
          simp only [Bool.cond_eq_ite] at h
          split at h
          · cases h
          · cases h
            intro r hr
            rcases List.mem_append.1 hr with hr | hr
            · split at hr
              · rw [List.mem_singleton.1 hr]
              · cases hr
            · obtain ⟨p, _, rfl⟩ := List.mem_map.1 hr; rfl
        · cases h
      · cases h
    · cases h
  · cases h
theorem kp_opA (h : opA X ae s op = some r) : r.2.k = s.k := by
  unfold opA at h
  split at h
  · cases h; rfl
  split at h
  · cases h; rfl
  split at h
  · cases h; rfl
  split at h
  · cases h; rfl
  split at h
  · cases h; rfl
  split at h
  · cases h; rfl
  split at h
  · cases h; rfl
  split at h
  · cases h; rfl
  split at h
  · cases h; rfl
  split at h
  · rename_i r' hr; cases h; exact kp_alloc hr
  split at h
  · rename_i r' hr; cases h; exact kp_app hr
  split at h
  · rename_i r' hr; cases h; exact kp_map hr
  split at h
  · rename_i r' hr; cases h; exact kp_make hr
  · exact kp_appZ h
theorem kp_opB {c : Cx} (h : opB c ae s op = some r) : r.2.k = s.k := by
  unfold opB at h
  split at h
  · rename_i r' hr; cases h; exact kp_opA hr
  · exact kp_ext h
end
end Go.Ev
/- General words for running code of which all is known: a statement whose operations come in any order. No program. -/
namespace Go.Ev
open Go Go.Sl
noncomputable section

/-- all that must come ahead of each operation, as masks -/
def ancs : List Oper → List Nat → List Nat
  | [], _ => []
  | o :: l, done =>
    let a := o.after.toList.foldl (fun m ed => bif Region.binds .any ed then Nat.lor m (Nat.lor (Nat.shiftLeft 1 ed.on) (done.getD ed.on 0)) else m) 0
    a :: ancs l (done ++ [a])

def tmpsOf : List Operand → List Nat
  | [] => []
  | .tmp t :: l => t :: tmpsOf l
  | _ :: l => tmpsOf l
/-- which operation lays a temporary -/
def whoDst (t : Nat) : List Oper → Nat → Option Nat
  | [], _ => none
  | o :: l, i => match o.dst with
    | some d => bif Nat.beq d t then some i else whoDst t l (i + 1)
    | none => whoDst t l (i + 1)
/-- what an operation may look at -/
def bindA (ops : List Oper) (anc : Nat) (vals : List AV) (ae : List (Nat × AV)) : List Nat → Option (List (Nat × AV))
  | [] => some []
  | t :: ts => match bindA ops anc vals ae ts with
    | some l => match whoDst t ops 0 with
      | some j => bif bitOf anc j then (match vals[j]? with
        | some a => some ((t, a) :: l)
        | none => none) else none
      | none => match eget ae t with
        | some a => some ((t, a) :: l)
        | none => some l
    | none => none
def looks (ops : List Oper) (o : Oper) : List Nat :=
  (match o.guard with
    | none => []
    | some (j, _) => match ops[j]? with
      | some oj => match oj.dst with
        | some d => [d]
        | none => []
      | none => []) ++ tmpsOf o.op.operands.toList

/-- what only reads -/
def rdA (X : Tr TI) (ae : List (Nat × AV)) (s : St) (op : Op) : Option AV :=
  match pureA X ae op with
  | some a => some a
  | none => match readA X ae s op with
    | some a => some a
    | none => match lookA X ae s.h op with
      | some a => some a
      | none => match read2A X ae s.h op with
     | some a => some a
     | none => match empA X ae op with
     | some a => some a
     | none => match isNilA X ae op with
     | some a => some a
     | none => match eqA X ae op with
        | some a => some a
        | none => match buildA X ae op with
          | some a => some a
          | none => pure2A X ae op

/-- what makes a block of its own, whatever the memory holds -/
def isMk : Op → Bool
  | .makeMap _ none => true
  | .alloc _ => true
  | .box _ _ => true
  | _ => false
def mkN : List Oper → Nat
  | [] => 0
  | o :: l => bif isMk o.op then mkN l + 1 else mkN l
def newA (X : Tr TI) (ae : List (Nat × AV)) (i : Nat) (op : Op) : Option (AV × AObj) :=
  match op with
  | .alloc T => match X.get T with
    | some ti => match zeroA ti.zero with
      | some z => some (.ptr i 0, .cells z T)
      | none => none
    | none => none
  | .box T x => match opnd ae x with
    | some a => some (.ptr i 0, .cells (cellsA a) T)
    | none => none
  | .makeMap t none => match X.get t with
    | some ti => match ti.und with
      | .map _ _ => some (.map i, .map 0 [])
      | _ => none
    | none => none
  | _ => none

inductive Kd where
  | idle | read | turn
  | make (i : Nat) (ob : AObj)
structure Rec where
  env : List (Nat × AV)
  kd : Kd
  val : AV
  post : St

/-- blocks that were made and that nobody has looked at: by whom, their name, what they hold -/
abbrev Pend := List (Nat × Nat × AObj)
def mergeP (an : Nat) (pd : Pend) (h : Tr AObj) : Tr AObj :=
  match pd with
  | [] => h
  | p :: pd => bif bitOf an p.1 then (mergeP an pd h).put p.2.1 (some p.2.2) else mergeP an pd h
def mergeB (pd : Pend) (h : Tr AObj) : Tr AObj :=
  match pd with
  | [] => h
  | p :: pd => (mergeB pd h).put p.2.1 (some p.2.2)
def leftP (an : Nat) (pd : Pend) : Pend := pd.filter fun p => !bitOf an p.1

/-- what turns the state, with one outcome -/
def turnA (c : Cx) (p : Evs) (env : List (Nat × AV)) (s : St) (op : Op) : Option (AV × St) :=
  match opB c env s op with
  | some r => some r
  | none => match op with
    | .call cl => match cl.callee with
      | .value y => match opnd env y with
        | some (.func _ _ _) => match callsA p env s cl with
          | some [r] => some r
          | _ => none
        | _ => none
      | _ => none
    | _ => none

/-- in the order of the text -/
def recsA (c : Cx) (p : Evs) (ops : List Oper) (ae : List (Nat × AV)) : List Oper → List Nat → Nat → List AV → Nat → Pend → St → Option (List Rec)
  | [], _, _, _, _, _, _ => some []
  | o :: l, ans, j, vals, nm, pd, s => match ans with
    | [] => none
    | an :: ans => match bindA ops an vals ae (looks ops o) with
      | some env => match wantA ops env o with
        | some false => match recsA c p ops ae l ans (j + 1) (vals ++ [.tup []]) (bif isMk o.op then nm + 1 else nm) pd s with
          | some rs => some (⟨env, .idle, .tup [], s⟩ :: rs)
          | none => none
        | some true => bif isMk o.op then (match newA c.X env nm o.op with
            | some r => match recsA c p ops ae l ans (j + 1) (vals ++ [r.1]) (nm + 1) ((j, nm, r.2) :: pd) s with
              | some rs => some (⟨env, .make nm r.2, r.1, s⟩ :: rs)
              | none => none
            | none => none)
          else match rdA c.X env s o.op with
          | some a => match recsA c p ops ae l ans (j + 1) (vals ++ [a]) nm pd s with
            | some rs => some (⟨env, .read, a, s⟩ :: rs)
            | none => none
          | none =>
            match turnA c p env ⟨mergeP an pd s.h, s.nx, s.k⟩ o.op with
            | some r => match recsA c p ops ae l ans (j + 1) (vals ++ [r.1]) nm (leftP an pd) r.2 with
              | some rs => some (⟨env, .turn, r.1, r.2⟩ :: rs)
              | none => none
            | none => none
        | none => none
      | none => none
/-- what is still to be looked at ahead of operation i -/
def pdAt : List Rec → List Nat → Nat → Pend → Nat → Pend
  | _, _, _, pd, 0 => pd
  | r :: rs, a :: as, j, pd, i + 1 => pdAt rs as (j + 1) (match r.kd with
    | .make nm ob => (j, nm, ob) :: pd
    | .turn => leftP a pd
    | _ => pd) i
  | _, _, _, pd, _ => pd
end
end Go.Ev
/- General words for running code of which all is known: a statement whose operations come in any order, what is checked. No program. -/
namespace Go.Ev
open Go Go.Sl
noncomputable section

/-- every binding edge points to an earlier operation -/
def backOk : List Oper → Nat → Bool
  | [], _ => true
  | o :: l, i => o.after.toList.all (fun ed => !Region.binds .any ed || Nat.blt ed.on i) && backOk l (i + 1)
/-- each temporary is laid once, and there is room for it -/
def dstOk (n : Nat) : List Oper → List Nat → Bool
  | [], _ => true
  | o :: l, seen => match o.dst with
    | none => dstOk n l seen
    | some d => Nat.blt d n && !seen.any (Nat.beq d) && dstOk n l (d :: seen)

def isTurn : Kd → Bool
  | .turn => true
  | _ => false
/-- the state behind so many changers -/
def stK : List Rec → St → Nat → St
  | [], s, _ => s
  | r :: rs, s, k => match r.kd with
    | .turn => (match k with
      | 0 => s
      | k + 1 => stK rs r.post k)
    | _ => stK rs s k
def turns : List Rec → Nat
  | [] => 0
  | r :: rs => match r.kd with
    | .turn => turns rs + 1
    | _ => turns rs
/-- each changer waits for the one ahead -/
def chainOk : List Rec → List Nat → Nat → Option Nat → Bool
  | r :: rs, a :: as, i, prev => match r.kd with
    | .turn => (match prev with
      | none => true
      | some j => bitOf a j) && chainOk rs as (i + 1) (some i)
    | _ => chainOk rs as (i + 1) prev
  | _, _, _, _ => true
/-- may operation i not come behind just k changers? -/
def skipA (i an k : Nat) : List Rec → List Nat → Nat → Nat → Bool
  | r :: rs, b :: bs, j, q => match r.kd with
    | .turn => (bif Nat.ble k q then bitOf an j else bitOf b i) || skipA i an k rs bs (j + 1) (q + 1)
    | _ => skipA i an k rs bs (j + 1) q
  | _, _, _, _ => false
def upto (p : Nat → Bool) : Nat → Bool
  | 0 => true
  | m + 1 => p m && upto p m
/-- whoever reads, reads the same wherever it may come -/
def rdsOk (X : Tr TI) (recs : List Rec) (ans : List Nat) (s : St) (m : Nat) : List Oper → List Rec → List Nat → Nat → Nat → Bool
  | o :: l, r :: rs, an :: as, i, q => match r.kd with
    | .turn => rdsOk X recs ans s m l rs as (i + 1) (q + 1)
    | .idle => rdsOk X recs ans s m l rs as (i + 1) q
    | .make _ _ => rdsOk X recs ans s m l rs as (i + 1) q
    | .read => upto (fun k => Nat.beq k q || skipA i an k recs ans 0 0 || match rdA X r.env (stK recs s k) o.op with
      | some a => avEq a r.val
      | none => false) (m + 1) && rdsOk X recs ans s m l rs as (i + 1) q
  | _, _, _, _, _ => true
def zipA : List Oper → List Rec → List (Nat × AV) → List (Nat × AV)
  | o :: l, r :: rs, ae => zipA l rs (match o.dst with
    | some d => (d, r.val) :: ae
    | none => ae)
  | _, _, ae => ae

def regA (c : Cx) (p : Evs) (n : Nat) (l : List Oper) (ae : List (Nat × AV)) (s : St) : Option (List (Nat × AV) × St) :=
  let ans := ancs l []
  let s0 : St := ⟨s.h, s.nx + mkN l, s.k⟩
  match recsA c p l ae l ans 0 [] s.nx [] s0 with
  | some recs => bif backOk l 0 && dstOk n l [] && chainOk recs ans 0 none && rdsOk c.X recs ans s0 (turns recs) l recs ans 0 0 then
      some (zipA l recs ae, ⟨mergeB (pdAt recs ans 0 [] l.length) (stK recs s0 (turns recs)).h, (stK recs s0 (turns recs)).nx, (stK recs s0 (turns recs)).k⟩) else none
  | none => none
end
end Go.Ev
/- General words for running code of which all is known: the run. No program. -/
namespace Go.Ev
open Go Go.Sl
noncomputable section
/-- what a result variable holds -/
def resA (c : Cx) (ae : List (Nat × AV)) (s : St) (r : ResultVar) : Option AV :=
  match r with
  | .tmp t => eget ae t
  | .cell a t => readA c.X ae s (.load t (.tmp a))
def resesA (c : Cx) (ae : List (Nat × AV)) (s : St) : List ResultVar → Option (List AV)
  | [] => some []
  | r :: rs => match resA c ae s r with
    | some a => match resesA c ae s rs with
      | some l => some (a :: l)
      | none => none
    | none => none
def takeA (h : Tr AObj) : List Nat → Option (Tr AObj)
  | [] => some h
  | d :: ds => match h.get d with
    | some .deferred => takeA (h.put d none) ds
    | _ => none
def tupA (l : List AV) : AV := match l with
  | [a] => a
  | l => .tup l
/-- a loop, round by round -/
def loopA (f : List (Nat × AV) → List Nat → St → Option (List Out)) (m : Nat) : List (Nat × AV) → List Nat → St → Option (List Out) :=
  Nat.rec (motive := fun _ => List (Nat × AV) → List Nat → St → Option (List Out)) (fun _ _ _ => none) (fun _ ih ae ds s => match f ae ds s with
    | some outs => many (fun o => match o.x with
      | .normal => ih o.ae o.ds o.s
      | _ => some [o]) outs
    | none => none) m
def retA (c : Cx) (fn : Func) (o : Out) : Option (List (AV × St)) :=
  match o.x with
  | .exit _ => none
  | _ => match takeA o.s.h o.ds with
    | some h => match resesA c o.ae ⟨h, o.s.nx, o.s.k⟩ fn.results.toList with
      | some l => some [(tupA l, ⟨h, o.s.nx, o.s.k⟩)]
      | none => none
    | none => none
def argsA (l : List AV) (i : Nat) : List (Nat × AV) := match l with
  | [] => []
  | a :: l => (i, a) :: argsA l (i + 1)

/-! outcomes that are alike are one -/
def entsEq : List (AV × AV × Nat) → List (AV × AV × Nat) → Bool
  | [], [] => true
  | p :: l, q :: m => avEq p.1 q.1 && avEq p.2.1 q.2.1 && Nat.beq p.2.2 q.2.2 && entsEq l m
  | _, _ => false
def objEq : AObj → AObj → Bool
  | .cells c T, .cells c' T' => Nat.beq T T' && avsEq c c'
  | .ro c, .ro c' => avsEq c c'
  | .map ck m, .map ck' m' => Nat.beq ck ck' && entsEq m m'
  | .strIter s q, .strIter s' q' => lexEq s s' && Nat.beq q q'
  | .deferred, .deferred => true
  | _, _ => false
def interTr : Tr AObj → Tr AObj → Tr AObj
  | .node o l r, .node o' l' r' => .node (match o, o' with
    | some a, some b => bif objEq a b then some a else none
    | _, _ => none) (interTr l l') (interTr r r')
  | _, _ => .leaf
def insJ (k : Kx) (r : AV × St) : List (AV × St) → List (AV × St)
  | [] => [r]
  | q :: qs => bif avEq q.1 r.1 then (q.1, ⟨interTr q.2.h r.2.h, Nat.max q.2.nx r.2.nx, k⟩) :: qs else q :: insJ k r qs
def joinA (k : Kx) : List (AV × St) → List (AV × St)
  | [] => []
  | r :: rs => match rs with
    | [] => [r]
    | _ => insJ k r (joinA k rs)

def step (c : Cx) (p : Evs) : Evs where
  code := fun fr cd ae ds s => match cd with
    | .skip => some [⟨.normal, ae, ds, s⟩]
    | .label _ => some [⟨.normal, ae, ds, s⟩]
    | .scope b => bif fr.rnd then none else p.code fr b ae ds s
    | .ret => some [⟨.ret, ae, ds, s⟩]
    | .exit i => some [⟨.exit i, ae, ds, s⟩]
    | .seq a b => match p.code fr a ae ds s with
      | some outs => many (fun o => match o.x with
        | .normal => p.code fr b o.ae o.ds o.s
        | _ => some [o]) outs
      | none => none
    | .cond x a b => match opnd ae x with
      | some (.bool t) => bif t then p.code fr a ae ds s else p.code fr b ae ds s
      | _ => none
    | .block id b => match p.code fr b ae ds s with
      | some outs => some (outs.map fun o => match o.x with
        | .exit i => bif Nat.beq i id then ⟨.normal, o.ae, o.ds, o.s⟩ else o
        | _ => o)
      | none => none
    | .loop b => loopA (p.code fr b) 1048576 ae ds s
    | .region _ ops dr => bif dr then (match regA c p fr.n ops.toList ae s with
      | some r => some [⟨.normal, trim fr.lose r.1, ds, r.2⟩]
      | none => none) else match opsA c p fr.n ops.toList ops.toList ae s with
      | some rs => some (rs.map fun r => ⟨.normal, trim fr.lose r.1, ds, r.2⟩)
      | none => none
    | .rangeFunc g ps assign body => bif fr.rnd then none else match opnd ae g with
      | some (.func f xs ys) =>
        match p.call f (xs ++ (.yield (s.nx + 1) :: ys)) ⟨(s.h.put s.nx (some .deferred)).put (s.nx + 1) (some (.loop ⟨ae, fr.n, fr.lose, ps.toList, assign, body⟩)), s.nx + 2, s.k⟩ with
        | some rs => many (fun r => match r.2.h.get (s.nx + 1) with
          | some (.loop _) => some [⟨.normal, ae, s.nx :: ds, ⟨r.2.h.put (s.nx + 1) none, r.2.nx, r.2.k⟩⟩]
          | _ => none) rs
        | none => none
      | _ => none
    | _ => none
  call := fun f l s => match c.con f l s with
  | some rs => some rs
  | none => match c.F.get f with
    | some fi => match fi.fn.body with
      | some cd => bif Nat.ble l.length fi.fn.ntmps then (match p.code ⟨fi.fn.ntmps, fi.lose, false⟩ cd (argsA l 0) [] s with
        | some outs => match many (retA c fi.fn) outs with
          | some rs => some (joinA s.k rs)
          | none => none
        | none => none) else none
      | none => none
    | none => none
def bot : Evs := ⟨fun _ _ _ _ _ => none, fun _ _ _ => none⟩
def evs (c : Cx) (k : Nat) : Evs := Nat.rec (motive := fun _ => Evs) bot (fun _ p => step c p) k
end
end Go.Ev
/- General words for ranges over functions: loops round by round, the entry of a function, the statement. No program. -/
namespace Go.Sl
open Go
section
variable {r : Option Nat} {P : Program} {n : Nat} {N R : NP} {E : Nat → NP} {ds : List Nat} {e : Env} {w : World}

def RoundsI (r : Option Nat) (P : Program) (n : Nat) (c : Code) (R : NP) (E : Nat → NP) : Nat → NP
  | 0 => fun _ _ _ => False
  | k + 1 => fun ds e w => CI r P n c (RoundsI r P n c R E k) R E ds e w
theorem ci_rounds {c : Code} (k : Nat) (h : RoundsI r P n c R E k ds e w) : CI r P n (.loop c) N R E ds e w := by
  intro a ha
  refine wpIn_loop_rounds k ?_
  induction k generalizing ds e w a with
  | zero => exact h.elim
  | succ k ih =>
    rw [roundsIn_succ]
    refine wpIn_mono (h a ha) ?_
    intro ex a' w' q
    cases ex with
    | normal => obtain ⟨ds', e', hf, hr⟩ := q; exact ih hr a' hf
    | exit i => exact q
    | goto i => exact q
    | ret => exact q
    | panic c => exact q
    | outgrown => exact q

theorem CI.mono {c : Code} {N' R' : NP} {E' : Nat → NP} (h : CI r P n c N R E ds e w) (hN : ∀ ds e w, N ds e w → N' ds e w) (hR : ∀ ds e w, R ds e w → R' ds e w) (hE : ∀ i ds e w, E i ds e w → E' i ds e w) : CI r P n c N' R' E' ds e w := by
  intro a ha
  refine wpIn_mono (h a ha) ?_
  intro ex a' w' q
  cases ex with
  | normal => obtain ⟨ds', e', hf, h⟩ := q; exact ⟨ds', e', hf, hN _ _ _ h⟩
  | exit i => obtain ⟨ds', e', hf, h⟩ := q; exact ⟨ds', e', hf, hE _ _ _ _ h⟩
  | ret => obtain ⟨ds', e', hf, h⟩ := q; exact ⟨ds', e', hf, hR _ _ _ h⟩
  | goto i => exact q
  | panic c => exact q
  | outgrown => exact q

/-- what a function owes at its end: its marks are taken in turn, its results are read -/
def Ends (P : Program) (fn : Func) (Q : Value → World → Prop) (e : Env) : List Nat → World → Prop
  | [], w => ∀ tmps : Array Value, (∀ t, tmps.getD t undef = e t) → ∃ v, (results fn tmps).run P w = .ok v w ∧ Q v w
  | D :: ds, w => w.heap[D]? = some (.deferred (some [])) ∧ Ends P fn Q e ds (w.putObj D (.deferred none))

theorem ends_leaves {fn : Func} {Q : Value → World → Prop} {tmps : Array Value} (ht : ∀ t, tmps.getD t undef = e t) : ∀ (ds : List Nat) {w : World}, Ends P fn Q e ds w → LeavesInM (WF none) 0 P fn tmps (retd Q) (ds.map mark) .returning w
  | [], w, h => by
    obtain ⟨v, h1, h2⟩ := h tmps ht
    exact ⟨v, h1, h2⟩
  | D :: ds, w, h => by
    refine ⟨by simp, .inl ⟨D, _, rfl, run_takeDeferred h.1, ends_leaves ht ds h.2⟩⟩

theorem ci_enter {f : FuncId} {fn : Func} {c : Code} {args : List Value} {Q : Value → World → Prop} (hf : P.funcs[f]? = some fn) (hb : fn.body = some c) (hn : args.length ≤ fn.ntmps)
    (h : CI none P fn.ntmps c (fun ds e w => Ends P fn Q e ds w) (fun ds e w => Ends P fn Q e ds w) (fun _ _ _ _ => False) [] (env0 args) w) : Calls P f args.toArray w (retd Q) := by
  refine (callsIn_wide (n := 0)).1 (callsIn_of_wp_marks hf hb trivial ?_)
  have hfit : FitsD fn.ntmps [] { tmps := args.toArray ++ Array.replicate (fn.ntmps - args.toArray.size) undef, defers := [] } (env0 args) := by
    refine ⟨by simp; omega, rfl, fun t => ?_⟩
    simp only [env0, Array.getD_eq_getD_getElem?, List.getD_eq_getElem?_getD, Array.getElem?_append, List.size_toArray, List.getElem?_toArray]
    by_cases ht : t < args.length
    · simp [ht]
    · simp only [if_neg ht, Array.getElem?_replicate]
      rw [List.getElem?_eq_none (by omega)]
      split <;> rfl
  refine wpIn_mono (h _ hfit) ?_
  intro ex a' w' q
  cases ex with
  | normal => obtain ⟨ds, e', hf, q⟩ := q; show LeavesInM _ _ _ _ _ _ _ _ _; rw [hf.defs]; exact ends_leaves hf.get ds q
  | exit i => obtain ⟨ds, e', hf, q⟩ := q; exact q.elim
  | goto i => exact q
  | ret => obtain ⟨ds, e', hf, q⟩ := q; show LeavesInM _ _ _ _ _ _ _ _ _; rw [hf.defs]; exact ends_leaves hf.get ds q
  | panic c => exact q.elim
  | outgrown => exact q.elim

theorem fold_fits : ∀ (l : List (Nat × Value)) {tmps : Array Value} {e : Env}, tmps.size = n → (∀ t, tmps.getD t undef = e t) → (∀ p ∈ l, p.1 < n) →
    FitsD n [] { tmps := l.foldl (fun tmps p => tmps.setIfInBounds p.1 p.2) tmps, defers := [] } (l.foldl (fun e p => put e p.1 p.2) e)
  | [], tmps, e, h1, h2, _ => ⟨h1, rfl, h2⟩
  | p :: l, tmps, e, h1, h2, h3 => by
    have hp : p.1 < n := h3 p (by simp)
    have h0 : Fits n { tmps := tmps, defers := [] } e := ⟨h1, rfl, h2⟩
    have h4 := h0.put hp p.2
    exact fold_fits l h4.size h4.get (fun q hq => h3 q (by simp [hq]))

/-- one round: a call of yield -/
theorem yc_round {l : Nat} {rec : Loop} {args : List Value} {K : Value → World → Prop} (hl : w.heap[l]? = some (.loop rec)) (hr : rec.state = .ready) (hs : args.length = rec.params.size) (hsz : rec.tmps.size = n) (he : ∀ t, rec.tmps.getD t undef = e t)
    (hps : ∀ t ∈ rec.params.toList, t < n)
    (h : CI (some l) P n rec.assign (fun ds1 e1 w1 => w1.heap[l]? = some (.loop rec) ∧ CI (some l) P n rec.body
        (fun _ _ w2 => ∃ rec2, w2.heap[l]? = some (.loop rec2) ∧ K (.bool true) (w2.putObj l (.loop { rec2 with state := .ready, pending := none })))
        (fun _ _ _ => False) (fun _ _ _ _ => False) ds1 e1 (w1.putObj l (.loop { rec with state := .busy }))) (fun _ _ _ => False) (fun _ _ _ _ => False) [] ((rec.params.toList.zip args).foldl (fun e p => put e p.1 p.2) e) w) :
    YC P l args.toArray w K := by
  refine ⟨rec.fn, _, rec.assign, rec.body, w, run_yield hl (by simpa using hs), ?_⟩
  have hfit := fold_fits (rec.params.toList.zip args) hsz he (fun p hp => hps p.1 (List.of_mem_zip hp).1)
  have htm : ((rec.params.zip args.toArray).foldl (fun tmps (x : Nat × Value) => match x with | (t, a) => tmps.setIfInBounds t a) rec.tmps) = (rec.params.toList.zip args).foldl (fun tmps p => tmps.setIfInBounds p.1 p.2) rec.tmps := by
    rw [← Array.foldl_toList, Array.toList_zip]
  refine roundIn_of_wpIn trivial ?_
  rw [htm]
  refine wpIn_mono (h _ hfit) ?_
  intro ex a' w' q
  cases ex with
  | normal =>
    obtain ⟨ds1, e1, hf1, hb1, hb2⟩ := q
    refine ⟨_, run_beginRound hb1 hr, ?_⟩
    refine wpIn_mono (hb2 a' hf1) ?_
    intro ex a2 w2 q
    cases ex with
    | normal =>
      obtain ⟨_, _, _, rec2, hr2, hk⟩ := q
      exact ⟨_, _, run_endRound none hr2, hk⟩
    | ret => obtain ⟨_, _, _, q⟩ := q; exact q.elim
    | exit i => obtain ⟨_, _, _, q⟩ := q; exact q.elim
    | goto i => exact q.elim
    | panic c => exact q.elim
    | outgrown => exact q.elim
  | ret => obtain ⟨_, _, _, q⟩ := q; exact q.elim
  | exit i => obtain ⟨_, _, _, q⟩ := q; exact q.elim
  | goto i => exact q.elim
  | panic c => exact q.elim
  | outgrown => exact q.elim

/-- the statement -/
theorem ci_range {g : Operand} {ps : Array Tmp} {assign body : Code} {f : FuncId} {fs cs : Array Value} (hg : ev e g = .func (.func f) fs cs) (hf : ∀ args w, (callFunc f args).run P w = .ok (.enter f args) w)
    (h : ∀ (fn : FuncId) (tmps : Array Value), tmps.size = n → (∀ t, tmps.getD t undef = e t) →
      Calls P f (fs.toList ++ (.func (.yield (w.heap.size + 1)) #[] #[] :: cs.toList)).toArray
        ((w.alloc (.deferred (some []))).alloc (.loop { state := .ready, pending := none, fn, tmps, params := ps, assign, body, defers := w.heap.size }))
        (retd fun _ w3 => ∃ rec, w3.heap[w.heap.size + 1]? = some (.loop rec) ∧ rec.state ≠ .busy ∧ rec.pending = none ∧ N (w.heap.size :: ds) e (w3.putObj (w.heap.size + 1) (.loop { rec with state := .exhausted })))) :
    CI none P n (.rangeFunc g ps assign body) N R E ds e w := by
  intro a ha
  refine wpIn_rangeFunc ?_
  intro fn _
  have hc := h fn a.tmps ha.size ha.get
  refine ⟨w.heap.size + 1, [{ target := .collected w.heap.size, args := #[] }], ((w.alloc (.deferred (some []))).alloc (.loop { state := .ready, pending := none, fn := fn, tmps := a.tmps, params := ps, assign, body, defers := w.heap.size })),
    { target := .fn (.func f) cs, args := fs ++ #[.func (.yield (w.heap.size + 1)) #[] #[]] }, ((w.alloc (.deferred (some []))).alloc (.loop { state := .ready, pending := none, fn := fn, tmps := a.tmps, params := ps, assign, body, defers := w.heap.size })), f,
    (fs.toList ++ (.func (.yield (w.heap.size + 1)) #[] #[] :: cs.toList)).toArray, ((w.alloc (.deferred (some []))).alloc (.loop { state := .ready, pending := none, fn := fn, tmps := a.tmps, params := ps, assign, body, defers := w.heap.size })), run_enterLoop_outer fn a.tmps ps assign body, ?_, fun _ _ => trivial, ?_, by simp [WF, Fence.wide], (callsIn_wide (n := 0)).2 (hc.mono ?_)⟩
  · have hconst : ∀ v, ev e (.const v) = v := fun _ => rfl
    simp only [resolve, ha.ev, hg, Deferred.ofValue, List.map_toArray, List.map_cons, List.map_nil, hconst, hpure]
  · simp only [invoke]
    rw [hf]
    congr 2
    apply Array.ext'
    simp
  · intro en w3 q
    cases en with
    | returned v =>
      obtain ⟨rec, h1, h2, h3, h4⟩ := q
      refine ⟨none, _, by rw [run_endLoop h1 h2, h3], ?_⟩
      refine ⟨w.heap.size :: ds, e, ⟨ha.size, by simp [ha.defs, mark], ha.get⟩, ?_⟩
      rw [h3] at h4; exact h4
    | panicked c => exact q.elim
    | outgrown => exact q.elim
end
end Go.Sl
/- General words for running code of which all is known: the run is true. No program. -/
namespace Go.Ev
open Go Go.Sl

structure GoodX (P : Program) (X : Tr TI) : Prop where
  ty : Types P X
  zs : ∀ t ti, X.get t = some ti → ti.zero.cells.size = ti.size
structure GoodC (P : Program) (c : Cx) : Prop extends GoodX P c.X where
  fn : ∀ f fi, c.F.get f = some fi → P.funcs[f]? = some fi.fn
  call : ∀ f fi, c.F.get f = some fi → ∀ args w, (callFunc f args).run P w = .ok (.enter f args) w
  mix : P.follows .mixedOrders = true
  con : ∀ f l s rs, c.con f l s = some rs → (∀ r ∈ rs, r.2.k = s.k) ∧ (∀ args w, (callFunc f args).run P w = .ok (.enter f args) w) ∧
    ∀ M vs w L (K : Value → World → Prop), VRs M l vs → Inv M s w L → (∀ r ∈ rs, Eff M r L K) → Calls P f vs.toArray w (retd K)
  ext : ∀ f k, c.E.get f = some k → match k with
    | .clone => ∀ args w, (callFunc f args).run P w = ((Extern.MapsClone.clone args).run P w).andThen fun v w' => .ok (.value v) w'

section
variable {P : Program} {X : Tr TI} {M : Nm} {ae : List (Nat × AV)} {e : Env} {o : Oper} {w : World} {L : List HP} {s : St} {K : Value → World → Prop}

theorem opA_ok (hX : GoodX P X) (he : EnvR M ae e) (hI : Inv M s w L) {r : AV × St} (h : opA X ae s o.op = some r) (hK : Eff M r L K) : Does P o e w K := by
  unfold opA at h
  split at h
  · rename_i a ha
    cases h
    obtain ⟨v, h1, h2⟩ := pureA_ok (P := P) hX.ty he ha
    exact d_val (h2 w) (hK M v w (Nm.le.refl M) h1 hI)
  · split at h
    · rename_i a ha
      cases h
      obtain ⟨v, h1, h2⟩ := readA_ok (P := P) hX.ty he hI ha
      exact d_val h2 (hK M v w (Nm.le.refl M) h1 hI)
    · split at h
      · rename_i a ha
        cases h
        obtain ⟨v, h1, h2⟩ := lookA_ok (P := P) hX.ty he hI ha
        exact d_val h2 (hK M v w (Nm.le.refl M) h1 hI)
      split at h
      · rename_i a ha
        cases h
        obtain ⟨v, h1, h2⟩ := read2A_ok (P := P) hX.ty he hI ha
        exact d_val h2 (hK M v w (Nm.le.refl M) h1 hI)
      split at h
      · rename_i a ha
        cases h
        obtain ⟨v, h1, h2⟩ := empA_ok (P := P) hX.ty he ha
        exact d_val (h2 w) (hK M v w (Nm.le.refl M) h1 hI)
      split at h
      · rename_i a ha
        cases h
        obtain ⟨v, h1, h2⟩ := isNilA_ok (P := P) hX.ty he ha
        exact d_val (h2 w) (hK M v w (Nm.le.refl M) h1 hI)
      split at h
      · rename_i a ha
        cases h
        obtain ⟨v, h1, h2⟩ := eqA_ok (P := P) hX.ty he ha
        exact d_val (h2 w) (hK M v w (Nm.le.refl M) h1 hI)
      split at h
      · rename_i a ha
        cases h
        obtain ⟨v, h1, h2⟩ := buildA_ok (P := P) hX.ty he ha
        exact d_val (h2 w) (hK M v w (Nm.le.refl M) h1 hI)
      · split at h
        · rename_i a ha
          cases h
          obtain ⟨v, h1, h2⟩ := pure2A_ok (P := P) hX.ty he ha
          exact d_val (h2 w) (hK M v w (Nm.le.refl M) h1 hI)
        · split at h
          · rename_i r' hr
            cases h
            exact allocA_ok hX.ty he hI hr hK
          · split at h
            · rename_i r' hr
              cases h
              exact appA_ok hX.ty hX.zs he hI hr hK
            · split at h
              · rename_i r' hr
                cases h
                exact mapA_ok hX.ty he hI hr hK
              · split at h
                · rename_i r' hr
                  cases h
                  exact makeA_ok hX.ty hX.zs he hI hr hK
                · exact appZA_ok hX.ty hX.zs he hI h hK

theorem extA_ok {c : Cx} (hC : GoodC P c) (he : EnvR M ae e) (hI : Inv M s w L) {r : AV × St} (h : extA c.E ae s o.op = some r) (hK : Eff M r L K) : isDefer o.op = false ∧ Does P o e w K := by
  unfold extA at h
  split at h
  · rename_i f xs ts ho
    refine ⟨by rw [ho]; rfl, ?_⟩
    split at h
    · rename_i hf
      have hx := hC.ext f _ hf
      simp only at hx
      split at h
      · rename_i x hxs
        have hxs : xs = #[x] := Array.ext' hxs
        subst hxs
        split at h
        · rename_i t i hxo
          have hx' := opnd_ok he hxo
          simp only [VR] at hx'
          obtain ⟨u, ⟨B, hB, hu⟩, hv⟩ := hx'
          subst hu
          split at h
          · rename_i ck m hm
            cases h
            obtain ⟨B', q, hB', hO, hw⟩ := hI.blk hm
            rw [hB] at hB'; cases hB'
            obtain ⟨es, rfl, hmr⟩ := hO
            have hg := getObj_run (P := P) hw
            have hcl : (Extern.MapsClone.clone #[.iface t (.map (some B.b))]).run P w = .ok (.iface t (.map (some w.heap.size))) { w with heap := w.heap.push (.map es ck) } := by
              have e1 : Extern.MapsClone.clone #[.iface t (.map (some B.b))] = (getObj B.b >>= fun o => match o with
                | .map entries clock => (do pure (.iface t (.map (some (← newObj (.map entries clock))))))
                | _ => stuck "maps.clone: a map expected") := rfl
              rw [e1]
              simp only [Sem.run_bind, hg, Result.andThen, newObj, Sem.run, hpure]
            have hrun : (execOp (Sl.ev e) o).run P w = .ok (.value (.iface t (.map (some w.heap.size)))) { w with heap := w.heap.push (.map es ck) } := by
              have hfv : Sl.ev e (.func f) = .func (.func f) #[] #[] := rfl
              simp only [execOp, ho, resolve, hfv, Deferred.ofValue, Sem.run_bind, hpure, Result.andThen, invoke, hx, List.map_toArray, List.map_cons, List.map_nil, Array.empty_append, Array.append_empty, hv, hcl]
            obtain ⟨M', h1, h2, h3⟩ := hI.newb (hI.sat.new (.map es ck)) (hI.lack (Nat.le_refl _)) (.map ck m) ⟨w.heap.size, 0, 0⟩ rfl (fun M' hle _ => ⟨es, rfl, hmr.mono hle⟩)
            exact d_val hrun (hK M' _ _ h1 (by simp only [VR]; exact ⟨_, ⟨_, h2, rfl⟩, rfl⟩) h3)
          · cases h
        · cases h
      · cases h
    · cases h
  · cases h

theorem many_mem {α β : Type} {f : α → Option (List β)} : ∀ {l : List α} {r : List β}, many f l = some r → ∀ a ∈ l, ∃ q, f a = some q ∧ ∀ x ∈ q, x ∈ r
  | [], _, _, a, ha => by cases ha
  | b :: l, r, h, a, ha => by
    have hm : many f (b :: l) = match f b with
      | some r => match many f l with
        | some q => some (r ++ q)
        | none => none
      | none => none := rfl
    rw [hm] at h
    split at h
    · rename_i r1 h1
      split at h
      · rename_i q1 h2
        cases h
        rcases List.mem_cons.1 ha with rfl | ha
        · exact ⟨r1, h1, fun x hx => List.mem_append_left _ hx⟩
        · obtain ⟨q, h3, h4⟩ := many_mem h2 a ha
          exact ⟨q, h3, fun x hx => List.mem_append_right _ (h4 x hx)⟩
      · cases h
    · cases h

theorem trim_get (t : Nat) : ∀ (l : List (Nat × AV)) (m : Nat) {a : AV}, eget (trim m l) t = some a → eget l t = some a
  | l, m, a, h => by
    have key : ∀ (l : List (Nat × AV)) (m : Nat), eget (trim m l) t = some a → bitOf m t = false ∧ eget l t = some a := by
      intro l
      induction l with
      | nil => intro m h; cases h
      | cons p l ih =>
        intro m h
        have ht : trim m (p :: l) = bif bitOf m p.1 then trim m l else p :: trim (Nat.lor m (Nat.shiftLeft 1 p.1)) l := rfl
        rw [ht] at h
        cases hb : bitOf m p.1 with
        | true =>
          rw [hb] at h
          obtain ⟨h1, h2⟩ := ih m h
          refine ⟨h1, ?_⟩
          rw [eget_cons]
          have : p.1 ≠ t := by rintro rfl; rw [hb] at h1; cases h1
          rw [beq_ne this]; exact h2
        | false =>
          rw [hb] at h
          simp only [cond_false, eget_cons] at h ⊢
          by_cases hp : p.1 = t
          · subst hp
            simp only [Nat.beq_refl, cond_true] at h ⊢
            exact ⟨hb, h⟩
          · rw [beq_ne hp] at h ⊢
            simp only [cond_false] at h ⊢
            obtain ⟨h1, h2⟩ := ih _ h
            refine ⟨?_, h2⟩
            revert h1
            unfold bitOf
            intro h1
            cases hq : Nat.beq (Nat.mod (Nat.shiftRight m t) 2) 1 with
            | false => rfl
            | true =>
              exfalso
              have h3 := Nat.eq_of_beq_eq_true hq
              have h3' : (m >>> t) % 2 = 1 := h3
              have e1 : m.testBit t = true := by
                rw [Nat.testBit_eq_decide_div_mod_eq, decide_eq_true_eq, ← Nat.shiftRight_eq_div_pow]; exact h3'
              have e2 : (m ||| (1 <<< p.1)).testBit t = true := by rw [Nat.testBit_or, e1]; rfl
              rw [Nat.testBit_eq_decide_div_mod_eq, decide_eq_true_eq, ← Nat.shiftRight_eq_div_pow] at e2
              have e3 : Nat.mod (Nat.shiftRight (Nat.lor m (Nat.shiftLeft 1 p.1)) t) 2 = 1 := e2
              rw [e3] at h1
              cases h1
    exact (key l m h).2
theorem EnvR.trim (h : EnvR M ae e) (m : Nat) : EnvR M (Ev.trim m ae) e := fun t a ht => h t a (trim_get t ae m ht)
end
end Go.Ev
