/- General words for running code of which all is known: what is equal. No program. -/
import Derived.Test.YtahhbplejfjmnaaGreatDoorEB
import Derived.Laws.StructEq
namespace Go.Ev
open Go Go.Sl
noncomputable section

mutual
def avEq : AV → AV → Bool
  | .bool a, .bool b => a == b
  | .int k a, .int k' b => decide (k = k') && decide (a = b)
  | .str a, .str b => lexEq a b
  | .ptr a b, .ptr a' b' => Nat.beq a a' && Nat.beq b b'
  | .nilp, .nilp => true
  | .slice a b c d e, .slice a' b' c' d' e' => Nat.beq a a' && Nat.beq b b' && Nat.beq c c' && Nat.beq d d' && decide (e = e')
  | .nils, .nils => true
  | .map a, .map b => Nat.beq a b
  | .nilm, .nilm => true
  | .func a b c, .func a' b' c' => Nat.beq a a' && avsEq b b' && avsEq c c'
  | .yield a, .yield b => Nat.beq a b
  | .nilf, .nilf => true
  | .agg a, .agg b => avsEq a b
  | .tup a, .tup b => avsEq a b
  | .iface a b, .iface a' b' => Nat.beq a a' && avEq b b'
  | .nili, .nili => true
  | .sym a, .sym b => Nat.beq a b
  | .gptr a b, .gptr a' b' => Nat.beq a a' && Nat.beq b b'
  | .emp, .emp => true
  | _, _ => false
def avsEq : List AV → List AV → Bool
  | [], [] => true
  | a :: l, b :: l' => avEq a b && avsEq l l'
  | _, _ => false
end
mutual
theorem avEq_ok : ∀ {a b : AV}, avEq a b = true → a = b
  | .bool a, b, h => by cases b <;> simp [avEq] at h ⊢; exact h
  | .int k n, b, h => by cases b <;> simp [avEq] at h ⊢; exact h
  | .str s, b, h => by cases b <;> simp [avEq, lexEq_ok] at h ⊢; exact h
  | .ptr i o, b, h => by cases b <;> simp [avEq] at h ⊢; exact h
  | .nilp, b, h => by cases b <;> simp [avEq] at h ⊢
  | .slice .., b, h => by cases b <;> simp [avEq] at h ⊢; exact ⟨h.1.1.1.1, h.1.1.1.2, h.1.1.2, h.1.2, h.2⟩
  | .nils, b, h => by cases b <;> simp [avEq] at h ⊢
  | .map i, b, h => by cases b <;> simp [avEq] at h ⊢; exact h
  | .nilm, b, h => by cases b <;> simp [avEq] at h ⊢
  | .func f x y, b, h => by
    cases b <;> simp [avEq] at h ⊢
    exact ⟨h.1.1, avsEq_ok h.1.2, avsEq_ok h.2⟩
  | .yield i, b, h => by cases b <;> simp [avEq] at h ⊢; exact h
  | .nilf, b, h => by cases b <;> simp [avEq] at h ⊢
  | .agg l, b, h => by cases b <;> simp [avEq] at h ⊢; exact avsEq_ok h
  | .tup l, b, h => by cases b <;> simp [avEq] at h ⊢; exact avsEq_ok h
  | .iface t a, b, h => by
    cases b <;> simp [avEq] at h ⊢
    exact ⟨h.1, avEq_ok h.2⟩
  | .nili, b, h => by cases b <;> simp [avEq] at h ⊢
  | .sym i, b, h => by cases b <;> simp [avEq] at h ⊢; exact h
  | .gptr i o, b, h => by cases b <;> simp [avEq] at h ⊢; exact h
  | .emp, b, h => by cases b <;> simp [avEq] at h ⊢
theorem avsEq_ok : ∀ {a b : List AV}, avsEq a b = true → a = b
  | [], [], _ => rfl
  | [], _ :: _, h => by simp [avsEq] at h
  | _ :: _, [], h => by simp [avsEq] at h
  | a :: l, b :: l', h => by
    simp only [avsEq, Bool.and_eq_true] at h
    rw [avEq_ok h.1, avsEq_ok h.2]
end


/-- a part of a struct -/
def partA (X : Tr TI) (t : TypeId) (l : List AV) (ofs : Nat) : Option AV :=
  match X.get t with
  | some ti => bif ti.agg then (bif Nat.ble (ofs + ti.size) l.length then some (.agg ((l.drop ofs).take ti.size)) else none) else l[ofs]?
  | none => none
def eqFs (f : TypeId → AV → AV → Option Bool) (X : Tr TI) (l m : List AV) : List Field → Option Bool
  | [] => some true
  | fd :: fs => match partA X fd.type l fd.offset with
    | some a => match partA X fd.type m fd.offset with
      | some b => match f fd.type a b with
        | some true => eqFs f X l m fs
        | some false => some false
        | none => none
      | none => none
    | none => none
def eqT (X : Tr TI) : Nat → TypeId → AV → AV → Option Bool
  | 0, _, _, _ => none
  | d + 1, t, a, b => match X.get t with
    | none => none
    | some ti => match ti.und, a, b with
      | .bool, .bool x, .bool y => some (x == y)
      | .int _, .int k x, .int k' y => bif decide (k = k') then some (x == y) else none
      | .string, .str x, .str y => some (lexEq x y)
      | .pointer E, .ptr i o, .ptr j q => match X.get E with
        | some ei => bif Nat.beq i j && !Nat.beq ei.size 0 then some (Nat.beq o q) else none
        | none => none
      | .struct fs, .agg l, .agg m => bif ti.eqs then eqFs (eqT X d) X l m fs.toList else none
      | _, _, _ => none

variable {P : Program} {X : Tr TI} {M : Nm}
theorem part_ok (hX : Types P X) {t : TypeId} {l : List AV} {vs : List Value} {ofs : Nat} {a : AV} (hl : VRs M l vs) (h : partA X t l ofs = some a) : ∃ v, VR M a v ∧ ∀ w, (part t vs.toArray ofs).run P w = .ok v w := by
  unfold partA at h
  split at h
  · rename_i ti hti
    have hag := (hX _ _ hti).agg
    cases hz : ti.agg with
    | true =>
      rw [hz] at h hag
      simp only [cond_true] at h
      cases hb : Nat.ble (ofs + ti.size) l.length with
      | false => rw [hb] at h; cases h
      | true =>
        rw [hb] at h; cases h
        refine ⟨.agg ((vs.drop ofs).take ti.size).toArray, by simp only [VR]; exact ⟨_, VRs.take _ (VRs.drop _ hl), rfl⟩, fun w => ?_⟩
        simp only [part, Sem.run_bind, hag, Result.andThen, if_true, (hX _ _ hti).size, hpure]
        congr 2
        apply Array.ext'
        simp
    | false =>
      rw [hz] at h hag
      obtain ⟨v, h1, h2⟩ := hl.get h
      refine ⟨v, h2, fun w => ?_⟩
      simp only [part, Sem.run_bind, hag, Result.andThen, Bool.false_eq_true, if_false, List.getElem?_toArray, h1, hpure]
  · cases h

theorem fields_of {t : TypeId} {fs : Array Field} (h : P.underlying t = some (.struct fs)) : P.fieldsOf t = fs := by
  simp [Program.fieldsOf, h]

theorem eqT_ok (hX : Types P X) : ∀ (d : Nat) {t : TypeId} {a b : AV} {q : Bool}, eqT X d t a b = some q → ∀ {va vb : Value}, VR M a va → VR M b vb → ∀ (k : Nat) (w : World), (Op.equalIn (d + k) t va vb).run P w = .ok q w
  | 0, _, _, _, _, h => by cases h
  | d + 1, t, a, b, q, h => by
    intro ha hb k w
    rw [show d + 1 + k = (d + k) + 1 by omega]
    simp only [eqT] at h
    split at h
    · cases h
    · rename_i ti hti
      have hT := hX _ _ hti
      have hu := hT.und
      split at h
      · rename_i x y hd
        simp only [VR] at ha hb
        subst ha; subst hb; cases h
        rw [hd] at hu
        exact run_equalIn_bool' w _ t x y hu
      · rename_i kk k1 x k2 y hd
        simp only [VR] at ha hb
        subst ha; subst hb
        rw [hd] at hu
        by_cases hk : k1 = k2
        · subst hk
          simp only [decide_true, cond_true, Option.some.injEq] at h; subst h
          exact run_equalIn_int w _ t _ _ _ _ hu
        · simp [hk] at h
      · rename_i x y hd
        simp only [VR] at ha hb
        obtain ⟨ha, hxa⟩ := ha
        obtain ⟨hb, hyb⟩ := hb
        subst ha; subst hb; cases h
        rw [hd] at hu
        rw [run_equalIn_string w _ t _ _ hu, ba_lst]
        congr 1
        rw [lexEq_ok]
        exact decide_eq_decide.2 (strOf_inj (blt256 hxa) (blt256 hyb))
      · rename_i E i o j p hd
        split at h
        · rename_i ei hei
          generalize hcnd : (Nat.beq i j && !Nat.beq ei.size 0) = cnd at h
          cases cnd with
          | false => cases h
          | true =>
            cases h
            simp only [Bool.and_eq_true] at hcnd
            obtain rfl := Nat.eq_of_beq_eq_true hcnd.1
            have hz : ei.size ≠ 0 := by intro h0; rw [h0] at hcnd; simp at hcnd
            simp only [VR] at ha hb
            obtain ⟨B, hB, rfl⟩ := ha
            obtain ⟨B', hB', rfl⟩ := hb
            rw [hB] at hB'; cases hB'
            rw [hd] at hu
            simp only [Op.equalIn, Sem.run_bind, run_underlying hu, Result.andThen, (hX _ _ hei).size, hpure, ne_eq, hz, not_false_eq_true, if_true, sameAddr, beq_self_eq_true]
            congr 1
            cases hq : Nat.beq o p with
            | true => obtain rfl := Nat.eq_of_beq_eq_true hq; simp
            | false =>
              have : o ≠ p := by rintro rfl; simp at hq
              simp
        · cases h
      · rename_i fs l m hd
        cases he : ti.eqs with
        | false => rw [he] at h; cases h
        | true =>
          rw [he] at h
          simp only [cond_true] at h
          rw [hd] at hu
          obtain ⟨e1, e2, e3⟩ := hT.eqs he
          have hn := e3 fs hd
          simp only [VR] at ha hb
          obtain ⟨vs, hvs, rfl⟩ := ha
          obtain ⟨us, hus, rfl⟩ := hb
          have hf := fields_of hu
          rw [run_equalIn_struct w (d + k) t _ _ (by rw [hf]; exact hu) e1, hf]
          revert h hn
          generalize fs.toList = fl
          intro h hn
          induction fl with
          | nil => simp only [eqFs, Option.some.injEq] at h; subst h; simp [Op.eqFields]
          | cons f fl ih =>
            simp only [eqFs] at h
            split at h
            · rename_i a ha
              split at h
              · rename_i b hb
                obtain ⟨pa, p1, p2⟩ := part_ok hX hvs ha
                obtain ⟨pb, p3, p4⟩ := part_ok hX hus hb
                have hne := hn f (by simp)
                simp only [Op.eqFields, ne_eq, hne, not_false_eq_true, if_true, Sem.run_bind, p2, p4, Result.andThen]
                split at h
                · rename_i hq
                  simp only [eqT_ok hX d hq p1 p3 k]
                  simpa using ih h (fun g hg => hn g (List.mem_cons_of_mem _ hg))
                · rename_i hq
                  cases h
                  simp only [eqT_ok hX d hq p1 p3 k]
                  simp
                · cases h
              · cases h
            · cases h
      · cases h

/-- may it be a key? -/
def ckFs (f : TypeId → AV → Bool) (X : Tr TI) (l : List AV) : List Field → Bool
  | [] => true
  | fd :: fs => match partA X fd.type l fd.offset with
    | some a => f fd.type a && ckFs f X l fs
    | none => false
def ckT (X : Tr TI) : Nat → TypeId → AV → Bool
  | 0, _, _ => false
  | d + 1, t, a => match X.get t with
    | none => false
    | some ti => match ti.und, a with
      | .struct fs, .agg l => ti.eqs && ckFs (ckT X d) X l fs.toList
      | .string, .str _ => true
      | .int _, .int _ _ => true
      | .bool, .bool _ => true
      | .pointer _, .ptr _ _ => true
      | _, _ => false
theorem ckT_ok (hX : Types P X) (q : Bool) : ∀ (d : Nat) {t : TypeId} {a : AV}, ckT X d t a = true → ∀ {va : Value}, VR M a va → ∀ (k : Nat) (w : World), (Instr.checkKey q (d + k) t va).run P w = .ok () w
  | 0, _, _, h => by cases h
  | d + 1, t, a, h => by
    intro ha k w
    rw [show d + 1 + k = (d + k) + 1 by omega]
    simp only [ckT] at h
    split at h
    · cases h
    · rename_i ti hti
      have hT := hX _ _ hti
      have hu := hT.und
      split at h
      · rename_i fs l hd
        simp only [Bool.and_eq_true] at h
        obtain ⟨he, h⟩ := h
        rw [hd] at hu
        have hn := (hT.eqs he).2.2 fs hd
        simp only [VR] at ha
        obtain ⟨vs, hvs, rfl⟩ := ha
        simp only [Instr.checkKey, Sem.run_bind, run_underlying hu, Result.andThen]
        rw [← Array.forIn_toList]
        revert h hn
        generalize fs.toList = fl
        intro h hn
        induction fl with
        | nil => simp
        | cons f fl ih =>
          simp only [ckFs] at h
          split at h
          · rename_i b hb
            simp only [Bool.and_eq_true] at h
            obtain ⟨p, p1, p2⟩ := part_ok hX hvs hb
            have hne := hn f (by simp)
            have ih := ih h.2 (fun g hg => hn g (List.mem_cons_of_mem _ hg))
            simp only [List.forIn_cons, ne_eq, hne, not_false_eq_true, if_true, Sem.run_bind, p2, Result.andThen, ckT_ok hX q d h.1 p1 k, hpure] at ih ⊢
            exact ih
          · cases h
      · rename_i s hd
        simp only [VR] at ha
        obtain ⟨rfl, _⟩ := ha
        rw [hd] at hu
        simp [Instr.checkKey, Sem.run_bind, run_underlying hu, Result.andThen]
      · rename_i kk k1 n hd
        simp only [VR] at ha
        subst ha
        rw [hd] at hu
        simp [Instr.checkKey, Sem.run_bind, run_underlying hu, Result.andThen]
      · rename_i b hd
        simp only [VR] at ha
        subst ha
        rw [hd] at hu
        simp [Instr.checkKey, Sem.run_bind, run_underlying hu, Result.andThen]
      · rename_i E i o hd
        simp only [VR] at ha
        obtain ⟨B, _, rfl⟩ := ha
        rw [hd] at hu
        simp [Instr.checkKey, Sem.run_bind, run_underlying hu, Result.andThen]
      · cases h

def isPtr : TypeDesc → Bool
  | .pointer _ => true
  | _ => false
/-- == of structs and of pointers into one block -/
def eqA (X : Tr TI) (ae : List (Nat × AV)) (op : Op) : Option AV :=
  match op with
  | .binOp op t x y _ => match opnd ae x with
    | some a => match opnd ae y with
      | some b => match a, b with
        | .agg _, .agg _ => go X op t a b
        | .ptr _ _, .ptr _ _ => go X op t a b
        | _, _ => none
      | none => none
    | none => none
  | _ => none
 where go (X : Tr TI) (op : BinOp) (t : TypeId) (a b : AV) : Option AV :=
  match X.get t with
  | some ti => bif ti.eqs || isPtr ti.und then (match eqT X 20 t a b with
    | some q => match op with
      | .eql => some (.bool q)
      | .neq => some (.bool (!q))
      | _ => none
    | none => none) else none
  | none => none
theorem eqA_ok (hX : Types P X) {ae : List (Nat × AV)} {e : Env} {o : Oper} (he : EnvR M ae e) {a : AV} (h : eqA X ae o.op = some a) : ∃ v, VR M a v ∧ ∀ w, (execOp (Sl.ev e) o).run P w = .ok (.value v) w := by
  unfold eqA at h
  split at h
  · rename_i op t x y u ho
    split at h
    · rename_i a' ha
      split at h
      · rename_i b' hb
        have ha' := opnd_ok he ha
        have hb' := opnd_ok he hb
        have hq : ∃ q, eqT X 20 t a' b' = some q ∧ (op = .eql ∧ a = .bool q ∨ op = .neq ∧ a = .bool (!q)) ∧ ∃ ti, X.get t = some ti ∧ (ti.eqs || isPtr ti.und) = true := by
          have key : eqA.go X op t a' b' = some a → ∃ q, eqT X 20 t a' b' = some q ∧ (op = .eql ∧ a = .bool q ∨ op = .neq ∧ a = .bool (!q)) ∧ ∃ ti, X.get t = some ti ∧ (ti.eqs || isPtr ti.und) = true := by
            intro h
            unfold eqA.go at h
            split at h
            · rename_i ti hti
              cases hc : (ti.eqs || isPtr ti.und) with
              | false => rw [hc] at h; cases h
              | true =>
                rw [hc] at h
                simp only [cond_true] at h
                split at h
                · rename_i q hq
                  split at h
                  · cases h; exact ⟨q, hq, .inl ⟨rfl, rfl⟩, ti, hti, hc⟩
                  · cases h; exact ⟨q, hq, .inr ⟨rfl, rfl⟩, ti, hti, hc⟩
                  · cases h
                · cases h
            · cases h
          split at h
          · exact key h
          · exact key h
          · cases h
        obtain ⟨q, hq, hop, ti, hti, hc⟩ := hq
        have heq : ∀ w, (Op.equal t (Sl.ev e x) (Sl.ev e y)).run P w = .ok q w := fun w => eqT_ok hX 20 hq ha' hb' 9980 w
        have hT := hX _ _ hti
        -- the two shapes
        have hshape : (∃ l m, a' = .agg l ∧ b' = .agg m) ∨ (∃ i o j p, a' = .ptr i o ∧ b' = .ptr j p) := by
          split at h
          · exact .inl ⟨_, _, rfl, rfl⟩
          · exact .inr ⟨_, _, _, _, rfl, rfl⟩
          · cases h
        rcases hshape with ⟨l, m, rfl, rfl⟩ | ⟨i, p, j, r, rfl, rfl⟩
        · simp only [VR] at ha' hb'
          obtain ⟨vs, _, hv⟩ := ha'
          obtain ⟨us, _, hu⟩ := hb'
          have hes : ti.eqs = true := by
            simp only [eqT, hti] at hq
            split at hq <;> first | (simp at *; done) | skip
            all_goals first | (cases hes : ti.eqs <;> simp [hes] at hq ⊢; done) | (cases hq; done) | skip
          obtain ⟨e1, e2, _⟩ := hT.eqs hes
          have hg := fun w => run_eqGuard_agg (P := P) w op t x y vs.toArray us.toArray e2
          rw [hv, hu] at heq
          rcases hop with ⟨rfl, rfl⟩ | ⟨rfl, rfl⟩
          · refine ⟨_, vrb M _, fun w => ?_⟩
            simp only [execOp, ho, hv, hu, Sem.run_bind, hg, Result.andThen, run_eql_struct]
            have := heq w
            simp only [Op.equal, Op.maxDepth] at this
            simp only [this, hpure]
          · refine ⟨_, vrb M _, fun w => ?_⟩
            simp only [execOp, ho, hv, hu, Sem.run_bind, hg, Result.andThen, run_neq_struct]
            have := heq w
            simp only [Op.equal, Op.maxDepth] at this
            simp only [this, hpure]
        · simp only [VR] at ha' hb'
          obtain ⟨B, _, hv⟩ := ha'
          obtain ⟨B', _, hu⟩ := hb'
          rw [hv, hu] at heq
          rcases hop with ⟨rfl, rfl⟩ | ⟨rfl, rfl⟩
          · exact ⟨_, vrb M _, fun w => r_eq ho hv hu (by simp) (by simp) rfl (heq w)⟩
          · exact ⟨_, vrb M _, fun w => r_ne ho hv hu (by simp) (by simp) rfl (heq w)⟩
      · cases h
    · cases h
  · cases h

/-- is an interface value nil? -/
def isNilA (X : Tr TI) (ae : List (Nat × AV)) (op : Op) : Option AV :=
  match op with
  | .binOp op t x (.const .nilIface) _ => match opnd ae x with
    | some a => match X.get t with
      | some ti => match ti.und with
        | .interface _ => match a with
          | .nili => match op with
            | .eql => some (.bool true)
            | .neq => some (.bool false)
            | _ => none
          | .iface _ _ => match op with
            | .eql => some (.bool false)
            | .neq => some (.bool true)
            | _ => none
          | _ => none
        | _ => none
      | none => none
    | none => none
  | _ => none
theorem isNilA_ok (hX : Types P X) {ae : List (Nat × AV)} {e : Env} {o : Oper} (he : EnvR M ae e) {a : AV} (h : isNilA X ae o.op = some a) : ∃ v, VR M a v ∧ ∀ w, (execOp (Sl.ev e) o).run P w = .ok (.value v) w := by
  unfold isNilA at h
  split at h
  · rename_i op t x u ho
    split at h
    · rename_i a' ha
      have ha' := opnd_ok he ha
      split at h
      · rename_i ti hti
        have hu := (hX _ _ hti).und
        split at h
        · rename_i ms hd
          rw [hd] at hu
          have hc : Sl.ev e (.const .nilIface) = .nilIface := rfl
          split at h
          · simp only [VR] at ha'
            have heq : ∀ w, (Op.equal t .nilIface .nilIface).run P w = .ok true w := fun w => eq1 (fun n => by simp [Op.equalIn, Sem.run_bind, run_underlying hu, Result.andThen])
            have hg : ∀ (op : BinOp) (w : World), (eqGuard op t x (.const .nilIface) .nilIface .nilIface).run P w = .ok () w := fun op w => by
              cases op <;> simp [eqGuard]
            split at h
            · cases h
              refine ⟨_, vrb M _, fun w => ?_⟩
              have hb : binOp .eql t .nilIface .nilIface = (do pure (.bool (← Op.equal t .nilIface .nilIface))) := rfl
              simp only [execOp, ho, ha', hc, Sem.run_bind, hg, Result.andThen, hb, heq, hpure]
            · cases h
              refine ⟨_, vrb M _, fun w => ?_⟩
              have hb : binOp .neq t .nilIface .nilIface = (do pure (.bool (!(← Op.equal t .nilIface .nilIface)))) := rfl
              simp only [execOp, ho, ha', hc, Sem.run_bind, hg, Result.andThen, hb, heq, hpure]
              rfl
            · cases h
          · rename_i t' a2
            simp only [VR] at ha'
            obtain ⟨v, _, hv⟩ := ha'
            have heq : ∀ w, (Op.equal t (.iface t' v) .nilIface).run P w = .ok false w := fun w => eq1 (fun n => by simp [Op.equalIn, Sem.run_bind, run_underlying hu, Result.andThen])
            split at h
            · cases h; exact ⟨_, vrb M _, fun w => r_eq ho hv hc (by simp) (by simp) rfl (heq w)⟩
            · cases h; exact ⟨_, vrb M _, fun w => r_ne ho hv hc (by simp) (by simp) rfl (heq w)⟩
            · cases h
          · cases h
        · cases h
      · cases h
    · cases h
  · cases h

/-- slices of nothing, wherever they begin -/
def empA (X : Tr TI) (ae : List (Nat × AV)) (op : Op) : Option AV :=
  match op with
  | .slice t x lo hi none => match opnd ae x with
    | some (.slice _ _ m n none) => match optI ae 0 lo with
      | some l => match optI ae n hi with
        | some h => match X.get t with
          | some ti => match ti.und with
            | .slice E => match X.get E with
              | some ei => bif Nat.beq ei.size m && Nat.beq l n && Nat.beq h n then some .emp else none
              | none => none
            | _ => none
          | none => none
        | none => none
      | none => none
    | some .emp => match optI ae 0 lo with
      | some 0 => match optI ae 0 hi with
        | some 0 => match X.get t with
          | some ti => match ti.und with
            | .slice E => match X.get E with
              | some _ => some .emp
              | none => none
            | _ => none
          | none => none
        | _ => none
      | _ => none
    | _ => none
  | .call ⟨.builtin .len, xs, ts⟩ => match xs.toList with
    | [x] => match opnd ae x with
      | some .emp => pureA.lenA X ts (.int .i64 (.ofNat 0)) false
      | _ => none
    | _ => none
  | .binOp op t x (.const (.slice none 0 0)) _ => match opnd ae x with
    | some .emp => match X.get t with
      | some ti => match ti.und with
        | .slice _ => match op with
          | .eql => some (.bool false)
          | .neq => some (.bool true)
          | _ => none
        | _ => none
      | none => none
    | _ => none
  | _ => none
theorem empA_ok (hX : Types P X) {ae : List (Nat × AV)} {e : Env} {o : Oper} (he : EnvR M ae e) {a : AV} (h : empA X ae o.op = some a) : ∃ v, VR M a v ∧ ∀ w, (execOp (Sl.ev e) o).run P w = .ok (.value v) w := by
  unfold empA at h
  split at h
  · rename_i t x lo hi ho
    split at h
    · rename_i i ofs m n hx
      have hx' := opnd_ok he hx
      simp only [VR] at hx'
      obtain ⟨B, c', hB, hv, hnc, hsz, _⟩ := hx'
      split at h
      · rename_i l hl
        split at h
        · rename_i hh hhh
          split at h
          · rename_i ti hti
            split at h
            · rename_i E hE
              split at h
              · rename_i ei hei
                generalize hcnd : (Nat.beq ei.size m && Nat.beq l n && Nat.beq hh n) = cnd at h
                cases cnd with
                | false => cases h
                | true =>
                  cases h
                  simp only [Bool.and_eq_true] at hcnd
                  obtain ⟨⟨q1, q2⟩, q3⟩ := hcnd
                  have q2 := Nat.eq_of_beq_eq_true q2
                  have q3 := Nat.eq_of_beq_eq_true q3
                  rw [q2] at hl
                  rw [q3] at hhh
                  obtain ⟨a', ha'⟩ : ∃ a', (if c' = n then some (⟨B.b, B.base + ofs, none⟩ : Addr) else (some (⟨B.b, B.base + ofs, none⟩ : Addr)).map (·.add (n * ei.size))) = some a' := by
                    split
                    · exact ⟨_, rfl⟩
                    · exact ⟨_, rfl⟩
                  refine ⟨.slice (some a') (n - n) (c' - n), by simp only [VR, Nat.sub_self]; exact ⟨_, _, rfl⟩, fun w => ?_⟩
                  exact r_slice ho (by rw [← hE]; exact (hX _ _ hti).und) (hX _ _ hei).size hv (by have := optI_ok he hl; cases lo <;> exact this) (by have := optI_ok he hhh; cases hi <;> exact this) (Nat.le_refl _) hnc ha'
              · cases h
            · cases h
          · cases h
        · cases h
      · cases h
    · rename_i hx
      have hx' := opnd_ok he hx
      simp only [VR] at hx'
      obtain ⟨ad, c', hv⟩ := hx'
      split at h
      · rename_i hl
        split at h
        · rename_i hhh
          split at h
          · rename_i ti hti
            split at h
            · rename_i E hE
              split at h
              · rename_i ei hei
                cases h
                obtain ⟨a', ha'⟩ : ∃ a', (if c' = 0 then some ad else (some ad).map (·.add (0 * ei.size))) = some a' := by
                  split
                  · exact ⟨_, rfl⟩
                  · exact ⟨_, rfl⟩
                refine ⟨.slice (some a') (0 - 0) (c' - 0), by simp only [VR]; exact ⟨_, _, rfl⟩, fun w => ?_⟩
                exact r_slice ho (by rw [← hE]; exact (hX _ _ hti).und) (hX _ _ hei).size hv (by have := optI_ok he hl; cases lo <;> exact this) (by have := optI_ok he hhh; cases hi <;> exact this) (Nat.le_refl _) (Nat.zero_le _) ha'
              · cases h
            · cases h
          · cases h
        · cases h
      · cases h
    · cases h
  · rename_i xs ts ho
    split at h
    · rename_i x hxs
      have ho' : o.op = .call ⟨.builtin .len, #[x], ts⟩ := by rw [ho]; congr 2; exact Array.ext' hxs
      split at h
      · rename_i hx
        have hx' := opnd_ok he hx
        simp only [VR] at hx'
        obtain ⟨ad, c', hv⟩ := hx'
        obtain ⟨rfl, t, h0, ht⟩ := lenA_ok hX h
        obtain ⟨E, ht⟩ := (by simpa using ht : ∃ E, P.underlying t = some (.slice E))
        exact ⟨_, vri M _ _, fun w => r_lens ho' h0 ht hv⟩
      · cases h
    · cases h
  · rename_i op t x u ho
    split at h
    · rename_i hx
      have hx' := opnd_ok he hx
      simp only [VR] at hx'
      obtain ⟨ad, c', hv⟩ := hx'
      split at h
      · rename_i ti hti
        split at h
        · rename_i E hd
          have hu := (hX _ _ hti).und
          rw [hd] at hu
          split at h
          · cases h; exact ⟨_, vrb M _, fun w => r_leqn ho hu hv rfl⟩
          · cases h; exact ⟨_, vrb M _, fun w => r_lnen ho hu hv rfl⟩
          · cases h
        · cases h
      · cases h
    · cases h
  · cases h
end
end Go.Ev
/- General words for running code of which all is known: maps. No program. -/
namespace Go.Ev
open Go Go.Sl
noncomputable section
variable {P : Program} {X : Tr TI} {M : Nm} {ae : List (Nat × AV)} {e : Env} {o : Oper} {x y z : Operand} {t u : TypeId} {w : World} {L : List HP} {s : St} {K : Value → World → Prop}

/-- values that say all -/
def detA : AV → Bool
  | .bool _ => true
  | .int _ _ => true
  | .str _ => true
  | .ptr _ _ => true
  | .agg l => l.all det1
  | _ => false
 where det1 : AV → Bool
  | .bool _ => true
  | .int _ _ => true
  | .str _ => true
  | .ptr _ _ => true
  | _ => false
theorem det1_ok {a : AV} (h : detA.det1 a = true) {v v' : Value} (hv : VR M a v) (hv' : VR M a v') : v = v' ∧ ∀ n, Instr.sameBits n v v = true := by
  cases a <;> simp only [detA.det1, Bool.false_eq_true] at h <;> simp only [VR] at hv hv'
  · subst hv; subst hv'; exact ⟨rfl, fun n => by cases n <;> simp [Instr.sameBits]⟩
  · subst hv; subst hv'; exact ⟨rfl, fun n => by cases n <;> simp [Instr.sameBits]⟩
  · rw [hv.1, hv'.1]; exact ⟨rfl, fun n => by cases n <;> simp [Instr.sameBits, ba_beq]⟩
  · obtain ⟨B, hB, rfl⟩ := hv
    obtain ⟨B', hB', rfl⟩ := hv'
    rw [hB] at hB'; cases hB'
    exact ⟨rfl, fun n => by cases n <;> simp [Instr.sameBits]⟩
theorem det_ok {a : AV} (h : detA a = true) {v v' : Value} (hv : VR M a v) (hv' : VR M a v') : v = v' ∧ Instr.sameBits 10000 v v = true := by
  cases a with
  | agg l =>
    simp only [VR] at hv hv'
    obtain ⟨vs, h1, rfl⟩ := hv
    obtain ⟨us, h2, rfl⟩ := hv'
    have h : l.all detA.det1 = true := h
    have key : ∀ {l : List AV} {vs us : List Value}, l.all detA.det1 = true → VRs M l vs → VRs M l us → vs = us ∧ ∀ n, (vs.zip vs).all (fun (x, y) => Instr.sameBits n x y) = true := by
      intro l
      induction l with
      | nil => intro vs us _ h1 h2; simp only [VRs] at h1 h2; subst h1; subst h2; exact ⟨rfl, fun _ => rfl⟩
      | cons a l ih =>
        intro vs us h h1 h2
        simp only [VRs] at h1 h2
        obtain ⟨v, vs', rfl, e1, e2⟩ := h1
        obtain ⟨u, us', rfl, e3, e4⟩ := h2
        simp only [List.all_cons, Bool.and_eq_true] at h
        obtain ⟨rfl, hs⟩ := det1_ok h.1 e1 e3
        obtain ⟨rfl, hs'⟩ := ih h.2 e2 e4
        exact ⟨rfl, fun n => by simp only [List.zip_cons_cons, List.all_cons, hs n, hs' n]; rfl⟩
    obtain ⟨rfl, hs⟩ := key h h1 h2
    refine ⟨rfl, ?_⟩
    have : ∀ n, Instr.sameBits (n + 1) (.agg vs.toArray) (.agg vs.toArray) = true := fun n => by
      simp only [Instr.sameBits, beq_self_eq_true, Bool.true_and]
      exact hs n
    exact this 9999
  | bool b => exact (det1_ok (a := .bool b) rfl hv hv').imp id fun q => q _
  | int k n => exact (det1_ok (a := .int k n) rfl hv hv').imp id fun q => q _
  | str l => exact (det1_ok (a := .str l) rfl hv hv').imp id fun q => q _
  | ptr i o => exact (det1_ok (a := .ptr i o) rfl hv hv').imp id fun q => q _
  | _ => cases h

/-- where a key stands -/
def findA (X : Tr TI) (T : TypeId) (k : AV) : List (AV × AV × Nat) → Nat → Option (Option (Nat × AV))
  | [], _ => some none
  | p :: m, i => match eqT X 20 T k p.1 with
    | some true => bif avEq k p.1 then some (some (i, p.2.1)) else none
    | some false => findA X T k m (i + 1)
    | none => none
theorem findA_ok (hX : Types P X) {T : TypeId} {k : AV} {kv : Value} (hk : VR M k kv) : ∀ {m : List (AV × AV × Nat)} {es : List MapEntry} {i : Nat} {r : Option (Nat × AV)}, MR M m es → findA X T k m i = some r →
    match r with
    | none => ∀ w, (Instr.findAsking T kv es i).run P w = .ok none w
    | some (j, a) => ∃ v e, (∀ w, (Instr.findAsking T kv es i).run P w = .ok (some (j, v)) w) ∧ VR M a v ∧ i ≤ j ∧ es[j - i]? = some e ∧ VR M k e.key ∧ e.val = v
  | [], es, i, r, hm, h => by
    simp only [MR] at hm; subst hm
    simp only [findA, Option.some.injEq] at h; subst h
    intro w; simp [Instr.findAsking]
  | p :: m, es, i, r, hm, h => by
    obtain ⟨en, l, rfl, h1, h2, h3, h4⟩ := hm
    simp only [findA] at h
    split at h
    · rename_i hq
      cases hav : avEq k p.1 with
      | false => rw [hav] at h; cases h
      | true =>
        rw [hav] at h; cases h
        refine ⟨en.val, en, fun w => ?_, h2, Nat.le_refl _, by simp, by rw [avEq_ok hav]; exact h1, rfl⟩
        have := eqT_ok hX 20 hq hk h1 9980 w
        simp only [Instr.findAsking, Sem.run_bind, Op.equal, Op.maxDepth, this, Result.andThen, if_true, hpure]
    · rename_i hq
      have ih := findA_ok hX hk h4 h
      have he := fun w => eqT_ok hX 20 hq hk h1 9980 w
      cases r with
      | none =>
        intro w
        have := he w
        simp only [Instr.findAsking, Sem.run_bind, Op.equal, Op.maxDepth, this, Result.andThen, Bool.false_eq_true, if_false]
        exact ih w
      | some ja =>
        obtain ⟨j, a⟩ := ja
        obtain ⟨v, e', e1, e2, e3, e4, e5⟩ := ih
        refine ⟨v, e', fun w => ?_, e2, by omega, by rw [show j - i = (j - (i + 1)) + 1 by omega]; simpa using e4, e5⟩
        have := he w
        simp only [Instr.findAsking, Sem.run_bind, Op.equal, Op.maxDepth, this, Result.andThen, Bool.false_eq_true, if_false]
        exact e1 w
    · cases h

theorem same_asks {T : TypeId} {D : TypeDesc} (hD : P.underlying T = some D) {a b : Value} {q : Bool} (h : Instr.sameNow D a b = some q) (w : World) : (Op.equal T a b).run P w = .ok q w := by
  unfold Instr.sameNow at h
  split at h
  · split at h
    · rename_i hk; subst hk; cases h; exact run_equalIn_int w 9999 T _ _ _ _ hD
    · cases h
  · cases h
    rename_i a b
    have := run_equalIn_string w 9999 T a b hD
    rw [ba_lst] at this
    simp only [Op.equal, Op.maxDepth, this]
    rw [ba_beq]
  · cases h; exact run_equalIn_bool' w 9999 T _ _ hD
  · cases h
theorem now_asks {T : TypeId} {D : TypeDesc} (hD : P.underlying T = some D) {k : Value} : ∀ {es : List MapEntry} {i : Nat} {r : Option (Nat × Value)}, Instr.findNow D k es i = some r → ∀ w, (Instr.findAsking T k es i).run P w = .ok r w
  | [], i, r, h, w => by simp only [Instr.findNow, Option.some.injEq] at h; subst h; simp [Instr.findAsking]
  | e :: es, i, r, h, w => by
    simp only [Instr.findNow] at h
    split at h
    · rename_i hs
      cases h
      simp only [Instr.findAsking, Sem.run_bind, same_asks hD hs, Result.andThen, if_true, hpure]
    · rename_i hs
      simp only [Instr.findAsking, Sem.run_bind, same_asks hD hs, Result.andThen, Bool.false_eq_true, if_false]
      exact now_asks hD h w
    · cases h
theorem key_asks {T : TypeId} {D : TypeDesc} (hD : P.underlying T = some D) {k : Value} {es : List MapEntry} {r : Option (Nat × Value)} (h : ∀ w, (Instr.findAsking T k es 0).run P w = .ok r w) (w : World) : (Instr.findKey T k es).run P w = .ok r w := by
  simp only [Instr.findKey, Sem.run_bind, run_underlying hD, Result.andThen]
  cases hn : Instr.findNow D k es 0 with
  | none => exact h w
  | some r' =>
    have h1 := now_asks hD hn w
    rw [h w] at h1
    cases h1
    simp only [hpure]

/-- what the key's place says -/
def keyA (X : Tr TI) (h : Tr AObj) (t : TypeId) (a k : AV) : Option (Nat × Nat × List (AV × AV × Nat) × TypeId × Option (Nat × AV)) :=
  match a with
  | .map i => match h.get i with
    | some (.map ck m) => match X.get t with
      | some ti => match ti.und with
        | .map T E => bif ckT X 20 T k then (match findA X T k m 0 with
          | some r => some (i, ck, m, E, r)
          | none => none) else none
        | _ => none
      | none => none
    | _ => none
  | _ => none

/-- what a map holds -/
def lookA (X : Tr TI) (ae : List (Nat × AV)) (h : Tr AObj) (op : Op) : Option AV :=
  match op with
  | .lookup t x y ok => match opnd ae x with
    | some a => match opnd ae y with
      | some k => match keyA X h t a k with
        | some (_, _, _, E, r) => match r with
          | some (_, v) => some (bif ok then .tup [v, .bool true] else v)
          | none => match X.get E with
            | some ei => match absZ ei.zero with
              | some z => some (bif ok then .tup [z, .bool false] else z)
              | none => none
            | none => none
        | none => none
      | none => none
    | none => none
  | _ => none

theorem keyA_spec (hX : Types P X) {h : Tr AObj} {a k : AV} {i ck : Nat} {m : List (AV × AV × Nat)} {E : TypeId} {r : Option (Nat × AV)} (hk : keyA X h t a k = some (i, ck, m, E, r)) :
    a = .map i ∧ h.get i = some (.map ck m) ∧ ∃ T D, P.underlying t = some (.map T E) ∧ P.underlying T = some D ∧ ckT X 20 T k = true ∧ findA X T k m 0 = some r := by
  unfold keyA at hk
  split at hk
  · rename_i i'
    split at hk
    · rename_i ck' m' hm
      split at hk
      · rename_i ti hti
        split at hk
        · rename_i T E' hd
          cases hc : ckT X 20 T k with
          | false => rw [hc] at hk; cases hk
          | true =>
            rw [hc] at hk
            simp only [cond_true] at hk
            split at hk
            · rename_i r' hr
              cases hk
              have hD : ∃ D, P.underlying T = some D := by
                have hc := hc
                simp only [ckT] at hc
                split at hc
                · cases hc
                · rename_i ki hki; exact ⟨_, (hX _ _ hki).und⟩
              obtain ⟨D, hD⟩ := hD
              exact ⟨rfl, hm, T, D, by rw [← hd]; exact (hX _ _ hti).und, hD, hc, hr⟩
            · cases hk
        · cases hk
      · cases hk
    · cases hk
  · cases hk

theorem lookA_ok (hX : Types P X) (he : EnvR M ae e) (hI : Inv M s w L) {a : AV} (h : lookA X ae s.h o.op = some a) : ∃ v, VR M a v ∧ (execOp (Sl.ev e) o).run P w = .ok (.value v) w := by
  unfold lookA at h
  split at h
  · rename_i t x y ok ho
    split at h
    · rename_i a0 hx
      split at h
      · rename_i k hk
        have hx' := opnd_ok he hx
        have hk' := opnd_ok he hk
        split at h
        · rename_i i ck m E r hkey
          obtain ⟨rfl, hm, T, D, ht, hD, hc, hf⟩ := keyA_spec hX hkey
          simp only [VR] at hx'
          obtain ⟨B, hB, hv⟩ := hx'
          obtain ⟨B', q, hB', hO, hw⟩ := hI.blk hm
          rw [hB] at hB'; cases hB'
          obtain ⟨es, rfl, hmr⟩ := hO
          have hfk := findA_ok hX hk' hmr hf
          have hck := ckT_ok hX es.isEmpty 20 hc hk' 9980 w
          have hg : (getObj B.b).run P w = .ok (.map es ck) w := run_getObj hw
          split at h
          · rename_i j v
            cases h
            obtain ⟨vv, en, h1, h2, h3, h4, h5⟩ := hfk
            have hfk := key_asks hD h1 w
            refine ⟨if ok then .tuple #[vv, .bool true] else vv, ?_, ?_⟩
            · cases ok with
              | true => simp only [VR, cond_true, if_true]; exact ⟨[vv, .bool true], VRs.cons h2 (VRs.cons (vrb M true) VRs.nil), rfl⟩
              | false => simpa using h2
            · simp only [execOp, ho, hv, Instr.lookup, Sem.run_bind, run_underlying ht, Result.andThen, hg, hpure, hck, hfk]
          · split at h
            · rename_i ei hei
              split at h
              · rename_i z hz
                cases h
                have hfk := key_asks hD hfk w
                have hzv := absZ_ok hz M
                refine ⟨if ok then .tuple #[ei.zero, .bool false] else ei.zero, ?_, ?_⟩
                · cases ok with
                  | true => simp only [VR, cond_true, if_true]; exact ⟨[ei.zero, .bool false], VRs.cons hzv (VRs.cons (vrb M false) VRs.nil), rfl⟩
                  | false => simpa using hzv
                · simp only [execOp, ho, hv, Instr.lookup, Sem.run_bind, run_underlying ht, Result.andThen, hg, hpure, hck, hfk, (hX _ _ hei).zero]
              · cases h
            · cases h
        · cases h
      · cases h
    · cases h
  · cases h

/-! ### maps are written -/
def updA : List (AV × AV × Nat) → Nat → AV → AV → List (AV × AV × Nat)
  | [], _, _, _ => []
  | p :: m, 0, k, a => (k, a, p.2.2) :: m
  | p :: m, i + 1, k, a => p :: updA m i k a
theorem updA_ok {k a : AV} {kv v : Value} (hk : VR M k kv) (hv : VR M a v) : ∀ {m : List (AV × AV × Nat)} {es : List MapEntry} {i : Nat}, MR M m es → MR M (updA m i k a) (es.modify i fun e => { e with key := kv, val := v })
  | [], es, i, h => by simp only [MR] at h; subst h; cases i <;> simp [updA, MR]
  | p :: m, es, 0, h => by
    obtain ⟨en, l, rfl, h1, h2, h3, h4⟩ := h
    exact ⟨{ en with key := kv, val := v }, l, rfl, hk, hv, h3, h4⟩
  | p :: m, es, i + 1, h => by
    obtain ⟨en, l, rfl, h1, h2, h3, h4⟩ := h
    exact ⟨en, _, by simp [List.modify], h1, h2, h3, updA_ok hk hv h4⟩
theorem MR.snoc {k a : AV} {kv v : Value} {ck : Nat} (hk : VR M k kv) (hv : VR M a v) : ∀ {m : List (AV × AV × Nat)} {es : List MapEntry}, MR M m es → MR M (m ++ [(k, a, ck)]) (es ++ [⟨kv, v, ck⟩])
  | [], es, h => by simp only [MR] at h; subst h; exact ⟨_, [], rfl, hk, hv, rfl, rfl⟩
  | p :: m, es, h => by
    obtain ⟨en, l, rfl, h1, h2, h3, h4⟩ := h
    exact ⟨en, _, rfl, h1, h2, h3, h4.snoc hk hv⟩
theorem MR.del : ∀ {m : List (AV × AV × Nat)} {es : List MapEntry} (i : Nat), MR M m es → MR M (m.eraseIdx i) (es.eraseIdx i)
  | [], es, i, h => by simp only [MR] at h; subst h; simp [MR]
  | p :: m, es, 0, h => by
    obtain ⟨en, l, rfl, h1, h2, h3, h4⟩ := h
    simpa using h4
  | p :: m, es, i + 1, h => by
    obtain ⟨en, l, rfl, h1, h2, h3, h4⟩ := h
    exact ⟨en, _, by simp, h1, h2, h3, h4.del i⟩

def mapA (X : Tr TI) (ae : List (Nat × AV)) (s : St) (op : Op) : Option (AV × St) :=
  match op with
  | .mapUpdate t x y z => go t x y z
  | .insert t x y z => go t x y z
  | .call ⟨.builtin .delete, xs, ts⟩ => match xs.toList with
    | [x, y] => match ts[0]? with
      | some t => match opnd ae x with
        | some a => match opnd ae y with
          | some k => match keyA X s.h t a k with
            | some (i, ck, m, _, r) => match r with
              | some (j, _) => some (.tup [], ⟨s.h.put i (some (.map ck (m.eraseIdx j))), s.nx, s.k⟩)
              | none => some (.tup [], ⟨s.h.put i (some (.map ck m)), s.nx, s.k⟩)
            | none => none
          | none => none
        | none => none
      | none => none
    | _ => none
  | .range t x => match opnd ae x with
    | some a => match X.get t with
      | some ti => match ti.und, a with
        | .string, .str l => some (.ptr s.nx 0, ⟨s.h.put s.nx (some (.strIter l 0)), s.nx + 1, s.k⟩)
        | .map _ _, .nilm => some (.ptr s.nx 0, ⟨s.h.put s.nx (some (.mapIter none 0 [] 0)), s.nx + 1, s.k⟩)
        | .map _ _, .map i => match s.h.get i with
          | some (.map ck _) => some (.ptr s.nx 0, ⟨s.h.put s.nx (some (.mapIter (some i) ck [] ck)), s.nx + 1, s.k⟩)
          | _ => none
        | _, _ => none
      | none => none
    | none => none
  | .next x b => match opnd ae x with
    | some (.ptr j 0) => match s.h.get j, b with
      | some (.strIter l pos), true => bif Nat.blt pos l.length then (match l[pos]? with
        | some c => bif Nat.blt c 128 then some (.tup [.bool true, .int .i64 (.ofNat pos), .int .i32 (.ofNat c)], ⟨s.h.put j (some (.strIter l (pos + 1))), s.nx, s.k⟩) else none
        | none => none) else some (.tup [.bool false], s)
      | _, _ => none
    | _ => none
  | .entry x => match opnd ae x with
    | some (.ptr j 0) => match s.h.get j with
      | some (.mapIter (some i) _ seen last) => match s.h.get i with
        | some (.map ck m) => match seen.getLast? with
          | some st => bif Nat.beq ck last then (match m.find? (fun p => Nat.beq p.2.2 st) with
            | some p => some (.tup [p.1, p.2.1], s)
            | none => none) else none
          | none => none
        | _ => none
      | _ => none
    | _ => none
  | _ => none
 where go (t : TypeId) (x y z : Operand) : Option (AV × St) :=
  match opnd ae x with
  | some a => match opnd ae y with
    | some k => match opnd ae z with
      | some v => match keyA X s.h t a k with
        | some (i, ck, m, _, r) => match r with
          | some (j, _) => bif detA k then some (.tup [], ⟨s.h.put i (some (.map ck (updA m j k v))), s.nx, s.k⟩) else none
          | none => some (.tup [], ⟨s.h.put i (some (.map (ck + 1) (m ++ [(k, v, ck)]))), s.nx, s.k⟩)
        | none => none
      | none => none
    | none => none
  | none => none

theorem Inv.updb' (hI : Inv M s w L) {w' : World} {q q' : Obj} {i : Nat} {B : Blk} {aob : AObj} (hB : M.ρ i = some B) (hs : Sat w (obj B.b q :: hp M (s.h.put i none).get :: old s.k.W :: L)) (hw : w' = { w with heap := w.heap.setIfInBounds B.b q' }) (hO : OR M aob B q') : Inv M ⟨s.h.put i (some aob), s.nx, s.k⟩ w' L := by
  have hlt : B.b < w.heap.size := by
    have := hs.obj 0 rfl
    rcases Nat.lt_or_ge B.b w.heap.size with h' | h'
    · exact h'
    · rw [Array.getElem?_eq_none h'] at this; cases this
  have h1 := hs.write (w' := w') (o' := q') 0 rfl (by rw [hw]; simp [hlt]) (fun b hb => by rw [hw]; simp [Array.getElem?_setIfInBounds_ne (Ne.symm hb)]) (by rw [hw]) (by rw [hw]) (by rw [hw]; simp)
  simp only [List.set_cons_zero] at h1
  rw [Tr.get_put] at h1
  exact hI.updb hB h1 hO
def noRow : Obj → Bool
  | .cells _ _ _ => false
  | _ => true
theorem getObj_run {r : Nat} {q : Obj} (h : w.heap[r]? = some q) (hq : noRow q = true := by rfl) : (getObj r).run P w = .ok q w := by
  cases q <;> first | (cases hq; done) | simp [getObj, Sem.run, h]
theorem setObj_run {r : Nat} {q q' : Obj} (h : w.heap[r]? = some q) (hq : noRow q = true := by rfl) : (setObj r q').run P w = .ok () { w with heap := w.heap.setIfInBounds r q' } := by
  cases q <;> first | (cases hq; done) | simp [setObj, Sem.run, h]

theorem exec_insert {t : TypeId} (ho : o.op = .insert t x y z) : execOp (Sl.ev e) o = execOp (Sl.ev e) { o with op := .mapUpdate t x y z } := by simp [execOp, ho]
theorem does_congr {o o' : Oper} (h : execOp (Sl.ev e) o = execOp (Sl.ev e) o') (hd : Does P o' e w K) : Does P o e w K := by
  refine ⟨?_⟩
  have := hd.out
  unfold DoesB at this ⊢
  rw [h]; exact this
theorem vru (M : Nm) : VR M (.tup []) undef := by simp only [VR]; exact ⟨[], VRs.nil, rfl⟩
theorem find_rel {st : Nat} : ∀ {m : List (AV × AV × Nat)} {es : List MapEntry} {p : AV × AV × Nat}, MR M m es → m.find? (fun p => Nat.beq p.2.2 st) = some p → ∃ en, es.find? (·.born == st) = some en ∧ VR M p.1 en.key ∧ VR M p.2.1 en.val
  | [], es, p, _, h => by simp at h
  | q :: m, es, p, hm, h => by
    obtain ⟨en, l, rfl, h1, h2, h3, h4⟩ := hm
    simp only [List.find?_cons] at h ⊢
    cases hb : Nat.beq q.2.2 st with
    | true =>
      rw [hb] at h; cases h
      have : (en.born == st) = true := by rw [h3, Nat.eq_of_beq_eq_true hb]; simp
      rw [this]; exact ⟨en, rfl, h1, h2⟩
    | false =>
      rw [hb] at h
      have : (en.born == st) = false := by
        rw [h3]
        cases hc : (q.2.2 == st) with
        | false => rfl
        | true => have := eq_of_beq hc; rw [this] at hb; simp at hb
      rw [this]; exact find_rel h4 h

theorem mapA_go (hX : Types P X) (he : EnvR M ae e) (hI : Inv M s w L) {r : AV × St} (ho : o.op = .mapUpdate t x y z) (h : mapA.go X ae s t x y z = some r) (hK : Eff M r L K) : Does P o e w K := by
  unfold mapA.go at h
  split at h
  · rename_i a hx
    have hx' := opnd_ok he hx
    split at h
    · rename_i k hk
      have hk' := opnd_ok he hk
      split at h
      · rename_i v hv
        have hv' := opnd_ok he hv
        split at h
        · rename_i i ck m E r' hkey
          obtain ⟨rfl, hm, T, D, ht, hD, hc, hf⟩ := keyA_spec hX hkey
          simp only [VR] at hx'
          obtain ⟨B, hB, hxv⟩ := hx'
          obtain ⟨B', q, hB', hO, hs⟩ := hI.outb hm
          rw [hB] at hB'; cases hB'
          obtain ⟨es, rfl, hmr⟩ := hO
          have hw := hs.obj 0 rfl
          have hfk := findA_ok hX hk' hmr hf
          have hck := ckT_ok hX false 20 hc hk' 9980 w
          have hg := getObj_run (P := P) hw
          split at h
          · rename_i j a0
            cases hdt : detA k with
            | false => rw [hdt] at h; cases h
            | true =>
              rw [hdt] at h; cases h
              obtain ⟨vv, en, h1, h2, h3, h4, h5, h6⟩ := hfk
              have hfk := key_asks hD h1 w
              simp only [Nat.sub_zero] at h4
              obtain ⟨hsame, hbits⟩ := det_ok hdt h5 hk'
              have h4' : es[j]? = some en := by simpa using h4
              have hst := setObj_run (P := P) (q' := .map (es.modify j fun e' => { e' with key := Sl.ev e y, val := Sl.ev e z }) ck) hw
              refine d_skip (w' := { w with heap := w.heap.setIfInBounds B.b (.map (es.modify j fun e' => { e' with key := Sl.ev e y, val := Sl.ev e z }) ck) }) ?_ (hK M undef _ (Nm.le.refl M) (vru M) (hI.updb' hB hs rfl ⟨_, rfl, ?_⟩))
              · have hbits' : Instr.sameBits 10000 en.key (Sl.ev e y) = true := by rw [← hsame]; exact hbits
                simp only [execOp, ho, hxv, Instr.mapUpdate, Sem.run_bind, run_underlying ht, Result.andThen, hg, hck, hfk, h4', Option.map_some, Option.getD_some, Instr.keyThatStays, hbits', if_true, hpure, hst, hpure]
              · have := updA_ok (i := j) hk' hv' hmr
                rw [Array.toList_modify]
                exact this
          · cases h
            have hfk := key_asks hD hfk w
            have hst := setObj_run (P := P) (q' := .map (es.push { key := Sl.ev e y, val := Sl.ev e z, born := ck }) (ck + 1)) hw
            refine d_skip (w' := { w with heap := w.heap.setIfInBounds B.b (.map (es.push { key := Sl.ev e y, val := Sl.ev e z, born := ck }) (ck + 1)) }) ?_ (hK M undef _ (Nm.le.refl M) (vru M) (hI.updb' hB hs rfl ⟨_, rfl, ?_⟩))
            · simp only [execOp, ho, hxv, Instr.mapUpdate, Sem.run_bind, run_underlying ht, Result.andThen, hg, hck, hfk, hst]
              rfl
            · have := hmr.snoc (ck := ck) hk' hv'
              rw [Array.toList_push]
              exact this
        · cases h
      · cases h
    · cases h
  · cases h

theorem mapA_ok (hX : Types P X) (he : EnvR M ae e) (hI : Inv M s w L) {r : AV × St} (h : mapA X ae s o.op = some r) (hK : Eff M r L K) : Does P o e w K := by
  unfold mapA at h
  split at h
  · rename_i t x y z ho; exact mapA_go hX he hI ho h hK
  · rename_i t x y z ho; exact does_congr (exec_insert ho) (mapA_go (o := { o with op := .mapUpdate t x y z }) hX he hI rfl h hK)
  · rename_i xs ts ho
    split at h
    · rename_i x y hxs
      have ho' : o.op = .call ⟨.builtin .delete, #[x, y], ts⟩ := by rw [ho]; congr 2; exact Array.ext' hxs
      split at h
      · rename_i t h0
        split at h
        · rename_i a hx
          have hx' := opnd_ok he hx
          split at h
          · rename_i k hk
            have hk' := opnd_ok he hk
            split at h
            · rename_i i ck m E r' hkey
              obtain ⟨rfl, hm, T, D, ht, hD, hc, hf⟩ := keyA_spec hX hkey
              simp only [VR] at hx'
              obtain ⟨B, hB, hxv⟩ := hx'
              obtain ⟨B', q, hB', hO, hs⟩ := hI.outb hm
              rw [hB] at hB'; cases hB'
              obtain ⟨es, rfl, hmr⟩ := hO
              have hw := hs.obj 0 rfl
              have hfk := findA_ok hX hk' hmr hf
              have hck := ckT_ok hX es.isEmpty 20 hc hk' 9980 w
              have hg := getObj_run (P := P) hw
              have hm2 : Array.map (Sl.ev e) #[x, y] = #[.map (some B.b), Sl.ev e y] := by simp [hxv]
              split at h
              · rename_i j a0
                cases h
                obtain ⟨vv, en, h1, h2, h3, h4, h5, h6⟩ := hfk
                have hfk := key_asks hD h1 w
                have hst := setObj_run (P := P) (q' := .map (es.eraseIdxIfInBounds j) ck) hw
                refine d_val (v := .tuple #[]) (w' := { w with heap := w.heap.setIfInBounds B.b (.map (es.eraseIdxIfInBounds j) ck) }) ?_ (hK M _ _ (Nm.le.refl M) (by simp only [VR]; exact ⟨[], VRs.nil, rfl⟩) (hI.updb' hB hs rfl ⟨_, rfl, ?_⟩))
                · simp only [execOp, ho', resolve, Sem.run_bind, hpure, Result.andThen, invoke, builtin, hm2, Builtin.delete_, h0, List.getElem?_toArray, List.getElem?_cons_zero, List.getElem?_cons_succ, run_underlying ht, hg, hck, hfk, hst]
                · have := hmr.del j
                  rw [Array.toList_eraseIdxIfInBounds]
                  exact this
              · cases h
                have hfk := key_asks hD hfk w
                have hst := setObj_run (P := P) (q' := .map es ck) hw
                refine d_val (v := .tuple #[]) (w' := { w with heap := w.heap.setIfInBounds B.b (.map es ck) }) ?_ (hK M _ _ (Nm.le.refl M) (by simp only [VR]; exact ⟨[], VRs.nil, rfl⟩) (hI.updb' hB hs rfl ⟨_, rfl, hmr⟩))
                simp only [execOp, ho', resolve, Sem.run_bind, hpure, Result.andThen, invoke, builtin, hm2, Builtin.delete_, h0, List.getElem?_toArray, List.getElem?_cons_zero, List.getElem?_cons_succ, run_underlying ht, hg, hck, hfk, hst]
            · cases h
          · cases h
        · cases h
      · cases h
    · cases h
  · rename_i t x ho
    split at h
    · rename_i a hx
      have hx' := opnd_ok he hx
      split at h
      · rename_i ti hti
        have hu := (hX _ _ hti).und
        split at h
        · rename_i l hd
          cases h
          rw [hd] at hu
          simp only [VR] at hx'
          refine d_rangeS ho hu hx'.1 hI.sat (fun q w' hs => ?_)
          obtain ⟨M', h1, h2, h3⟩ := hI.newb hs (hI.lack (Nat.le_refl _)) (.strIter l 0) ⟨q, 0, 0⟩ rfl (fun M' hle _ => ⟨rfl, rfl, hx'.2⟩)
          exact hK M' _ w' h1 (by simp only [VR]; exact ⟨_, h2, rfl⟩) h3
        · rename_i T E hd
          cases h
          rw [hd] at hu
          simp only [VR] at hx'
          refine d_val (w' := { w with heap := w.heap.push (.mapIter none 0 #[] 0) }) (v := .pointer (some ⟨w.heap.size, 0, none⟩)) ?_ ?_
          · simp only [execOp, ho, hx', Instr.range, Sem.run_bind, run_underlying hu, Result.andThen, hpure, newObj, Sem.run]
          · obtain ⟨M', h1, h2, h3⟩ := hI.newb (hI.sat.new _) (hI.lack (Nat.le_refl _)) (.mapIter none 0 [] 0) ⟨w.heap.size, 0, 0⟩ rfl (fun M' hle _ => ⟨rfl, rfl⟩)
            exact hK M' _ _ h1 (by simp only [VR]; exact ⟨_, h2, rfl⟩) h3
        · rename_i T E i hd
          split at h
          · rename_i ck m hm
            cases h
            rw [hd] at hu
            simp only [VR] at hx'
            obtain ⟨B, hB, hxv⟩ := hx'
            obtain ⟨B', q, hB', hO, hw⟩ := hI.blk hm
            rw [hB] at hB'; cases hB'
            obtain ⟨es, rfl, hmr⟩ := hO
            have hg := getObj_run (P := P) hw
            refine d_val (w' := { w with heap := w.heap.push (.mapIter (some B.b) ck #[] ck) }) (v := .pointer (some ⟨w.heap.size, 0, none⟩)) ?_ ?_
            · simp only [execOp, ho, hxv, Instr.range, Sem.run_bind, run_underlying hu, Result.andThen, hg, hpure, newObj, Sem.run]
            · obtain ⟨M', h1, h2, h3⟩ := hI.newb (hI.sat.new _) (hI.lack (Nat.le_refl _)) (.mapIter (some i) ck [] ck) ⟨w.heap.size, 0, 0⟩ rfl (fun M' hle _ => ⟨rfl, B, hle.ρ _ _ hB, rfl⟩)
              exact hK M' _ _ h1 (by simp only [VR]; exact ⟨_, h2, rfl⟩) h3
          · cases h
        · cases h
      · cases h
    · cases h
  · rename_i x b ho
    split at h
    · rename_i j hx
      have hx' := opnd_ok he hx
      simp only [VR] at hx'
      obtain ⟨B, hB, hxv⟩ := hx'
      split at h
      · rename_i l pos hj
        obtain ⟨B', q, hB', hO, hs⟩ := hI.outb hj
        rw [hB] at hB'; cases hB'
        obtain ⟨hbase, rfl, hl⟩ := hO
        have hw := hs.obj 0 rfl
        have hg := getObj_run (P := P) hw
        cases hp : Nat.blt pos l.length with
        | false =>
          rw [hp] at h
          simp only [cond_false, Option.some.injEq] at h
          subst h
          have hp' : ¬ pos < (strOf l).size := by
            rw [strOf_size]
            intro h1
            have : Nat.blt pos l.length = true := Nat.ble_eq_true_of_le h1
            rw [hp] at this; cases this
          rw [hbase, Nat.zero_add] at hxv
          refine d_val (v := .tuple #[.bool false]) (w' := w) ?_ (hK M _ _ (Nm.le.refl M) (by simp only [VR]; exact ⟨[.bool false], VRs.cons (vrb M false) VRs.nil, rfl⟩) hI)
          simp only [execOp, ho, hxv, Instr.next, Sem.run_bind, hg, Result.andThen, if_neg hp', hpure]
        | true =>
          rw [hp] at h
          simp only [cond_true] at h
          split at h
          · rename_i ch hch
            cases hc : Nat.blt ch 128 with
            | false => rw [hc] at h; cases h
            | true =>
              rw [hc] at h; cases h
              have hp' : pos < l.length := Nat.le_of_ble_eq_true hp
              have hp2 : pos < (strOf l).size := by rw [strOf_size]; exact hp'
              have hc' : ch < 128 := Nat.le_of_ble_eq_true hc
              have hdec : Utf8.decode (strOf l) pos = (ch, 1) := by
                have hb : (strOf l).get! pos = UInt8.ofNat ch := by
                  have h1 : (strOf l).get! pos = (strOf l).data[pos]! := rfl
                  have h2 : (strOf l).data[pos]? = some (UInt8.ofNat ch) := by simp [strOf, hch]
                  rw [h1]
                  simp only [getElem!_def, h2]
                have hb2 : ((strOf l).get! pos).toNat = ch := by rw [hb]; simp; omega
                unfold Utf8.decode
                simp only [Nat.add_zero, hb2]
                rw [if_pos hc']
              rw [hbase, Nat.zero_add] at hxv
              have hst := setObj_run (P := P) (q' := .stringIter (strOf l) (pos + 1)) hw
              refine d_val (v := .tuple #[.bool true, .int .i64 pos, .int .i32 ch]) (w' := { w with heap := w.heap.setIfInBounds B.b (.stringIter (strOf l) (pos + 1)) }) ?_ (hK M _ _ (Nm.le.refl M) ?_ (hI.updb' hB hs rfl ⟨hbase, rfl, hl⟩))
              · simp only [execOp, ho, hxv, Instr.next, Sem.run_bind, hg, Result.andThen, if_pos hp2, hdec, hst, hpure]
                rfl
              · simp only [VR]
                exact ⟨[.bool true, .int .i64 pos, .int .i32 ch], VRs.cons (vrb M true) (VRs.cons (vri M _ _) (VRs.cons (vri M _ _) VRs.nil)), rfl⟩
          · cases h
      · cases h
    · cases h
  · rename_i x ho
    split at h
    · rename_i j hx
      have hx' := opnd_ok he hx
      simp only [VR] at hx'
      obtain ⟨B, hB, hxv⟩ := hx'
      split at h
      · rename_i i since seen last hj
        obtain ⟨B', q, hB', hO, hw⟩ := hI.blk hj
        rw [hB] at hB'; cases hB'
        obtain ⟨hbase, Bm, hBm, rfl⟩ := hO
        split at h
        · rename_i ck m hm
          obtain ⟨Bm', q', hBm', hO', hw'⟩ := hI.blk hm
          rw [hBm] at hBm'; cases hBm'
          obtain ⟨es, rfl, hmr⟩ := hO'
          split at h
          · rename_i st hst
            cases hck : Nat.beq ck last with
            | false => rw [hck] at h; cases h
            | true =>
              rw [hck] at h
              obtain rfl := Nat.eq_of_beq_eq_true hck
              simp only [cond_true] at h
              split at h
              · rename_i p hp
                cases h
                obtain ⟨en, h1, h2, h3⟩ := find_rel hmr hp
                have hg := getObj_run (P := P) hw
                have hg' := getObj_run (P := P) hw'
                rw [hbase, Nat.zero_add] at hxv
                have hback : seen.toArray.back? = some st := by simpa [Array.back?_eq_getElem?, List.getLast?_eq_getElem?] using hst
                have hfind : es.find? (·.born == st) = some en := by simpa using h1
                refine d_val (v := .tuple #[en.key, en.val]) (w' := w) ?_ (hK M _ _ (Nm.le.refl M) (by simp only [VR]; exact ⟨[en.key, en.val], VRs.cons h2 (VRs.cons h3 VRs.nil), rfl⟩) hI)
                simp only [execOp, ho, hxv, Instr.entry, Sem.run_bind, hg, hg', Result.andThen, hback, bne_self_eq_false, Bool.false_eq_true, if_false, hfind, hpure]
              · cases h
          · cases h
        · cases h
      · cases h
    · cases h
  · cases h

/-! ### the next entry: whichever it is -/
def oldOf (m : List (AV × AV × Nat)) (since : Nat) (seen : List Nat) : List (AV × AV × Nat) := m.filter (fun p => !seen.any (Nat.beq p.2.2) && Nat.blt p.2.2 since)
def newOf (m : List (AV × AV × Nat)) (since : Nat) (seen : List Nat) : List (AV × AV × Nat) := m.filter (fun p => !seen.any (Nat.beq p.2.2) && !Nat.blt p.2.2 since)
def nullA {α : Type} : List α → Bool
  | [] => true
  | _ => false
def nextA (ae : List (Nat × AV)) (s : St) (op : Op) : Option (List (AV × St)) :=
  match op with
  | .next x false => match opnd ae x with
    | some (.ptr j 0) => match s.h.get j with
      | some (.mapIter none _ _ _) => some [(.tup [.bool false], s)]
      | some (.mapIter (some i) since seen last) => match s.h.get i with
        | some (.map ck m) => bif !nullA seen && !nullA m && m.all (fun p => Nat.ble last p.2.2) then none else
          some ((bif nullA (oldOf m since seen) then [(.tup [.bool false], s)] else []) ++
            (oldOf m since seen ++ newOf m since seen).map (fun p => (.tup [.bool true, p.1, p.2.1], ⟨s.h.put j (some (.mapIter (some i) since (seen ++ [p.2.2]) ck)), s.nx, s.k⟩)))
        | _ => none
      | _ => none
    | _ => none
  | _ => none

theorem contains_any (seen : List Nat) (b : Nat) : seen.toArray.contains b = seen.any (Nat.beq b) := by
  rw [List.contains_toArray, List.contains_eq_any_beq]
  congr 1
  funext x
  cases h : Nat.beq b x with
  | true => obtain rfl := Nat.eq_of_beq_eq_true h; simp
  | false =>
    cases h2 : b == x with
    | false => rfl
    | true => have := eq_of_beq h2; subst this; simp at h
theorem MR.filt {f : MapEntry → Bool} {g : AV × AV × Nat → Bool} (hfg : ∀ (en : MapEntry) (p : AV × AV × Nat), en.born = p.2.2 → f en = g p) : ∀ {m : List (AV × AV × Nat)} {es : List MapEntry}, MR M m es → MR M (m.filter g) (es.filter f)
  | [], es, h => by simp only [MR] at h; subst h; rfl
  | p :: m, es, h => by
    obtain ⟨en, l, rfl, h1, h2, h3, h4⟩ := h
    simp only [List.filter_cons, hfg en p h3]
    cases g p with
    | true => exact ⟨en, _, rfl, h1, h2, h3, h4.filt hfg⟩
    | false => exact h4.filt hfg
theorem MR.all {f : MapEntry → Bool} {g : AV × AV × Nat → Bool} (hfg : ∀ (en : MapEntry) (p : AV × AV × Nat), en.born = p.2.2 → f en = g p) : ∀ {m : List (AV × AV × Nat)} {es : List MapEntry}, MR M m es → es.all f = m.all g
  | [], es, h => by simp only [MR] at h; subst h; rfl
  | p :: m, es, h => by
    obtain ⟨en, l, rfl, h1, h2, h3, h4⟩ := h
    simp only [List.all_cons, hfg en p h3, h4.all hfg]
theorem MR.append : ∀ {m m' : List (AV × AV × Nat)} {es es' : List MapEntry}, MR M m es → MR M m' es' → MR M (m ++ m') (es ++ es')
  | [], m', es, es', h, h' => by simp only [MR] at h; subst h; exact h'
  | p :: m, m', es, es', h, h' => by
    obtain ⟨en, l, rfl, h1, h2, h3, h4⟩ := h
    exact ⟨en, _, rfl, h1, h2, h3, h4.append h'⟩
theorem MR.at : ∀ {m : List (AV × AV × Nat)} {es : List MapEntry} {i : Nat} {en : MapEntry}, MR M m es → es[i]? = some en → ∃ p, m[i]? = some p ∧ VR M p.1 en.key ∧ VR M p.2.1 en.val ∧ en.born = p.2.2
  | [], es, i, en, h, hi => by simp only [MR] at h; subst h; simp at hi
  | p :: m, es, i, en, h, hi => by
    obtain ⟨en', l, rfl, h1, h2, h3, h4⟩ := h
    cases i with
    | zero => simp at hi; subst hi; exact ⟨p, rfl, h1, h2, h3⟩
    | succ i => obtain ⟨q, e1, e2⟩ := h4.at (i := i) (by simpa using hi); exact ⟨q, by simpa using e1, e2⟩
theorem null_rel {m : List (AV × AV × Nat)} {es : List MapEntry} (h : MR M m es) : es.isEmpty = nullA m := by
  cases m with
  | nil => simp only [MR] at h; subst h; rfl
  | cons p m => obtain ⟨en, l, rfl, _⟩ := h; rfl

theorem nextA_ok (he : EnvR M ae e) (hI : Inv M s w L) {rs : List (AV × St)} (h : nextA ae s o.op = some rs) (hK : ∀ r ∈ rs, Eff M r L K) : Does P o e w K := by
  unfold nextA at h
  split at h
  · rename_i x ho
    split at h
    · rename_i j hx
      have hx' := opnd_ok he hx
      simp only [VR] at hx'
      obtain ⟨B, hB, hxv⟩ := hx'
      split at h
      · rename_i since seen last hj
        cases h
        obtain ⟨B', q, hB', hO, hw⟩ := hI.blk hj
        rw [hB] at hB'; cases hB'
        obtain ⟨hbase, rfl⟩ := hO
        have hg := getObj_run (P := P) hw
        rw [hbase, Nat.zero_add] at hxv
        refine d_val (v := .tuple #[.bool false]) (w' := w) ?_ (hK _ (List.mem_singleton_self _) M _ _ (Nm.le.refl M) (by simp only [VR]; exact ⟨[.bool false], VRs.cons (vrb M false) VRs.nil, rfl⟩) hI)
        simp only [execOp, ho, hxv, Instr.next, Sem.run_bind, hg, Result.andThen, hpure]
      · rename_i i since seen last hj
        split at h
        · rename_i ck m hm
          obtain ⟨B', q, hB', hO, hs⟩ := hI.outb hj
          rw [hB] at hB'; cases hB'
          obtain ⟨hbase, Bm, hBm, rfl⟩ := hO
          have hw := hs.obj 0 rfl
          obtain ⟨Bm', q', hBm', hO', hw'⟩ := hI.blk hm
          rw [hBm] at hBm'; cases hBm'
          obtain ⟨es, rfl, hmr⟩ := hO'
          generalize hcnd : (!nullA seen && !nullA m && m.all (fun p => Nat.ble last p.2.2)) = cnd at h
          cases cnd with
          | true => cases h
          | false =>
            cases h
            have hg := getObj_run (P := P) hw
            have hg' := getObj_run (P := P) hw'
            rw [hbase, Nat.zero_add] at hxv
            -- the guard
            have hguard : (!seen.toArray.isEmpty && !es.isEmpty && es.all (fun en => decide (en.born ≥ last))) = false := by
              rw [← hcnd]
              congr 1
              · congr 1
                · congr 1; cases seen <;> rfl
                · rw [← Array.isEmpty_toList, null_rel hmr]
              · rw [← Array.all_toList]
                exact hmr.all (fun en p hp => by
                  rw [hp]
                  cases hb : Nat.ble last p.2.2 with
                  | true => exact decide_eq_true (Nat.le_of_ble_eq_true hb)
                  | false => exact decide_eq_false (fun h1 => by rw [Nat.ble_eq_true_of_le h1] at hb; cases hb))
            -- those that may be next
            have hold : MR M (oldOf m since seen) ((es.filter fun e => !seen.toArray.contains e.born).filter (fun e => decide (e.born < since))).toList := by
              rw [Array.toList_filter, Array.toList_filter, List.filter_filter]
              exact hmr.filt (fun en p hp => by
                rw [contains_any, hp, Bool.and_comm]
                congr 1
                cases hb : Nat.blt p.2.2 since with
                | true => exact decide_eq_true (Nat.le_of_ble_eq_true hb)
                | false => exact decide_eq_false (fun h1 => by have : Nat.blt p.2.2 since = true := Nat.ble_eq_true_of_le h1; rw [this] at hb; cases hb))
            have hnew : MR M (newOf m since seen) ((es.filter fun e => !seen.toArray.contains e.born).filter (fun e => decide (e.born ≥ since))).toList := by
              rw [Array.toList_filter, Array.toList_filter, List.filter_filter]
              exact hmr.filt (fun en p hp => by
                rw [contains_any, hp, Bool.and_comm]
                congr 1
                cases hb : Nat.blt p.2.2 since with
                | true => exact decide_eq_false (fun h1 => by have : p.2.2 < since := Nat.le_of_ble_eq_true hb; omega)
                | false => exact decide_eq_true (by
                    rcases Nat.lt_or_ge p.2.2 since with h1 | h1
                    · have : Nat.blt p.2.2 since = true := Nat.ble_eq_true_of_le h1
                      rw [this] at hb; cases hb
                    · exact h1))
            generalize holdg : (es.filter fun e => !seen.toArray.contains e.born).filter (fun e => decide (e.born < since)) = old at hold
            generalize hnewg : (es.filter fun e => !seen.toArray.contains e.born).filter (fun e => decide (e.born ≥ since)) = new at hnew
            -- the draw
            generalize hcands : ((if old.isEmpty then #[none] else #[]) ++ (old ++ new).map some : Array (Option MapEntry)) = cands
            have hne : 0 < cands.size := by
              rw [← hcands]
              cases ho : old.isEmpty with
              | true => simp; omega
              | false =>
                have : old.size ≠ 0 := by intro h0; simp [Array.isEmpty, h0] at ho
                simp; omega
            have hch : ∃ n w1, (choose (.mapNext cands.size)).run P w = .ok n w1 ∧ n < cands.size ∧ w1.heap = w.heap ∧ (∀ L', Sat w L' → Sat w1 L') := by
              simp only [choose, Sem.run]
              split
              · rename_i hf
                refine ⟨0, w, rfl, hne, rfl, fun L' h => h⟩
              · refine ⟨_, _, rfl, ?_, rfl, fun L' h => h.drawn _⟩
                simp only [Question.cut]
                exact Nat.mod_lt _ hne
            obtain ⟨n, w1, hn1, hn2, hn3, hn4⟩ := hch
            obtain ⟨c, hc⟩ : ∃ c, cands[n]? = some c := ⟨_, Array.getElem?_eq_getElem hn2⟩
            have hrun : ∀ (r : Value) (w2 : World), ((match c with
                | some e => (do
                  setObj B.b (.mapIter (some Bm.b) since (seen.toArray.push e.born) ck)
                  pure (.tuple #[.bool true, e.key, e.val]))
                | none => pure (.tuple #[.bool false])) : Sem Value).run P w1 = .ok r w2 → (execOp (Sl.ev e) o).run P w = .ok (.value r) w2 := by
              intro r w2 hr
              simp only [execOp, ho, hxv, Instr.next, Sem.run_bind, hg, hg', Result.andThen, hguard, Bool.false_eq_true, if_false, holdg, hnewg, hcands, hn1, hc, hpure]
              cases c with
              | none => simp only [hpure] at hr ⊢; cases hr; rfl
              | some en =>
                simp only [Sem.run_bind, hpure] at hr ⊢
                cases hq : (setObj B.b (.mapIter (some Bm.b) since (seen.toArray.push en.born) ck)).run P w1 with
                | ok u w3 => simp only [hq, Result.andThen] at hr ⊢; cases hr; rfl
                | halt x w3 => simp only [hq, Result.andThen] at hr; cases hr
            cases c with
            | none =>
              have hold0 : nullA (oldOf m since seen) = true := by
                cases hb : nullA (oldOf m since seen) with
                | true => rfl
                | false =>
                  exfalso
                  have : old.isEmpty = false := by rw [← Array.isEmpty_toList, null_rel hold, hb]
                  rw [this] at hcands
                  have h1 := hc
                  rw [← hcands] at h1
                  have h2 := Array.mem_of_getElem? h1
                  simp at h2
              refine d_val (hrun _ _ rfl) (hK (.tup [.bool false], s) (List.mem_append_left _ (by rw [hold0]; exact List.mem_singleton_self _)) M _ _ (Nm.le.refl M) (by simp only [VR]; exact ⟨[.bool false], VRs.cons (vrb M false) VRs.nil, rfl⟩) ⟨hn4 _ hI.sat, hI.k⟩)
            | some en =>
              have hin : ∃ k : Nat, (old.toList ++ new.toList)[k]? = some en := by
                have h1 : some en ∈ cands := Array.mem_of_getElem? hc
                rw [← hcands, Array.mem_append] at h1
                rcases h1 with h1 | h1
                · split at h1 <;> simp at h1
                · obtain ⟨en', h2, h3⟩ := Array.mem_map.1 h1
                  cases h3
                  have : en ∈ (old ++ new).toList := by simpa using h2
                  rw [Array.toList_append] at this
                  exact List.mem_iff_getElem?.1 this
              obtain ⟨k, hk⟩ := hin
              obtain ⟨p, p1, p2, p3, p4⟩ := (hold.append hnew).at hk
              have hsat1 := hn4 _ hs
              have hw1 : w1.heap[B.b]? = some (.mapIter (some Bm.b) since seen.toArray last) := by rw [hn3]; exact hw
              have hst := setObj_run (P := P) (q' := .mapIter (some Bm.b) since (seen.toArray.push en.born) ck) hw1
              refine d_val (hrun (.tuple #[.bool true, en.key, en.val]) { w1 with heap := w1.heap.setIfInBounds B.b (.mapIter (some Bm.b) since (seen.toArray.push en.born) ck) } ?_) (hK _ (List.mem_append_right _ (List.mem_map.2 ⟨p, List.mem_of_getElem? p1, rfl⟩)) M _ _ (Nm.le.refl M) ?_ ?_)
              · simp only [Sem.run_bind, hst, Result.andThen, hpure]
              · simp only [VR]; exact ⟨[.bool true, en.key, en.val], VRs.cons (vrb M true) (VRs.cons p2 (VRs.cons p3 VRs.nil)), rfl⟩
              · have hI1 : Inv M s w1 L := ⟨hn4 _ hI.sat, hI.k⟩
                exact hI1.updb' hB hsat1 rfl ⟨hbase, Bm, hBm, by rw [p4]; simp⟩
        · cases h
      · cases h
    · cases h
  · cases h
end
end Go.Ev
