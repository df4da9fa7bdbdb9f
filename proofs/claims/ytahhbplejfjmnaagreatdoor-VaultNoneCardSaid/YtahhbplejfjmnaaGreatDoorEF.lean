/- General words for running code of which all is known: the run is true, continued. No program. -/
import Derived.Test.YtahhbplejfjmnaaGreatDoorEE
import Derived.OrdersIn
namespace Go.Ev
open Go Go.Sl
section
variable {P : Program}

def DsR (M : Nm) : List Nat → List Nat → Prop
  | [], ds => ds = []
  | d :: l, ds => ∃ B ds', M.ρ d = some B ∧ ds = B.b :: ds' ∧ DsR M l ds'
theorem DsR.mono {M M' : Nm} (hm : M.le M') : ∀ {l ds : List Nat}, DsR M l ds → DsR M' l ds
  | [], _, h => h
  | d :: l, _, h => by
    obtain ⟨B, ds', h1, h2, h3⟩ := h
    exact ⟨B, ds', hm.ρ _ _ h1, h2, DsR.mono hm h3⟩

def PostO (M : Nm) (L : List HP) (outs : List Out) (N R : NP) (E : Nat → NP) : Prop :=
  ∀ o ∈ outs, ∀ M' ds e w, M.le M' → EnvR M' o.ae e → DsR M' o.ds ds → Inv M' o.s w L → match o.x with
    | .normal => N ds e w
    | .ret => R ds e w
    | .exit i => E i ds e w
theorem PostO.mono {M M' : Nm} (hm : M.le M') {L : List HP} {outs : List Out} {N R : NP} {E : Nat → NP} (h : PostO M L outs N R E) : PostO M' L outs N R E :=
  fun o ho M2 ds e w h1 => h o ho M2 ds e w (hm.trans h1)

def SoundCode (P : Program) (p : Evs) : Prop := ∀ fr r cd ae dsA s outs, p.code fr cd ae dsA s = some outs → (fr.rnd = false → r = none) →
  ∀ M ds e w L N R E, EnvR M ae e → DsR M dsA ds → Inv M s w L → PostO M L outs N R E → CI r P fr.n cd N R E ds e w
def SoundCall (P : Program) (p : Evs) : Prop := ∀ f l s rs, p.call f l s = some rs → (∀ args w, (callFunc f args).run P w = .ok (.enter f args) w) ∧
  ∀ M vs w L K, VRs M l vs → Inv M s w L → (∀ r ∈ rs, Eff M r L K) → Calls P f vs.toArray w (retd K)

theorem Eff.mono {M M' : Nm} (hm : M.le M') {r : AV × St} {L : List HP} {K : Value → World → Prop} (h : Eff M r L K) : Eff M' r L K := fun M2 v w h1 => h M2 v w (hm.trans h1)

theorem wantA_ok {ops : List Oper} {ae : List (Nat × AV)} {M : Nm} {e : Env} {o : Oper} {b : Bool} (he : EnvR M ae e) (h : wantA ops ae o = some b) : wanted ops.toArray e o = b := by
  unfold wantA at h
  unfold wanted
  split at h
  · rename_i hg; cases h; rw [hg]
  · rename_i j want hg
    rw [hg]
    split at h
    · rename_i oj hoj
      have h1 : ops.toArray[j]? = some oj := by simpa using hoj
      simp only [h1, Option.bind_some]
      split at h
      · rename_i d hd
        simp only [hd]
        split at h
        · rename_i b' hb
          have := he _ _ hb
          simp only [VR] at this
          rw [this]
          cases h; rfl
        · rename_i hb
          have := he _ _ hb
          simp only [VR, VRs] at this
          obtain ⟨vs, rfl, hv⟩ := this
          rw [hv]
          cases h; rfl
        · cases h
      · cases h
    · cases h
end
end Go.Ev
/- General words for running code of which all is known: the operations of a statement, in text order. No program. -/
namespace Go.Ev
open Go Go.Sl
section
variable {P : Program} {c : Cx} {p : Evs}

theorem oi_yieldO {r : Option Nat} {n : Nat} {N : NP} {ds : List Nat} {e : Env} {w : World} {ops : Array Oper} {l : List Oper} {o : Oper} {y : Operand} {xs : Array Operand} {ts : Array TypeId} {lp : Nat} {args : List Value} (hd : inO n o.dst = true) (ho : o.op = .call ⟨.value y, xs, ts⟩)
    (hw : wanted ops e o = true) (hy : Sl.ev e y = .func (.yield lp) #[] #[]) (hx : xs.toList.map (Sl.ev e) = args)
    (h : YC P lp args.toArray w (fun v w' => OpsI r P n ops l N ds (putO e o.dst v) w')) : OpsI r P n ops (o :: l) N ds e w := by
  intro a ha
  unfold wpListIn
  rw [wanted_fitsD ha, if_pos hw]
  refine ⟨fun _ _ => trivial, ?_⟩
  rw [Oper.semAt_eq _ _ _ (fun c hc => by rw [ho] at hc; cases hc), ha.ev]
  obtain ⟨f, tmps, as, bd, w1, h1, h2⟩ := h
  have hm : xs.map (Sl.ev e) = args.toArray := Array.ext' (by rw [Array.toList_map, hx])
  have hrun : (execOp (Sl.ev e) o).run P w = .ok (.round lp f tmps as bd) w1 := by
    simp only [execOp, ho, resolve, hy, Deferred.ofValue, Sem.run_bind, hpure, Result.andThen, invoke, hm, Array.empty_append]
    exact h1
  rw [hrun]
  unfold Oper.uponIn
  refine ⟨fun hx => by simp [WF, Fence.wide] at hx, ?_⟩
  refine RoundIn.mono (F := Fence.wide) h2 fun e w'' q => ?_
  cases e with
  | returned v => exact q _ (ha.putO hd v)
  | panicked c => exact q.elim
  | outgrown => exact q.elim
theorem oi_noO {r : Option Nat} {n : Nat} {N : NP} {ds : List Nat} {e : Env} {w : World} {ops : Array Oper} {l : List Oper} {o : Oper} (hd : inO n o.dst = true) (hw : wanted ops e o = false)
    (h : OpsI r P n ops l N ds (putO e o.dst undef) w) : OpsI r P n ops (o :: l) N ds e w := by
  intro a ha
  unfold wpListIn
  rw [wanted_fitsD ha, if_neg (by rw [hw]; simp)]
  exact ⟨fun _ _ => trivial, h _ (ha.putO hd undef)⟩
end
end Go.Ev
/- General words for running code of which all is known: a call of yield, and the operations of a statement in text order. No program. -/
namespace Go.Ev
open Go Go.Sl
section
variable {P : Program} {c : Cx} {p : Evs}

theorem rot3 {α : Type} (a b c : α) (l : List α) : (a :: b :: c :: l).Perm (b :: c :: a :: l) := (List.Perm.swap _ _ _).trans ((List.Perm.swap _ _ _).cons b)
theorem rot3' {α : Type} (a b c : α) (l : List α) : (b :: c :: a :: l).Perm (a :: b :: c :: l) := (rot3 a b c l).symm
theorem inv_back {M : Nm} {s : St} {w : World} {L : List HP} {B : Blk} {ob : Obj} {i : Nat} {aob : AObj} (hI : Inv M s w (obj B.b ob :: L)) (hB : M.ρ i = some B) (hO : OR M aob B ob) : Inv M ⟨s.h.put i (some aob), s.nx, s.k⟩ w L := by
  refine ⟨?_, hI.k⟩
  have h1 := hp_drop (i := i) hI.sat
  have h2 := hp_in (i := i) (o := aob) (B := B) (h1.perm (rot3' _ _ _ _)) (upd_same _ _ _) hB hO
  rw [upd_upd, ← Tr.get_put] at h2
  exact h2
theorem inv_write {M : Nm} {s : St} {w : World} {L : List HP} {r : Nat} {ob ob' : Obj} (hI : Inv M s w (obj r ob :: L)) : Inv M s (w.putObj r ob') (obj r ob' :: L) := by
  refine ⟨?_, hI.k⟩
  have hr := hI.sat.obj 2 rfl
  have hlt : r < w.heap.size := by
    rcases Nat.lt_or_ge r w.heap.size with h | h
    · exact h
    · rw [Array.getElem?_eq_none h] at hr; cases hr
  have := hI.sat.write (w' := w.putObj r ob') (o' := ob') 2 rfl (World.putObj_heap_same hlt) (fun b hb => World.putObj_heap_other hb) rfl rfl (by simp)
  simpa using this

theorem foldl_env {M : Nm} : ∀ (ps : List Nat) (l : List AV) (vs : List Value) {ae : List (Nat × AV)} {e : Env}, EnvR M ae e → VRs M l vs →
    EnvR M (List.foldl (fun ae q => q :: ae) ae (ps.zip l)) ((ps.zip vs).foldl (fun e p => put e p.1 p.2) e)
  | [], _, _, _, _, he, _ => by simpa using he
  | d :: ps, [], vs, _, _, he, hl => by simp only [VRs] at hl; subst hl; simpa using he
  | d :: ps, a :: l, vs, _, _, he, hl => by
    simp only [VRs] at hl
    obtain ⟨v, us, rfl, h2, h3⟩ := hl
    simp only [List.zip_cons_cons, List.foldl_cons]
    exact foldl_env ps l us (he.put h2) h3

theorem yield_ok (hp : SoundCode P p) {M : Nm} {s : St} {w : World} {L : List HP} {i : Nat} {Q : ALoop} {l : List AV} {vs : List Value} {B : Blk} {rs : List (AV × St)} {K : Value → World → Prop} (hI : Inv M s w L) (hi : s.h.get i = some (.loop Q)) (hB : M.ρ i = some B) (hl : VRs M l vs)
    (hc1 : Nat.beq l.length Q.ps.length = true) (hc2 : Q.ps.all (Nat.blt · Q.n) = true)
    (h : (match p.code ⟨Q.n, Q.lose, true⟩ Q.assign (List.foldl (fun ae q => q :: ae) Q.env (Q.ps.zip l)) [] ⟨s.h.put i none, s.nx, s.k⟩ with
          | some outs => many (fun o => match o.x, o.ds with
            | .normal, [] => (match p.code ⟨Q.n, Q.lose, true⟩ Q.body o.ae [] o.s with
              | some outs => many (fun o => match o.x, o.ds with
                | .normal, [] => some [(AV.bool true, (⟨o.s.h.put i (some (.loop Q)), o.s.nx, o.s.k⟩ : St))]
                | _, _ => none) outs
              | none => none)
            | _, _ => none) outs
          | none => none) = some rs) (hK : ∀ r ∈ rs, Eff M r L K) : YC P B.b vs.toArray w K := by
  obtain ⟨B', q, hB', hO, hs⟩ := hI.outb hi
  rw [hB] at hB'; cases hB'
  obtain ⟨e, Lp, rfl, he, hst, hpe, hsz, hget, hps, has, hbo⟩ := hO
  have hI1 : Inv M ⟨s.h.put i none, s.nx, s.k⟩ w (obj B.b (.loop Lp) :: L) := ⟨hs.perm (rot3 _ _ _ _), hI.k⟩
  rw [← has, ← hbo, ← hps] at h
  split at h
  · rename_i outs h1
    refine yc_round (n := Q.n) (rec := Lp) (e := e) (hs.obj 0 rfl) hst (by
      have e1 := Nat.eq_of_beq_eq_true hc1
      rw [hl.length, e1, ← hps]; simp) hsz hget (fun t ht => by
        rw [hps] at ht
        exact Nat.le_of_ble_eq_true (List.all_eq_true.1 hc2 t ht)) ?_
    refine hp ⟨Q.n, Q.lose, true⟩ (some B.b) Lp.assign _ [] _ outs h1 (by simp) M [] _ w (obj B.b (.loop Lp) :: L) _ _ _ (foldl_env Lp.params.toList l vs he hl) rfl hI1 ?_
    intro o1 ho1 M1 ds1 e1 w1 hle1 he1 hd1 hI1'
    obtain ⟨q1, hq1, hm1⟩ := many_mem h o1 ho1
    split at hq1
    · rename_i hx hds
      rw [hx]
      rw [hds] at hd1
      simp only [DsR] at hd1
      subst hd1
      split at hq1
      · rename_i outs2 h2
        refine ⟨hI1'.sat.obj 2 rfl, ?_⟩
        have hIb := inv_write (ob' := .loop { Lp with state := .busy }) hI1'
        refine hp ⟨Q.n, Q.lose, true⟩ (some B.b) Lp.body o1.ae [] o1.s outs2 h2 (by simp) M1 [] e1 _ (obj B.b (.loop { Lp with state := .busy }) :: L) _ _ _ he1 rfl hIb ?_
        intro o2 ho2 M2 ds2 e2 w2 hle2 he2 hd2 hI2
        obtain ⟨q2, hq2, hm2⟩ := many_mem hq1 o2 ho2
        split at hq2
        · rename_i hx2 hds2
          rw [hx2]
          cases hq2
          refine ⟨_, hI2.sat.obj 2 rfl, ?_⟩
          have hle : M.le M2 := hle1.trans hle2
          have hfin := inv_write (ob' := .loop { Lp with state := .ready, pending := none }) hI2
          refine hK _ (hm1 _ (hm2 _ (List.mem_singleton_self _))) M2 _ _ hle (vrb M2 true) (inv_back hfin (hle.ρ _ _ hB) ?_)
          exact ⟨e, _, rfl, he.mono hle, rfl, rfl, hsz, hget, hps, has, hbo⟩
        · cases hq2
      · cases hq1
    · cases hq1
  · cases h
end
end Go.Ev
/- General words for running code of which all is known: the operations of a statement in text order. No program. -/
namespace Go.Ev
open Go Go.Sl
section
variable {P : Program} {c : Cx} {p : Evs}

theorem opA_defer {X : Tr TI} {ae : List (Nat × AV)} {s : St} {op : Op} {r : AV × St} (h : opA X ae s op = some r) : isDefer op = false := by
  cases op <;> first | rfl | (exfalso; revert h; exact (by intro h; cases h))

theorem opB_ok (hC : GoodC P c) {M : Nm} {ae : List (Nat × AV)} {e : Env} {o : Oper} {w : World} {L : List HP} {s : St} {K : Value → World → Prop} (he : EnvR M ae e) (hI : Inv M s w L) {r : AV × St} (h : opB c ae s o.op = some r) (hK : Eff M r L K) :
    isDefer o.op = false ∧ Does P o e w K := by
  unfold opB at h
  split at h
  · rename_i r' hr
    cases h
    exact ⟨opA_defer hr, opA_ok hC.toGoodX he hI hr hK⟩
  · exact extA_ok hC he hI h hK
theorem next_defer {ae : List (Nat × AV)} {s : St} {op : Op} {r : List (AV × St)} (h : nextA ae s op = some r) : isDefer op = false := by
  cases op <;> first | rfl | (exfalso; revert h; exact (by intro h; cases h))

theorem opsA_ok (hC : GoodC P c) (hp : SoundCode P p) (hq : SoundCall P p) {n : Nat} {all : List Oper} {r : Option Nat} {ds : List Nat} : ∀ (l : List Oper) {ae : List (Nat × AV)} {s : St} {rs : List (List (Nat × AV) × St)}, opsA c p n all l ae s = some rs →
    ∀ {M : Nm} {e : Env} {w : World} {L : List HP} {N : NP}, EnvR M ae e → Inv M s w L → (∀ q ∈ rs, ∀ M' e w, M.le M' → EnvR M' q.1 e → Inv M' q.2 w L → N ds e w) → OpsI r P n all.toArray l N ds e w
  | [], ae, s, rs, h, M, e, w, L, N, he, hI, hN => by
    have : rs = [(ae, s)] := by
      have : opsA c p n all [] ae s = some [(ae, s)] := rfl
      rw [this] at h; cases h; rfl
    subst this
    exact oi_nil (hN _ (List.mem_singleton_self _) M e w (Nm.le.refl M) he hI)
  | o :: l, ae, s, rs, h, M, e, w, L, N, he, hI, hN => by
    have hstep : opsA c p n all (o :: l) ae s = (
      let fin (a : AV) (s : St) := match o.dst with
        | some d => bif Nat.blt d n then opsA c p n all l ((d, a) :: ae) s else none
        | none => opsA c p n all l ae s
      match wantA all ae o with
      | some true => match opB c ae s o.op with
        | some r => fin r.1 r.2
        | none => match manyA p ae s o.op with
          | some rs => match rs with
            | [] => none
            | [r] => fin r.1 r.2
            | rs => many (fun r => fin r.1 r.2) rs
          | none => none
      | some false => fin (.tup []) s
      | none => none) := rfl
    rw [hstep] at h
    clear hstep
    -- what follows behind the operation
    have hfin : ∀ (a : AV) (s' : St) (rs' : List (List (Nat × AV) × St)), (match o.dst with
        | some d => bif Nat.blt d n then opsA c p n all l ((d, a) :: ae) s' else none
        | none => opsA c p n all l ae s') = some rs' → (∀ q ∈ rs', q ∈ rs) →
        inO n o.dst = true ∧ Eff M (a, s') L (fun v w' => OpsI r P n all.toArray l N ds (putO e o.dst v) w') := by
      intro a s' rs' hf hsub
      cases hd : o.dst with
      | none =>
        simp only [hd] at hf
        refine ⟨rfl, fun M' v w' hle hv hI' => ?_⟩
        exact opsA_ok hC hp hq l hf (he.mono hle) hI' (fun q hq' M2 e2 w2 hle2 => hN q (hsub q hq') M2 e2 w2 (hle.trans hle2))
      | some d =>
        simp only [hd] at hf
        cases hb : Nat.blt d n with
        | false => rw [hb] at hf; cases hf
        | true =>
          rw [hb] at hf
          simp only [cond_true] at hf
          refine ⟨hb, fun M' v w' hle hv hI' => ?_⟩
          exact opsA_ok hC hp hq l hf ((he.mono hle).put hv) hI' (fun q hq' M2 e2 w2 hle2 => hN q (hsub q hq') M2 e2 w2 (hle.trans hle2))
    simp only at h
    split at h
    · rename_i hw
      have hw' := wantA_ok he hw
      split at h
      · rename_i r' hr
        obtain ⟨h1, h2⟩ := hfin _ _ _ h (fun q hq' => hq')
        obtain ⟨h3, h4⟩ := opB_ok hC he hI hr h2
        exact oi_does h1 h3 hw' h4
      · split at h
        · rename_i rs0 hc
          -- every outcome goes on
          · have hall : ∀ r' ∈ rs0, ∃ rs', (match o.dst with
                | some d => bif Nat.blt d n then opsA c p n all l ((d, r'.1) :: ae) r'.2 else none
                | none => opsA c p n all l ae r'.2) = some rs' ∧ ∀ q ∈ rs', q ∈ rs := by
              intro r' hr'
              split at h
              · cases h
              · rename_i r1
                obtain rfl := List.mem_singleton.1 hr'
                exact ⟨rs, h, fun q hq' => hq'⟩
              · exact many_mem h r' hr'
            by_cases hne : rs0 = []
            · subst hne; cases h
            · obtain ⟨r0, hr0⟩ := List.exists_mem_of_ne_nil rs0 hne
              obtain ⟨rs1, k1, k2⟩ := hall r0 hr0
              have hdst := (hfin _ _ _ k1 k2).1
              have hK : ∀ r' ∈ rs0, Eff M r' L (fun v w' => OpsI r P n all.toArray l N ds (putO e o.dst v) w') := fun r' hr' => by
                obtain ⟨rs2, k3, k4⟩ := hall r' hr'
                exact (hfin _ _ _ k3 k4).2
              unfold manyA at hc
              split at hc
              rotate_left
              · exact oi_does hdst (next_defer hc) hw' (nextA_ok he hI hc hK)
              rename_i cl ho
              obtain ⟨cal, xs, ts⟩ := cl
              unfold callsA at hc
              simp only at hc
              split at hc
              · rename_i y
                split at hc
                · rename_i f fs cs hy
                  split at hc
                  · rename_i la hla
                    have hy' := opnd_ok he hy
                    simp only [VR] at hy'
                    obtain ⟨vs, us, v1, v2, v3⟩ := hy'
                    obtain ⟨q1, q2⟩ := hq _ _ _ _ hc
                    have hargs := VRs.append v1 (VRs.append (opnds_ok he hla) v2)
                    exact oi_does hdst (by rw [ho]; rfl) hw' (d_callv ho v3 (by simp [List.append_assoc]) q1 (q2 M _ w L _ hargs hI hK))
                  · cases hc
                · rename_i i hy
                  have hy' := opnd_ok he hy
                  simp only [VR] at hy'
                  obtain ⟨B, hB, hv⟩ := hy'
                  split at hc
                  · rename_i la hla
                    split at hc
                    · rename_i Q hQ
                      generalize hcnd : (Nat.beq la.length Q.ps.length && Q.ps.all (Nat.blt · Q.n)) = cnd at hc
                      cases cnd with
                      | false => cases hc
                      | true =>
                        simp only [Bool.and_eq_true] at hcnd
                        simp only [cond_true] at hc
                        exact oi_yieldO hdst ho hw' hv rfl (yield_ok hp hI hQ hB (opnds_ok he hla) hcnd.1 hcnd.2 hc hK)
                    · cases hc
                  · cases hc
                · cases hc
              · cases hc
        · cases h
    · rename_i hw
      have hw' := wantA_ok he hw
      obtain ⟨h1, h2⟩ := hfin _ _ _ h (fun q hq' => hq')
      exact oi_noO h1 hw' (h2 M undef w (Nm.le.refl M) (by simp only [VR]; exact ⟨[], VRs.nil, rfl⟩) hI)
    · cases h
end
end Go.Ev
/- General words for running code of which all is known: any order gives the same. No program. -/
namespace Go.Ev
open Go Go.Sl
section
variable {P : Program} {c : Cx} {p : Evs}

theorem bitOf_eq (m t : Nat) : bitOf m t = m.testBit t := by
  unfold bitOf
  rw [Nat.testBit_eq_decide_div_mod_eq, ← Nat.shiftRight_eq_div_pow]
  cases h : Nat.beq (Nat.mod (Nat.shiftRight m t) 2) 1 with
  | true =>
    have := Nat.eq_of_beq_eq_true h
    exact (decide_eq_true this).symm
  | false =>
    symm
    rw [decide_eq_false_iff_not]
    intro h2
    have h3 : Nat.mod (Nat.shiftRight m t) 2 = 1 := h2
    rw [h3] at h; cases h
theorem bitOf_mk (m x q j : Nat) : bitOf (Nat.lor m (Nat.lor (Nat.shiftLeft 1 x) q)) j = true ↔ bitOf m j = true ∨ j = x ∨ bitOf q j = true := by
  simp only [bitOf_eq]
  have : Nat.lor m (Nat.lor (Nat.shiftLeft 1 x) q) = m ||| ((1 <<< x) ||| q) := rfl
  rw [this, Nat.testBit_or, Nat.testBit_or]
  have h1 : (1 <<< x).testBit j = decide (j = x) := by
    rw [Nat.one_shiftLeft, Nat.testBit_two_pow]
    exact decide_eq_decide.2 ⟨fun h => h.symm, fun h => h.symm⟩
  rw [h1]
  simp only [Bool.or_eq_true, decide_eq_true_eq]

theorem fold_anc (done : List Nat) (j : Nat) : ∀ (l : List Edge) (m : Nat), bitOf (l.foldl (fun m ed => bif Region.binds .any ed then Nat.lor m (Nat.lor (Nat.shiftLeft 1 ed.on) (done.getD ed.on 0)) else m) m) j = true →
    bitOf m j = true ∨ ∃ ed ∈ l, Region.binds .any ed = true ∧ (j = ed.on ∨ bitOf (done.getD ed.on 0) j = true)
  | [], m, h => .inl h
  | ed :: l, m, h => by
    rw [List.foldl_cons] at h
    rcases fold_anc done j l _ h with h1 | ⟨ed', h1, h2⟩
    · cases hb : Region.binds .any ed with
      | true =>
        rw [hb] at h1
        simp only [cond_true] at h1
        rcases (bitOf_mk _ _ _ _).1 h1 with h1 | h1
        · exact .inl h1
        · exact .inr ⟨ed, by simp, hb, h1⟩
      | false =>
        rw [hb] at h1
        exact .inl h1
    · exact .inr ⟨ed', List.mem_cons_of_mem _ h1, h2⟩
theorem bitOf_zero (j : Nat) : bitOf 0 j = false := by rw [bitOf_eq]; simp

theorem ancs_spec : ∀ (l : List Oper) (done : List Nat) {i : Nat} {o : Oper} {an j : Nat}, l[i]? = some o → (ancs l done)[i]? = some an → bitOf an j = true →
    ∃ ed ∈ o.after, Region.binds .any ed = true ∧ (j = ed.on ∨ ∃ an', (done ++ ancs l done)[ed.on]? = some an' ∧ bitOf an' j = true)
  | [], _, i, _, _, _, h, _, _ => by simp at h
  | o :: l, done, 0, o', an, j, h, h1, h2 => by
    simp at h; subst h
    simp only [ancs, List.getElem?_cons_zero, Option.some.injEq] at h1
    subst h1
    rcases fold_anc done j _ _ h2 with h3 | ⟨ed, h3, h4, h5⟩
    · rw [bitOf_zero] at h3; cases h3
    · refine ⟨ed, by simpa using h3, h4, h5.imp id fun h6 => ?_⟩
      rw [List.getD_eq_getElem?_getD] at h6
      cases hd : done[ed.on]? with
      | none => rw [hd] at h6; simp [bitOf_zero] at h6
      | some an' =>
        rw [hd] at h6
        have hlt : ed.on < done.length := by
          rcases Nat.lt_or_ge ed.on done.length with h | h
          · exact h
          · rw [List.getElem?_eq_none h] at hd; cases hd
        exact ⟨an', by rw [List.getElem?_append_left hlt]; exact hd, h6⟩
  | o :: l, done, i + 1, o', an, j, h, h1, h2 => by
    simp at h
    simp only [ancs, List.getElem?_cons_succ] at h1
    obtain ⟨ed, h3, h4, h5⟩ := ancs_spec l _ h h1 h2
    refine ⟨ed, h3, h4, h5.imp id fun h6 => ?_⟩
    obtain ⟨an', h7, h8⟩ := h6
    exact ⟨an', by rw [← h7]; simp only [ancs, List.append_assoc, List.singleton_append], h8⟩

theorem whoDst_some {t : Nat} : ∀ (l : List Oper) (i : Nat) {j : Nat}, whoDst t l i = some j → i ≤ j ∧ ∃ o, l[j - i]? = some o ∧ o.dst = some t
  | [], i, j, h => by cases h
  | o :: l, i, j, h => by
    simp only [whoDst] at h
    cases hd : o.dst with
    | none =>
      simp only [hd] at h
      obtain ⟨h1, o', h2, h3⟩ := whoDst_some l (i + 1) h
      exact ⟨by omega, o', by rw [show j - i = (j - (i + 1)) + 1 by omega]; simpa using h2, h3⟩
    | some d =>
      simp only [hd] at h
      cases hb : Nat.beq d t with
      | true =>
        rw [hb] at h; cases h
        exact ⟨Nat.le_refl _, o, by simp, by rw [hd, Nat.eq_of_beq_eq_true hb]⟩
      | false =>
        rw [hb] at h
        obtain ⟨h1, o', h2, h3⟩ := whoDst_some l (i + 1) h
        exact ⟨by omega, o', by rw [show j - i = (j - (i + 1)) + 1 by omega]; simpa using h2, h3⟩
theorem whoDst_none {t : Nat} : ∀ (l : List Oper) (i : Nat), whoDst t l i = none → ∀ o ∈ l, o.dst ≠ some t
  | [], _, _, o, ho => by cases ho
  | q :: l, i, h, o, ho => by
    simp only [whoDst] at h
    cases hd : q.dst with
    | none =>
      simp only [hd] at h
      rcases List.mem_cons.1 ho with rfl | ho
      · rw [hd]; simp
      · exact whoDst_none l (i + 1) h o ho
    | some d =>
      simp only [hd] at h
      cases hb : Nat.beq d t with
      | true => rw [hb] at h; cases h
      | false =>
        rw [hb] at h
        rcases List.mem_cons.1 ho with rfl | ho
        · rw [hd]; rintro ⟨⟩; simp at hb
        · exact whoDst_none l (i + 1) h o ho

theorem bindA_get {ops : List Oper} {an : Nat} {vals : List AV} {ae : List (Nat × AV)} {t : Nat} {a : AV} : ∀ {ts : List Nat} {env : List (Nat × AV)}, bindA ops an vals ae ts = some env → eget env t = some a →
    (∃ j, whoDst t ops 0 = some j ∧ bitOf an j = true ∧ vals[j]? = some a) ∨ (whoDst t ops 0 = none ∧ eget ae t = some a)
  | [], env, h, hg => by simp only [bindA, Option.some.injEq] at h; subst h; cases hg
  | u :: ts, env, h, hg => by
    simp only [bindA] at h
    split at h
    · rename_i l hl
      split at h
      · rename_i j hj
        cases hb : bitOf an j with
        | false => rw [hb] at h; cases h
        | true =>
          rw [hb] at h
          simp only [cond_true] at h
          split at h
          · rename_i b hv
            cases h
            rw [eget_cons] at hg
            by_cases hu : u = t
            · subst hu
              simp only [Nat.beq_refl, cond_true, Option.some.injEq] at hg
              subst hg
              exact .inl ⟨j, hj, hb, hv⟩
            · rw [beq_ne hu] at hg
              exact bindA_get hl hg
          · cases h
      · rename_i hj
        split at h
        · rename_i b hb
          cases h
          rw [eget_cons] at hg
          by_cases hu : u = t
          · subst hu
            simp only [Nat.beq_refl, cond_true, Option.some.injEq] at hg
            subst hg
            exact .inr ⟨hj, hb⟩
          · rw [beq_ne hu] at hg
            exact bindA_get hl hg
        · cases h
          exact bindA_get hl hg
    · cases h
end
end Go.Ev
