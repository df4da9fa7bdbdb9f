/- General words for running code of which all is known: code, one level more. No program. -/
import Derived.Test.YtahhbplejfjmnaaGreatDoorEF
import Derived.Test.YtahhbplejfjmnaaGreatDoorEE
import Derived.Test.YtahhbplejfjmnaaGreatDoorEG
import Derived.Scope
namespace Go.Ev
open Go Go.Sl
section
variable {P : Program} {c : Cx} {p : Evs}

theorem loopA_ok (hp : SoundCode P p) {fr : Fr} {r : Option Nat} {b : Code} (hr : fr.rnd = false → r = none) : ∀ (m : Nat) {ae : List (Nat × AV)} {dsA : List Nat} {s : St} {outs : List Out}, loopA (p.code fr b) m ae dsA s = some outs →
    ∀ {M : Nm} {ds : List Nat} {e : Env} {w : World} {L : List HP} {N R : NP} {E : Nat → NP}, EnvR M ae e → DsR M dsA ds → Inv M s w L → PostO M L outs N R E → RoundsI r P fr.n b R E m ds e w
  | 0, _, _, _, _, h, _, _, _, _, _, _, _, _, _, _, _, _ => by cases h
  | m + 1, ae, dsA, s, outs, h, M, ds, e, w, L, N, R, E, he, hd, hI, hP => by
    have hs : loopA (p.code fr b) (m + 1) ae dsA s = match p.code fr b ae dsA s with
      | some outs => many (fun o => match o.x with
        | .normal => loopA (p.code fr b) m o.ae o.ds o.s
        | _ => some [o]) outs
      | none => none := rfl
    rw [hs] at h
    split at h
    · rename_i outs1 h1
      refine hp fr r b ae dsA s outs1 h1 hr M ds e w L _ R E he hd hI ?_
      intro o ho M' ds' e' w' hle he' hd' hI'
      obtain ⟨q, hq, hm⟩ := many_mem h o ho
      split at hq
      · rename_i hx
        rw [hx]
        exact loopA_ok hp hr m hq he' hd' hI' (N := N) (fun o2 ho2 M2 ds2 e2 w2 hle2 => hP o2 (hm o2 ho2) M2 ds2 e2 w2 (hle.trans hle2))
      · rename_i hx
        cases hq
        exact hP o (hm o (List.mem_singleton_self _)) M' ds' e' w' hle he' hd' hI' |> fun q => by
          revert q
          cases hox : o.x with
          | normal => exact (hx hox).elim
          | ret => exact fun q => q
          | exit i => exact fun q => q
    · cases h

theorem ci_none {r : Option Nat} {n : Nat} {cd : Code} {N R : NP} {E : Nat → NP} {ds : List Nat} {e : Env} {w : World} (h : False) : CI r P n cd N R E ds e w := h.elim

theorem resA_ok (hC : GoodC P c) {M : Nm} {ae : List (Nat × AV)} {e : Env} {s : St} {w : World} {L : List HP} {q : ResultVar} {a : AV} (he : EnvR M ae e) (hI : Inv M s w L) (h : resA c ae s q = some a) : ∃ v, VR M a v ∧ RV P q e w v := by
  cases q with
  | tmp t => exact ⟨_, he t a h, rv_t rfl⟩
  | cell t T =>
    obtain ⟨v, h1, h2⟩ := readA_ok (P := P) (o := { dst := none, op := .load T (.tmp t), type := T, pos := "", after := #[], guard := none }) hC.ty he hI h
    refine ⟨v, h1, fun tmps ht => ?_⟩
    simp only [execOp, Instr.loadAt, Sl.ev] at h2
    simp only [rvE, ht]
    cases hv : e t with
    | pointer ad =>
      cases ad with
      | none => rw [hv] at h2; simp [Instr.sureAddr, Sem.run_bind, stuck, Result.andThen, Sem.run] at h2
      | some ad =>
        rw [hv] at h2
        simp only [Instr.sureAddr, asAddr, Sem.run_bind, hpure, Result.andThen] at h2 ⊢
        cases hl : (loadVar T ad).run P w with
        | ok v' w' => rw [hl] at h2; simp only [Result.ok.injEq, Next.value.injEq] at h2; rw [h2.1, h2.2]
        | halt x w' => rw [hl] at h2; cases h2
    | _ => rw [hv] at h2; simp [Instr.sureAddr, Sem.run_bind, stuck, Result.andThen, Sem.run] at h2
end
end Go.Ev
/- General words for running code of which all is known: what never changes never changes, in the whole run. No program. -/
namespace Go.Ev
open Go Go.Sl
section
variable {c : Cx} {p : Evs}

def KP (p : Evs) : Prop := (∀ fr cd ae ds s outs, p.code fr cd ae ds s = some outs → ∀ o ∈ outs, o.s.k = s.k) ∧ (∀ f l s rs, p.call f l s = some rs → ∀ r ∈ rs, r.2.k = s.k)

theorem many_out {α β : Type} {f : α → Option (List β)} : ∀ {l : List α} {r : List β}, many f l = some r → ∀ x ∈ r, ∃ a ∈ l, ∃ q, f a = some q ∧ x ∈ q
  | [], r, h, x, hx => by
    have : r = [] := by
      have h0 : many f [] = some [] := rfl
      rw [h0] at h; cases h; rfl
    rw [this] at hx; cases hx
  | b :: l, r, h, x, hx => by
    have hm : many f (b :: l) = match f b with
      | some r => match many f l with
        | some q => some (r ++ q)
        | none => none
      | none => none := rfl
    rw [hm] at h
    split at h
    · rename_i r1 h1
      split at h
      · rename_i q1 h2
        cases h
        rcases List.mem_append.1 hx with hx | hx
        · exact ⟨b, by simp, r1, h1, hx⟩
        · obtain ⟨a, ha, q, h3, h4⟩ := many_out h2 x hx
          exact ⟨a, List.mem_cons_of_mem _ ha, q, h3, h4⟩
      · cases h
    · cases h

theorem kp_calls (hp : KP p) {ae : List (Nat × AV)} {s : St} {cl : Call} {rs : List (AV × St)} (h : callsA p ae s cl = some rs) : ∀ r ∈ rs, r.2.k = s.k := by
  unfold callsA at h
  split at h
  · split at h
    · split at h
      · exact hp.2 _ _ _ _ h
      · cases h
    · split at h
      · split at h
        · simp only [Bool.cond_eq_ite] at h
          split at h
          · split at h
            · rename_i outs h1
              intro r hr
              obtain ⟨o, ho, q, h2, h3⟩ := many_out h r hr
              have hk1 := hp.1 _ _ _ _ _ _ h1 o ho
              split at h2
              · split at h2
                · rename_i outs2 h4
                  obtain ⟨o2, ho2, q2, h5, h6⟩ := many_out h2 r h3
                  have hk2 := hp.1 _ _ _ _ _ _ h4 o2 ho2
                  split at h5
                  · cases h5
                    rw [List.mem_singleton.1 h6]
                    exact hk2.trans hk1
                  · cases h5
                · cases h2
              · cases h2
            · cases h
          · cases h
        · cases h
      · cases h
    · cases h
  · cases h
theorem kp_many (hp : KP p) {ae : List (Nat × AV)} {s : St} {op : Op} {rs : List (AV × St)} (h : manyA p ae s op = some rs) : ∀ r ∈ rs, r.2.k = s.k := by
  unfold manyA at h
  split at h
  · exact kp_calls hp h
  · exact kp_next h
theorem kp_turn (hp : KP p) {ae : List (Nat × AV)} {s : St} {op : Op} {r : AV × St} (h : turnA c p ae s op = some r) : r.2.k = s.k := by
  unfold turnA at h
  split at h
  · rename_i r' hr; cases h; exact kp_opB hr
  · split at h
    · split at h
      · split at h
        · split at h
          · rename_i r' hc
            cases h
            exact kp_calls hp hc _ (List.mem_singleton_self _)
          · cases h
        · cases h
      · cases h
    · cases h
theorem kp_recs (hp : KP p) {ops : List Oper} {ae : List (Nat × AV)} : ∀ {l : List Oper} {ans : List Nat} {j : Nat} {vals : List AV} {nm : Nat} {pd : Pend} {s : St} {recs : List Rec}, recsA c p ops ae l ans j vals nm pd s = some recs → ∀ k, (stK recs s k).k = s.k
  | [], ans, j, vals, nm, pd, s, recs, h, k => by
    simp only [recsA, Option.some.injEq] at h; subst h; rfl
  | o :: l, ans, j, vals, nm, pd, s, recs, h, k => by
    simp only [recsA] at h
    split at h
    · cases h
    · split at h
      · split at h
        · split at h
          · rename_i rs hrs; cases h; exact kp_recs hp hrs k
          · cases h
        · simp only [Bool.cond_eq_ite] at h
          split at h
          · split at h
            · split at h
              · rename_i rs hrs; cases h; exact kp_recs hp hrs k
              · cases h
            · cases h
          · split at h
            · split at h
              · rename_i rs hrs; cases h; exact kp_recs hp hrs k
              · cases h
            · split at h
              · rename_i r hr
                split at h
                · rename_i rs hrs
                  cases h
                  cases k with
                  | zero => rfl
                  | succ k => exact (kp_recs hp hrs k).trans (kp_turn hp hr : r.2.k = (⟨_, s.nx, s.k⟩ : St).k)
                · cases h
              · cases h
        · cases h
      · cases h
theorem kp_reg (hp : KP p) {n : Nat} {l : List Oper} {ae : List (Nat × AV)} {s : St} {q : List (Nat × AV) × St} (h : regA c p n l ae s = some q) : q.2.k = s.k := by
  unfold regA at h
  simp only [Bool.cond_eq_ite] at h
  split at h
  · rename_i recs hr
    split at h
    · cases h; exact kp_recs hp hr _
    · cases h
  · cases h
theorem kp_ops (hp : KP p) {n : Nat} {all : List Oper} : ∀ (l : List Oper) {ae : List (Nat × AV)} {s : St} {rs : List (List (Nat × AV) × St)}, opsA c p n all l ae s = some rs → ∀ q ∈ rs, q.2.k = s.k
  | [], ae, s, rs, h, q, hq => by
    have : opsA c p n all [] ae s = some [(ae, s)] := rfl
    rw [this] at h; cases h
    rw [List.mem_singleton.1 hq]
  | o :: l, ae, s, rs, h, q, hq => by
    have hstep : opsA c p n all (o :: l) ae s = (
      let fin (a : AV) (s : St) := match o.dst with
        | some d => bif Nat.blt d n then opsA c p n all l ((d, a) :: ae) s else none
        | none => opsA c p n all l ae s
      match wantA all ae o with
      | some true => match opB c ae s o.op with
        | some r => fin r.1 r.2
        | none => match manyA p ae s o.op with
          | some rs => match rs with
            | [] => none
            | [r] => fin r.1 r.2
            | rs => many (fun r => fin r.1 r.2) rs
          | none => none
      | some false => fin (.tup []) s
      | none => none) := rfl
    rw [hstep] at h
    clear hstep
    have hfin : ∀ (a : AV) (s' : St) (rs' : List (List (Nat × AV) × St)), (match o.dst with
        | some d => bif Nat.blt d n then opsA c p n all l ((d, a) :: ae) s' else none
        | none => opsA c p n all l ae s') = some rs' → ∀ q ∈ rs', q.2.k = s'.k := by
      intro a s' rs' hf
      simp only [Bool.cond_eq_ite] at hf
      split at hf
      · split at hf
        · exact kp_ops hp l hf
        · cases hf
      · exact kp_ops hp l hf
    simp only at h
    split at h
    · split at h
      · rename_i r' hr
        exact (hfin _ _ _ h q hq).trans (kp_opB hr)
      · split at h
        · rename_i rs0 hc
          have hk := kp_many hp hc
          split at h
          · cases h
          · exact (hfin _ _ _ h q hq).trans (hk _ (List.mem_singleton_self _))
          · obtain ⟨r', hr', q', h1, h2⟩ := many_out h q hq
            exact (hfin _ _ _ h1 q h2).trans (hk r' hr')
        · cases h
    · exact hfin _ _ _ h q hq
    · cases h
theorem kp_loop (hp : KP p) {fr : Fr} {b : Code} : ∀ (m : Nat) {ae : List (Nat × AV)} {ds : List Nat} {s : St} {outs : List Out}, loopA (p.code fr b) m ae ds s = some outs → ∀ o ∈ outs, o.s.k = s.k
  | 0, ae, ds, s, outs, h => by cases h
  | m + 1, ae, ds, s, outs, h => by
    have hs : loopA (p.code fr b) (m + 1) ae ds s = match p.code fr b ae ds s with
      | some outs => many (fun o => match o.x with
        | .normal => loopA (p.code fr b) m o.ae o.ds o.s
        | _ => some [o]) outs
      | none => none := rfl
    rw [hs] at h
    split at h
    · rename_i outs1 h1
      intro o ho
      obtain ⟨o1, ho1, q, h2, h3⟩ := many_out h o ho
      have hk := hp.1 _ _ _ _ _ _ h1 o1 ho1
      split at h2
      · exact (kp_loop hp m h2 o h3).trans hk
      · cases h2; rw [List.mem_singleton.1 h3]; exact hk
    · cases h
theorem kp_ret {fn : Func} {o : Out} {rs : List (AV × St)} (h : retA c fn o = some rs) : ∀ r ∈ rs, r.2.k = o.s.k := by
  unfold retA at h
  split at h
  · cases h
  · split at h
    · split at h
      · cases h; intro r hr; rw [List.mem_singleton.1 hr]
      · cases h
    · cases h

theorem mem_ins {k : Kx} {r x : AV × St} : ∀ {qs : List (AV × St)}, x ∈ insJ k r qs → x = r ∨ x ∈ qs ∨ x.2.k = k
  | [], h => by simp only [insJ, List.mem_singleton] at h; exact .inl h
  | q :: qs, h => by
    simp only [insJ, Bool.cond_eq_ite] at h
    split at h
    · rcases List.mem_cons.1 h with rfl | h
      · exact .inr (.inr rfl)
      · exact .inr (.inl (List.mem_cons_of_mem _ h))
    · rcases List.mem_cons.1 h with rfl | h
      · exact .inr (.inl (by simp))
      · rcases mem_ins h with h | h | h
        · exact .inl h
        · exact .inr (.inl (List.mem_cons_of_mem _ h))
        · exact .inr (.inr h)
theorem kp_join {k : Kx} : ∀ {rs : List (AV × St)}, (∀ r ∈ rs, r.2.k = k) → ∀ r ∈ joinA k rs, r.2.k = k
  | [], _, r, h => by simp [joinA] at h
  | [q], hk, r, h => by simp only [joinA] at h; exact hk r h
  | q :: q' :: rs, hk, r, h => by
    simp only [joinA] at h
    rcases mem_ins h with rfl | h | h
    · exact hk _ (by simp)
    · exact kp_join (rs := q' :: rs) (fun r hr => hk r (List.mem_cons_of_mem _ hr)) r (by simpa only [joinA] using h)
    · exact h

theorem kp_step (hp : KP p) (hc : ∀ f l s rs, c.con f l s = some rs → ∀ r ∈ rs, r.2.k = s.k) : KP (step c p) := by
  constructor
  · intro fr cd ae ds s outs h
    simp only [step] at h
    cases cd with
    | skip => cases h; intro o ho; rw [List.mem_singleton.1 ho]
    | label l => cases h; intro o ho; rw [List.mem_singleton.1 ho]
    | ret => cases h; intro o ho; rw [List.mem_singleton.1 ho]
    | exit i => cases h; intro o ho; rw [List.mem_singleton.1 ho]
    | scope b =>
      simp only [Bool.cond_eq_ite] at h
      split at h
      · cases h
      · exact hp.1 _ _ _ _ _ _ h
    | seq a b =>
      simp only at h
      split at h
      · rename_i outs1 h1
        intro o ho
        obtain ⟨o1, ho1, q, h2, h3⟩ := many_out h o ho
        have hk := hp.1 _ _ _ _ _ _ h1 o1 ho1
        split at h2
        · exact (hp.1 _ _ _ _ _ _ h2 o h3).trans hk
        · cases h2; rw [List.mem_singleton.1 h3]; exact hk
      · cases h
    | cond x a b =>
      simp only [Bool.cond_eq_ite] at h
      split at h
      · split at h
        · exact hp.1 _ _ _ _ _ _ h
        · exact hp.1 _ _ _ _ _ _ h
      · cases h
    | block id b =>
      simp only at h
      split at h
      · rename_i outs1 h1
        cases h
        intro o ho
        obtain ⟨o1, ho1, rfl⟩ := List.mem_map.1 ho
        have hk := hp.1 _ _ _ _ _ _ h1 o1 ho1
        simp only [Bool.cond_eq_ite]
        split
        · split
          · exact hk
          · exact hk
        · exact hk
      · cases h
    | loop b => exact kp_loop hp _ h
    | region id ops dr =>
      simp only [Bool.cond_eq_ite] at h
      split at h
      · split at h
        · rename_i r hr
          cases h
          intro o ho; rw [List.mem_singleton.1 ho]; exact kp_reg hp hr
        · cases h
      · split at h
        · rename_i rs hrs
          cases h
          intro o ho
          obtain ⟨q, hq, rfl⟩ := List.mem_map.1 ho
          exact kp_ops hp _ hrs q hq
        · cases h
    | rangeFunc g ps assign body =>
      simp only [Bool.cond_eq_ite] at h
      split at h
      · cases h
      · split at h
        · split at h
          · rename_i rs hrs
            intro o ho
            obtain ⟨r, hr, q, h2, h3⟩ := many_out h o ho
            have hk := hp.2 _ _ _ _ hrs r hr
            split at h2
            · cases h2; rw [List.mem_singleton.1 h3]; exact hk
            · cases h2
          · cases h
        · cases h
    | goto l => cases h
    | refuse y => cases h
  · intro f l s rs h
    simp only [step] at h
    split at h
    · rename_i rs' hcon
      cases h
      exact hc f l s _ hcon
    · split at h
      · split at h
        · simp only [Bool.cond_eq_ite] at h
          split at h
          · split at h
            · rename_i outs ho
              split at h
              · rename_i rs' hrs
                cases h
                refine kp_join (fun r hr => ?_)
                obtain ⟨o, hom, q, h2, h3⟩ := many_out hrs r hr
                exact (kp_ret h2 r h3).trans (hp.1 _ _ _ _ _ _ ho o hom)
              · cases h
            · cases h
          · cases h
        · cases h
      · cases h
theorem kp_evs (hc : ∀ f l s rs, c.con f l s = some rs → ∀ r ∈ rs, r.2.k = s.k) : ∀ k, KP (evs c k)
  | 0 => ⟨fun _ _ _ _ _ _ h => (by cases h), fun _ _ _ _ h => (by cases h)⟩
  | k + 1 => kp_step (kp_evs hc k) hc

/-! ### joining -/
theorem entsEq_ok : ∀ {l m : List (AV × AV × Nat)}, entsEq l m = true → l = m
  | [], [], _ => rfl
  | [], _ :: _, h => by simp [entsEq] at h
  | _ :: _, [], h => by simp [entsEq] at h
  | (a, b, i) :: l, (a', b', i') :: m, h => by
    simp only [entsEq, Bool.and_eq_true] at h
    obtain ⟨⟨⟨h1, h2⟩, h3⟩, h4⟩ := h
    rw [avEq_ok h1, avEq_ok h2, Nat.eq_of_beq_eq_true h3, entsEq_ok h4]
theorem objEq_ok {a b : AObj} (h : objEq a b = true) : a = b := by
  cases a <;> cases b <;> simp only [objEq, Bool.and_eq_true, Bool.false_eq_true] at h
  · rw [Nat.eq_of_beq_eq_true h.1, avsEq_ok h.2]
  · rw [avsEq_ok h]
  · rw [Nat.eq_of_beq_eq_true h.1, entsEq_ok h.2]
  · have h1 := h.1
    rw [lexEq_ok] at h1
    rw [of_decide_eq_true h1, Nat.eq_of_beq_eq_true h.2]
  · rfl
theorem inter_get : ∀ (t t' : Tr AObj) (i : Nat) (o : AObj), (interTr t t').get i = some o → t.get i = some o ∧ t'.get i = some o
  | .leaf, t', i, o, h => by simp only [interTr, Tr.get_leaf] at h; cases h
  | .node _ _ _, .leaf, i, o, h => by simp only [interTr, Tr.get_leaf] at h; cases h
  | .node a l r, .node a' l' r', i, o, h => by
    simp only [interTr, Tr.get_node] at h ⊢
    cases h0 : Nat.beq i 0 with
    | true =>
      rw [h0] at h
      simp only [cond_true] at h ⊢
      split at h
      · simp only [Bool.cond_eq_ite] at h
        split at h
        · rename_i he
          cases h
          exact ⟨rfl, by rw [objEq_ok he]⟩
        · cases h
      · cases h
    | false =>
      rw [h0] at h
      simp only [cond_false] at h ⊢
      cases h1 : Nat.beq (i % 2) 1 with
      | true => rw [h1] at h; exact inter_get l l' _ o h
      | false => rw [h1] at h; exact inter_get r r' _ o h

theorem hp_less {M : Nm} {g g' : Nat → Option AObj} {w : World} {L : List HP} (hs : Sat w (hp M g :: L)) (h : ∀ i o, g' i = some o → g i = some o) : Sat w (hp M g' :: L) := by
  obtain ⟨R, F, h1, h2, F1, F2, h3, h4, ⟨g1, g2, g3⟩, h6⟩ := hs
  have hin : ∀ b, (∃ i o B, g' i = some o ∧ M.ρ i = some B ∧ b = B.b) → F1 b := fun b ⟨i, o, B, e1, e2, e3⟩ => (g1 b).2 ⟨i, o, B, h i o e1, e2, e3⟩
  refine ⟨R, fun b => (∃ i o B, g' i = some o ∧ M.ρ i = some B ∧ b = B.b) ∨ F2 b, fun b hR hF => ?_, fun b hb => ?_, fun b => ∃ i o B, g' i = some o ∧ M.ρ i = some B ∧ b = B.b, F2, fun b => Iff.rfl, fun b hb => h4 b (hin b hb), ⟨fun b => Iff.rfl, fun i o hi => g2 i o (h i o hi), fun i j o o' B B' hi hj => g3 i j o o' B B' (h i o hi) (h j o' hj)⟩, h6⟩
  · refine h1 b hR ((h3 b).2 ?_)
    exact hF.imp (hin b) id
  · refine h2 b ?_
    rcases hb with hb | hb
    · exact .inl ((h3 b).2 (hb.imp (hin b) id))
    · exact .inr hb

theorem Inv.less {M : Nm} {s : St} {w : World} {L : List HP} (hI : Inv M s w L) {h' : Tr AObj} {nx' : Nat} {k : Kx} (hh : ∀ i o, h'.get i = some o → s.h.get i = some o) (hn : s.nx ≤ nx') (hk : s.k = k) : Inv M ⟨h', nx', k⟩ w L := by
  subst hk
  exact ⟨hp_less hI.sat hh, ⟨fun i hi => hI.k.fresh i (Nat.le_trans hn hi), hI.k.gl, hI.k.sg⟩⟩

theorem ins_ok {M : Nm} {L : List HP} {K : Value → World → Prop} {k : Kx} {r : AV × St} (hr : r.2.k = k) : ∀ {qs : List (AV × St)}, (∀ q ∈ qs, q.2.k = k) → (∀ q ∈ insJ k r qs, Eff M q L K) → Eff M r L K ∧ ∀ q ∈ qs, Eff M q L K
  | [], _, h => ⟨h r (by simp [insJ]), fun q hq => by cases hq⟩
  | q :: qs, hk, h => by
    simp only [insJ, Bool.cond_eq_ite] at h
    split at h
    · rename_i he
      have h1 := h _ (List.mem_cons_self)
      refine ⟨fun M' v w' hle hv hI => h1 M' v w' hle (by rw [avEq_ok he]; exact hv) (hI.less (fun i o ho => (inter_get _ _ i o ho).2) (Nat.le_max_right _ _) hr), fun x hx => ?_⟩
      rcases List.mem_cons.1 hx with rfl | hx
      · exact fun M' v w' hle hv hI => h1 M' v w' hle hv (hI.less (fun i o ho => (inter_get _ _ i o ho).1) (Nat.le_max_left _ _) (hk _ (by simp)))
      · exact h x (List.mem_cons_of_mem _ hx)
    · obtain ⟨h1, h2⟩ := ins_ok hr (fun x hx => hk x (List.mem_cons_of_mem _ hx)) (fun x hx => h x (List.mem_cons_of_mem _ hx))
      refine ⟨h1, fun x hx => ?_⟩
      rcases List.mem_cons.1 hx with rfl | hx
      · exact h _ (by simp)
      · exact h2 x hx
theorem join_ok {M : Nm} {L : List HP} {K : Value → World → Prop} {k : Kx} : ∀ {rs : List (AV × St)}, (∀ r ∈ rs, r.2.k = k) → (∀ r ∈ joinA k rs, Eff M r L K) → ∀ r ∈ rs, Eff M r L K
  | [], _, _, r, hr => by cases hr
  | [q], _, h, r, hr => h r (by simpa [joinA] using hr)
  | q :: q' :: rs, hk, h, r, hr => by
    have hj : joinA k (q :: q' :: rs) = insJ k q (joinA k (q' :: rs)) := rfl
    rw [hj] at h
    have hk' : ∀ r ∈ q' :: rs, r.2.k = k := fun r hr => hk r (List.mem_cons_of_mem _ hr)
    obtain ⟨h1, h2⟩ := ins_ok (hk q (by simp)) (kp_join hk') h
    rcases List.mem_cons.1 hr with rfl | hr
    · exact h1
    · exact join_ok hk' h2 r hr
end
end Go.Ev
/- General words for running code of which all is known: code, one level more, continued. No program. -/
namespace Go.Ev
open Go Go.Sl
section
variable {P : Program} {c : Cx} {p : Evs}

theorem ci_label {r : Option Nat} {n l : Nat} {N R : NP} {E : Nat → NP} {ds : List Nat} {e : Env} {w : World} (h : N ds e w) : CI r P n (.label l) N R E ds e w := fun _ ha => wpIn_label ⟨ds, e, ha, h⟩
theorem ci_scope {n : Nat} {b : Code} {N R : NP} {E : Nat → NP} {ds : List Nat} {e : Env} {w : World} (h : CI none P n b N R E ds e w) : CI none P n (.scope b) N R E ds e w := by
  intro a ha
  have hw : WF none = Fence.wide := rfl
  rw [hw]
  refine wpIn_wide.2 (wp_scope_straight ?_)
  have h1 := h a ha
  rw [hw] at h1
  refine wp_mono (wpIn_wide.1 h1) ?_
  intro ex a' w' q
  cases ex with
  | goto l => exact q.elim
  | _ => exact q

theorem step_code (hC : GoodC P c) (hp : SoundCode P p) (hq : SoundCall P p) : SoundCode P (step c p) := by
  intro fr r cd ae dsA s outs h hr M ds e w L N R E he hd hI hP
  simp only [step] at h
  cases cd with
  | skip => simp only [Option.some.injEq] at h; subst h; exact ci_skip (hP _ (List.mem_singleton_self _) M ds e w (Nm.le.refl M) he hd hI)
  | ret => simp only [Option.some.injEq] at h; subst h; exact ci_ret (hP _ (List.mem_singleton_self _) M ds e w (Nm.le.refl M) he hd hI)
  | exit i => simp only [Option.some.injEq] at h; subst h; exact ci_exit (hP _ (List.mem_singleton_self _) M ds e w (Nm.le.refl M) he hd hI)
  | seq a b =>
    simp only at h
    split at h
    · rename_i outs1 h1
      refine ci_seq (hp fr r a ae dsA s outs1 h1 hr M ds e w L _ R E he hd hI ?_)
      intro o ho M' ds' e' w' hle he' hd' hI'
      obtain ⟨q, hq1, hm⟩ := many_mem h o ho
      cases hx : o.x with
      | normal =>
        simp only [hx] at hq1
        exact hp fr r b o.ae o.ds o.s q hq1 hr M' ds' e' w' L N R E he' hd' hI' (fun o2 ho2 M2 ds2 e2 w2 hle2 => hP o2 (hm o2 ho2) M2 ds2 e2 w2 (hle.trans hle2))
      | ret =>
        simp only [hx, Option.some.injEq] at hq1; subst hq1
        have := hP o (hm o (List.mem_singleton_self _)) M' ds' e' w' hle he' hd' hI'
        rw [hx] at this; exact this
      | exit i =>
        simp only [hx, Option.some.injEq] at hq1; subst hq1
        have := hP o (hm o (List.mem_singleton_self _)) M' ds' e' w' hle he' hd' hI'
        rw [hx] at this; exact this
    · cases h
  | cond x a b =>
    simp only at h
    split at h
    · rename_i t ht
      have ht' := opnd_ok he ht
      simp only [VR] at ht'
      cases t with
      | true => exact ci_yes ht' rfl (hp fr r a ae dsA s outs h hr M ds e w L N R E he hd hI hP)
      | false => exact ci_no ht' rfl (hp fr r b ae dsA s outs h hr M ds e w L N R E he hd hI hP)
    · cases h
  | block id b =>
    simp only at h
    split at h
    · rename_i outs1 h1
      simp only [Option.some.injEq] at h; subst h
      refine ci_block (hp fr r b ae dsA s outs1 h1 hr M ds e w L _ R _ he hd hI ?_)
      intro o ho M' ds' e' w' hle he' hd' hI'
      have hP' := fun o' (ho' : o' ∈ _) => hP o' ho' M' ds' e' w' hle
      cases hx : o.x with
      | normal =>
        have := hP' o (List.mem_map.2 ⟨o, ho, by simp only [hx]⟩) he' hd' hI'
        rw [hx] at this; exact this
      | ret =>
        have := hP' o (List.mem_map.2 ⟨o, ho, by simp only [hx]⟩) he' hd' hI'
        rw [hx] at this; exact this
      | exit i =>
        show bkI id N E i ds' e' w'
        unfold bkI
        cases hb : Nat.beq i id with
        | true => exact hP' ⟨.normal, o.ae, o.ds, o.s⟩ (List.mem_map.2 ⟨o, ho, by simp only [hx, hb, cond_true]⟩) he' hd' hI'
        | false =>
          have := hP' o (List.mem_map.2 ⟨o, ho, by simp only [hx, hb, cond_false]⟩) he' hd' hI'
          rw [hx] at this; exact this
    · cases h
  | loop b => exact ci_rounds 1048576 (loopA_ok hp hr 1048576 h he hd hI hP)
  | region id ops dr =>
    cases dr with
    | true =>
      simp only [cond_true] at h
      split at h
      · rename_i q hrs
        simp only [Option.some.injEq] at h; subst h
        exact regA_ok hC hp hq hC.mix hrs he hI (fun M' e' w' hle he' hI' => hP ⟨.normal, trim fr.lose q.1, dsA, q.2⟩ (List.mem_singleton_self _) M' ds e' w' hle (he'.trim _) (hd.mono hle) hI')
      · cases h
    | false =>
      simp only [cond_false] at h
      split at h
      · rename_i rs hrs
        simp only [Option.some.injEq] at h; subst h
        have hreg := opsA_ok hC hp hq (r := r) (ds := ds) ops.toList hrs he hI (N := N) (fun q hq' M' e' w' hle he' hI' =>
          hP ⟨.normal, trim fr.lose q.1, dsA, q.2⟩ (List.mem_map.2 ⟨q, hq', rfl⟩) M' ds e' w' hle (he'.trim _) (hd.mono hle) hI')
        have := ci_region (R := R) (E := E) (id := id) hreg
        simpa using this
      · cases h
  | rangeFunc g ps assign body =>
    simp only at h
    cases hrd : fr.rnd with
    | true => rw [hrd] at h; cases h
    | false =>
      obtain rfl := hr hrd
      rw [hrd] at h
      simp only [cond_false] at h
      split at h
      · rename_i f xs ys hg
        have hg' := opnd_ok he hg
        simp only [VR] at hg'
        obtain ⟨vs, us, v1, v2, v3⟩ := hg'
        split at h
        · rename_i rs hrs
          obtain ⟨q1, q2⟩ := hq _ _ _ _ hrs
          refine ci_range v3 q1 (fun fn tmps ht1 ht2 => ?_)
          have s1 := hI.sat.new (.deferred (some []))
          obtain ⟨M1, m1, n1, I1⟩ := hI.newb (w' := w.alloc (.deferred (some []))) s1 (hI.lack (Nat.le_refl _)) .deferred ⟨w.heap.size, 0, 0⟩ rfl (fun _ _ _ => rfl)
          have s2 := I1.sat.new (.loop { state := .ready, pending := none, fn, tmps, params := ps, assign, body, defers := w.heap.size })
          have hsz : (w.alloc (.deferred (some []))).heap.size = w.heap.size + 1 := by show (w.heap.push _).size = _; simp
          obtain ⟨M2, m2, n2, I2⟩ := I1.newb (w' := (w.alloc (.deferred (some []))).alloc (.loop { state := .ready, pending := none, fn, tmps, params := ps, assign, body, defers := w.heap.size })) s2 (I1.lack (Nat.le_refl _))
            (.loop ⟨ae, fr.n, fr.lose, ps.toList, assign, body⟩) ⟨(w.alloc (.deferred (some []))).heap.size, 0, 0⟩ rfl (fun M' hle _ => ⟨e, _, rfl, he.mono (m1.trans hle), rfl, rfl, ht1, ht2, rfl, rfl, rfl⟩)
          have m12 := m1.trans m2
          have hargs : VRs M2 (xs ++ (.yield (s.nx + 1) :: ys)) (vs ++ (.func (.yield (w.heap.size + 1)) #[] #[] :: us)) := by
            refine VRs.append (VRs.mono m12 _ v1) (VRs.cons ?_ (VRs.mono m12 _ v2))
            simp only [VR]
            exact ⟨_, n2, by rw [hsz]⟩
          refine q2 M2 _ _ L _ (by simpa using hargs) I2 ?_
          intro r' hr' M3 v w3 m3 _ I3
          obtain ⟨qq, hq3, hm⟩ := many_mem h r' hr'
          split at hq3
          · rename_i Q hQ
            cases hq3
            obtain ⟨B, ob, hB, hO, hs⟩ := I3.outb hQ
            have hB2 := m3.ρ _ _ n2
            rw [hB] at hB2
            cases hB2
            obtain ⟨e3, Lp, rfl, _, hst, hpe, _⟩ := hO
            have hb := hs.obj 0 rfl
            rw [hsz] at hb
            refine ⟨Lp, hb, by rw [hst]; simp, hpe, ?_⟩
            have I4 : Inv M3 ⟨r'.2.h.put (s.nx + 1) none, r'.2.nx, r'.2.k⟩ w3 (obj (w.heap.size + 1) (.loop Lp) :: L) := ⟨(by rw [← hsz]; exact hs.perm (rot3 _ _ _ _)), I3.k⟩
            have I5 := inv_write (ob' := .loop { Lp with state := .exhausted }) I4
            have I6 : Inv M3 ⟨r'.2.h.put (s.nx + 1) none, r'.2.nx, r'.2.k⟩ (w3.putObj (w.heap.size + 1) (.loop { Lp with state := .exhausted })) L := ⟨(I5.sat.perm (rot3' _ _ _ _)).drop, I5.k⟩
            exact hP ⟨.normal, ae, s.nx :: dsA, ⟨r'.2.h.put (s.nx + 1) none, r'.2.nx, r'.2.k⟩⟩ (hm _ (List.mem_singleton_self _)) M3 _ _ _ (m12.trans m3) (he.mono (m12.trans m3)) ⟨_, _, (m2.trans m3).ρ _ _ n1, rfl, hd.mono (m12.trans m3)⟩ I6
          · cases hq3
        · cases h
      · cases h
  | scope b =>
    simp only at h
    cases hrd : fr.rnd with
    | true => rw [hrd] at h; cases h
    | false =>
      obtain rfl := hr hrd
      rw [hrd] at h
      simp only [cond_false] at h
      exact ci_scope (hp fr none b ae dsA s outs h (fun _ => rfl) M ds e w L N R E he hd hI hP)
  | label l => simp only [Option.some.injEq] at h; subst h; exact ci_label (hP _ (List.mem_singleton_self _) M ds e w (Nm.le.refl M) he hd hI)
  | goto l => cases h
  | refuse y => cases h
end
end Go.Ev
/- General words for running code of which all is known: a call, one level more; the whole run. No program. -/
namespace Go.Ev
open Go Go.Sl
section
variable {P : Program} {c : Cx} {p : Evs}

theorem reses_ok (hC : GoodC P c) {M : Nm} {ae : List (Nat × AV)} {e : Env} {s : St} {w : World} {L : List HP} (he : EnvR M ae e) (hI : Inv M s w L) : ∀ {qs : List ResultVar} {l : List AV}, resesA c ae s qs = some l →
    ∃ vs, VRs M l vs ∧ ∀ tmps : Array Value, (∀ t, tmps.getD t undef = e t) → (qs.mapM fun r => rvE r tmps).run P w = .ok vs w
  | [], l, h => by simp only [resesA, Option.some.injEq] at h; subst h; exact ⟨[], VRs.nil, fun _ _ => by simp⟩
  | q :: qs, l, h => by
    simp only [resesA] at h
    split at h
    · rename_i a ha
      split at h
      · rename_i l' hl
        cases h
        obtain ⟨v, h1, h2⟩ := resA_ok hC he hI ha
        obtain ⟨vs, h3, h4⟩ := reses_ok hC he hI hl
        refine ⟨v :: vs, VRs.cons h1 h3, fun tmps ht => ?_⟩
        simp only [List.mapM_cons, Sem.run_bind, h2 tmps ht, Result.andThen, h4 tmps ht, hpure]
      · cases h
    · cases h
theorem tupA_ok {M : Nm} {l : List AV} {vs : List Value} (h : VRs M l vs) : VR M (tupA l) (if h : vs.toArray.size = 1 then vs.toArray[0] else .tuple vs.toArray) := by
  have hl := h.length
  cases l with
  | nil => simp only [VRs] at h; subst h; simp only [tupA, VR]; exact ⟨[], VRs.nil, by simp⟩
  | cons a l =>
    cases l with
    | nil =>
      simp only [VRs] at h
      obtain ⟨v, us, rfl, h2, rfl⟩ := h
      simpa [tupA] using h2
    | cons b l =>
      simp only [tupA, VR]
      refine ⟨vs, h, ?_⟩
      rw [dif_neg]
      simp [hl]

/-- the results are read when the marks' blocks are gone: they were read ahead; what they say stands -/
theorem ends_ok (hC : GoodC P c) {fn : Func} {Q : Value → World → Prop} {e : Env} {ae : List (Nat × AV)} : ∀ (dsA : List Nat) {M : Nm} {ds : List Nat} {s : St} {w : World} {L : List HP} {h' : Tr AObj} {l : List AV}, takeA s.h dsA = some h' → EnvR M ae e → DsR M dsA ds → Inv M s w L →
    resesA c ae ⟨h', s.nx, s.k⟩ fn.results.toList = some l → Eff M (tupA l, ⟨h', s.nx, s.k⟩) L Q → Sl.Ends P fn Q e ds w
  | [], M, ds, s, w, L, h', l, ht, he, hd, hI, hr, hK => by
    simp only [takeA, Option.some.injEq] at ht
    simp only [DsR] at hd
    subst hd
    have hI' : Inv M ⟨h', s.nx, s.k⟩ w L := by rw [← ht]; exact hI
    obtain ⟨vs, h1, h2⟩ := reses_ok hC he hI' hr
    intro tmps htm
    refine ⟨_, ?_, hK M _ w (Nm.le.refl M) (tupA_ok h1) hI'⟩
    rw [results_rv]
    have := h2 tmps htm
    rw [← Array.toArray_toList (xs := fn.results), List.mapM_toArray, map_bind]
    simp only [Sem.run_bind, this, Result.andThen, hpure]
  | d :: dsA, M, ds, s, w, L, h', l, ht, he, hd, hI, hr, hK => by
    simp only [takeA] at ht
    split at ht
    · rename_i hdf
      obtain ⟨B, ds', hB, rfl, hd'⟩ := hd
      obtain ⟨B', q, hB', hO, hs⟩ := hI.outb hdf
      rw [hB] at hB'; cases hB'
      have hO : q = .deferred (some []) := hO
      subst hO
      have I4 : Inv M ⟨s.h.put d none, s.nx, s.k⟩ w (obj B.b (.deferred (some [])) :: L) := ⟨hs.perm (rot3 _ _ _ _), hI.k⟩
      have I5 := inv_write (ob' := .deferred none) I4
      have I6 : Inv M ⟨s.h.put d none, s.nx, s.k⟩ (w.putObj B.b (.deferred none)) L := ⟨(I5.sat.perm (rot3' _ _ _ _)).drop, I5.k⟩
      exact ⟨hs.obj 0 rfl, ends_ok hC dsA (s := ⟨s.h.put d none, s.nx, s.k⟩) ht he hd' I6 hr hK⟩
    · cases ht

theorem argsA_get : ∀ (l : List AV) (i t : Nat) {a : AV}, eget (argsA l i) t = some a → i ≤ t ∧ l[t - i]? = some a
  | [], i, t, a, h => by cases h
  | b :: l, i, t, a, h => by
    simp only [argsA, eget_cons] at h
    by_cases hi : i = t
    · subst hi
      simp only [Nat.beq_refl, cond_true] at h
      exact ⟨Nat.le_refl _, by simpa using h⟩
    · rw [beq_ne hi, cond_false] at h
      obtain ⟨h1, h2⟩ := argsA_get l (i + 1) t h
      refine ⟨by omega, ?_⟩
      rw [show t - i = (t - (i + 1)) + 1 by omega]
      simpa using h2
theorem argsA_ok {M : Nm} {l : List AV} {vs : List Value} (h : VRs M l vs) : EnvR M (argsA l 0) (env0 vs) := by
  intro t a ht
  obtain ⟨_, h2⟩ := argsA_get l 0 t ht
  obtain ⟨v, h3, h4⟩ := h.get h2
  simp only [Nat.sub_zero] at h3
  simp only [env0, List.getD_eq_getElem?_getD, h3, Option.getD_some]
  exact h4

theorem step_call (hC : GoodC P c) (hp : SoundCode P p) (hk : KP p) : SoundCall P (step c p) := by
  intro f l s rs h
  simp only [step] at h
  split at h
  · rename_i rs' hcon
    cases h
    exact (hC.con f l s _ hcon).2
  split at h
  · rename_i fi hfi
    split at h
    · rename_i cd hcd
      cases hb : Nat.ble l.length fi.fn.ntmps with
      | false => rw [hb] at h; cases h
      | true =>
        rw [hb] at h
        simp only [cond_true] at h
        split at h
        · rename_i outs ho
          split at h
          rotate_left
          · cases h
          rename_i rs0 hrs0
          cases h
          refine ⟨hC.call f fi hfi, fun M vs w L K hl hI hK => ?_⟩
          have hK := join_ok (fun r hr => by
            obtain ⟨o, hom, q, h2, h3⟩ := many_out hrs0 r hr
            exact (kp_ret h2 r h3).trans (hk.1 _ _ _ _ _ _ ho o hom)) hK
          have h := hrs0
          refine ci_enter (hC.fn f fi hfi) hcd (by rw [hl.length]; exact Nat.le_of_ble_eq_true hb) ?_
          refine hp ⟨fi.fn.ntmps, fi.lose, false⟩ none cd _ [] s outs ho (fun _ => rfl) M [] _ w L _ _ _ (argsA_ok hl) rfl hI ?_
          intro o hom M' ds e w' hle he hd hI'
          obtain ⟨q, hq, hm⟩ := many_mem h o hom
          have key : (∀ i, o.x ≠ .exit i) → Sl.Ends P fi.fn K e ds w' := by
            intro hne
            have hr : retA c fi.fn o = match takeA o.s.h o.ds with
              | some h => match resesA c o.ae ⟨h, o.s.nx, o.s.k⟩ fi.fn.results.toList with
                | some l => some [(tupA l, ⟨h, o.s.nx, o.s.k⟩)]
                | none => none
              | none => none := by
              unfold retA
              split
              · rename_i i hx; exact (hne i hx).elim
              · rfl
            rw [hr] at hq
            split at hq
            · rename_i h' ht
              split at hq
              · rename_i l' hl'
                cases hq
                exact ends_ok hC o.ds ht he hd hI' hl' ((hK _ (hm _ (List.mem_singleton_self _))).mono hle)
              · cases hq
            · cases hq
          cases hx : o.x with
          | normal => exact key (by simp [hx])
          | ret => exact key (by simp [hx])
          | exit i => simp only [retA, hx] at hq; cases hq
        · cases h
    · cases h
  · cases h

theorem evs_ok (hC : GoodC P c) : ∀ k, SoundCode P (evs c k) ∧ SoundCall P (evs c k)
  | 0 => ⟨fun _ _ _ _ _ _ _ h => (by cases h), fun _ _ _ _ h => (by cases h)⟩
  | k + 1 => ⟨step_code hC (evs_ok hC k).1 (evs_ok hC k).2, step_call hC (evs_ok hC k).1 (kp_evs (fun f l s rs h => (hC.con f l s rs h).1) k)⟩
end
end Go.Ev
