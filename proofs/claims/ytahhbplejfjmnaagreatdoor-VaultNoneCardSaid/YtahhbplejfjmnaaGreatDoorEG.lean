/- General words for running code of which all is known: a statement whose operations come in any order, the plain part of its truth. No program. -/
import Derived.Test.YtahhbplejfjmnaaGreatDoorEF
import Derived.Test.YtahhbplejfjmnaaGreatDoorEE
namespace Go.Ev
open Go Go.Sl
section
variable {P : Program} {c : Cx} {p : Evs}

theorem stK_zero : ∀ (recs : List Rec) (s : St), stK recs s 0 = s
  | [], _ => rfl
  | r :: rs, s => by
    unfold stK
    cases hk : r.kd <;> simp only []
    · exact stK_zero rs s
    · exact stK_zero rs s
    · exact stK_zero rs s

/-- how many changers there are ahead -/
def cnt (recs : List Rec) (i : Nat) : Nat := turns (recs.take i)
theorem cnt_zero (recs : List Rec) : cnt recs 0 = 0 := rfl
theorem cnt_succ (r : Rec) (rs : List Rec) (i : Nat) : cnt (r :: rs) (i + 1) = (if isTurn r.kd then 1 else 0) + cnt rs i := by
  unfold cnt
  simp only [List.take_succ_cons, turns]
  cases r.kd <;> simp [isTurn] <;> omega
theorem turns_cons (r : Rec) (rs : List Rec) : turns (r :: rs) = (if isTurn r.kd then 1 else 0) + turns rs := by
  simp only [turns]
  cases r.kd <;> simp [isTurn] <;> omega
theorem cnt_le : ∀ (recs : List Rec) (i : Nat), cnt recs i ≤ turns recs
  | [], i => by simp [cnt, turns]
  | r :: rs, 0 => by simp [cnt_zero]
  | r :: rs, i + 1 => by rw [cnt_succ, turns_cons]; have := cnt_le rs i; omega
theorem cnt_lt : ∀ {recs : List Rec} {i : Nat} {r : Rec}, recs[i]? = some r → r.kd = .turn → cnt recs i < turns recs
  | [], i, _, h, _ => by simp at h
  | r :: rs, 0, _, h, hk => by simp at h; subst h; rw [cnt_zero, turns_cons, hk]; simp [isTurn]; omega
  | r :: rs, i + 1, r', h, hk => by
    rw [cnt_succ, turns_cons]
    have := cnt_lt (recs := rs) (i := i) (by simpa using h) hk
    omega
theorem cnt_mono : ∀ {recs : List Rec} {i j : Nat} {r : Rec}, recs[i]? = some r → r.kd = .turn → i < j → cnt recs i < cnt recs j
  | [], i, j, _, h, _, _ => by simp at h
  | r :: rs, 0, j, _, h, hk, hj => by
    simp at h; subst h
    obtain ⟨j, rfl⟩ : ∃ m, j = m + 1 := ⟨j - 1, by omega⟩
    rw [cnt_zero, cnt_succ, hk]; simp [isTurn]; omega
  | r :: rs, i + 1, j, r', h, hk, hj => by
    obtain ⟨j, rfl⟩ : ∃ m, j = m + 1 := ⟨j - 1, by omega⟩
    rw [cnt_succ, cnt_succ]
    have := cnt_mono (recs := rs) (i := i) (j := j) (by simpa using h) hk (by omega)
    omega
theorem stK_turn : ∀ {recs : List Rec} {i : Nat} {r : Rec} (s : St), recs[i]? = some r → r.kd = .turn → stK recs s (cnt recs i + 1) = r.post
  | [], i, _, _, h, _ => by simp at h
  | r :: rs, 0, _, s, h, hk => by
    simp at h; subst h
    rw [cnt_zero]; unfold stK; simp only [hk]; exact stK_zero rs _
  | r :: rs, i + 1, r', s, h, hk => by
    rw [cnt_succ]
    have ih := fun s => stK_turn (recs := rs) (i := i) s (by simpa using h) hk
    unfold stK
    cases hr : r.kd with
    | turn => simp only [isTurn, if_true, Nat.add_comm 1]; exact ih _
    | idle => simp only [isTurn, Bool.false_eq_true, if_false, Nat.zero_add]; exact ih _
    | read => simp only [isTurn, Bool.false_eq_true, if_false, Nat.zero_add]; exact ih _
    | make _ _ => simp only [isTurn, Bool.false_eq_true, if_false, Nat.zero_add]; exact ih _

theorem ancs_len : ∀ (l : List Oper) (done : List Nat), (ancs l done).length = l.length
  | [], _ => rfl
  | o :: l, done => by simp only [ancs, List.length_cons]; rw [ancs_len l]

def RecOk (c : Cx) (p : Evs) (ops : List Oper) (ae : List (Nat × AV)) (o : Oper) (an : Nat) (vals : List AV) (s : St) (pd : Pend) (nm : Nat) (r : Rec) : Prop :=
  bindA ops an vals ae (looks ops o) = some r.env ∧ match r.kd with
    | .idle => wantA ops r.env o = some false ∧ r.val = .tup []
    | .read => wantA ops r.env o = some true ∧ rdA c.X r.env s o.op = some r.val
    | .turn => wantA ops r.env o = some true ∧ turnA c p r.env ⟨mergeP an pd s.h, s.nx, s.k⟩ o.op = some (r.val, r.post)
    | .make i ob => wantA ops r.env o = some true ∧ isMk o.op = true ∧ i = nm ∧ newA c.X r.env nm o.op = some (r.val, ob)

theorem mkN_succ (o : Oper) (l : List Oper) (i nm : Nat) : nm + mkN ((o :: l).take (i + 1)) = (bif isMk o.op then nm + 1 else nm) + mkN (l.take i) := by
  simp only [List.take_succ_cons, mkN]
  cases isMk o.op <;> simp <;> omega

theorem recsA_ok {ops : List Oper} {ae : List (Nat × AV)} : ∀ {l : List Oper} {ans : List Nat} {j0 : Nat} {vals : List AV} {nm : Nat} {pd : Pend} {s : St} {recs : List Rec}, recsA c p ops ae l ans j0 vals nm pd s = some recs →
    recs.length = l.length ∧ ∀ i o, l[i]? = some o → ∃ an r, ans[i]? = some an ∧ recs[i]? = some r ∧ RecOk c p ops ae o an (vals ++ (recs.take i).map Rec.val) (stK recs s (cnt recs i)) (pdAt recs ans j0 pd i) (nm + mkN (l.take i)) r
  | [], ans, j0, vals, nm, pd, s, recs, h => by
    simp only [recsA, Option.some.injEq] at h; subst h
    exact ⟨rfl, fun i o hi => by simp at hi⟩
  | o :: l, ans, j0, vals, nm, pd, s, recs, h => by
    simp only [recsA] at h
    split at h
    · cases h
    · rename_i an ans
      split at h
      · rename_i env hb
        split at h
        · rename_i hw
          split at h
          · rename_i rs hrs
            cases h
            obtain ⟨h1, h2⟩ := recsA_ok hrs
            refine ⟨by simp [h1], fun i o' hi => ?_⟩
            cases i with
            | zero => simp at hi; subst hi; exact ⟨an, _, rfl, rfl, by simpa using hb, hw, rfl⟩
            | succ i =>
              obtain ⟨an', r', e1, e2, e3⟩ := h2 i o' (by simpa using hi)
              refine ⟨an', r', by simpa using e1, by simpa using e2, ?_⟩
              rw [cnt_succ, mkN_succ]; simpa [stK, isTurn, pdAt] using e3
          · cases h
        · rename_i hw
          cases hmk : isMk o.op with
          | true =>
            rw [hmk] at h
            simp only [cond_true] at h
            split at h
            · rename_i r hr
              split at h
              · rename_i rs hrs
                cases h
                obtain ⟨h1, h2⟩ := recsA_ok hrs
                refine ⟨by simp [h1], fun i o' hi => ?_⟩
                cases i with
                | zero => simp at hi; subst hi; exact ⟨an, _, rfl, rfl, by simpa using hb, hw, hmk, by simp [mkN], by simpa [mkN] using hr⟩
                | succ i =>
                  obtain ⟨an', r', e1, e2, e3⟩ := h2 i o' (by simpa using hi)
                  refine ⟨an', r', by simpa using e1, by simpa using e2, ?_⟩
                  rw [cnt_succ, mkN_succ, hmk]; simpa [stK, isTurn, pdAt] using e3
              · cases h
            · cases h
          | false =>
            rw [hmk] at h
            simp only [cond_false] at h
            split at h
            · rename_i a ha
              split at h
              · rename_i rs hrs
                cases h
                obtain ⟨h1, h2⟩ := recsA_ok hrs
                refine ⟨by simp [h1], fun i o' hi => ?_⟩
                cases i with
                | zero => simp at hi; subst hi; exact ⟨an, _, rfl, rfl, by simpa using hb, hw, by rw [cnt_zero, stK_zero]; exact ha⟩
                | succ i =>
                  obtain ⟨an', r', e1, e2, e3⟩ := h2 i o' (by simpa using hi)
                  refine ⟨an', r', by simpa using e1, by simpa using e2, ?_⟩
                  rw [cnt_succ, mkN_succ, hmk]; simpa [stK, isTurn, pdAt] using e3
              · cases h
            · split at h
              · rename_i r hr
                split at h
                · rename_i rs hrs
                  cases h
                  obtain ⟨h1, h2⟩ := recsA_ok hrs
                  refine ⟨by simp [h1], fun i o' hi => ?_⟩
                  cases i with
                  | zero => simp at hi; subst hi; exact ⟨an, _, rfl, rfl, by simpa using hb, hw, by rw [cnt_zero, stK_zero]; exact hr⟩
                  | succ i =>
                    obtain ⟨an', r', e1, e2, e3⟩ := h2 i o' (by simpa using hi)
                    refine ⟨an', r', by simpa using e1, by simpa using e2, ?_⟩
                    rw [cnt_succ, mkN_succ, hmk]; simpa [stK, isTurn, pdAt, Nat.add_comm 1] using e3
                · cases h
              · cases h
        · cases h
      · cases h

theorem pdAt_succ (r : Rec) (rs : List Rec) (a : Nat) (as : List Nat) (j : Nat) (pd : Pend) (i : Nat) : pdAt (r :: rs) (a :: as) j pd (i + 1) = pdAt rs as (j + 1) (match r.kd with
    | .make nm ob => (j, nm, ob) :: pd
    | .turn => leftP a pd
    | _ => pd) i := rfl
/-- no changer between has it among those ahead -/
def Quiet (recs : List Rec) (ans : List Nat) (lo hi q : Nat) : Prop := ∀ c r a, lo ≤ c → c < hi → recs[c]? = some r → ans[c]? = some a → r.kd = .turn → bitOf a q = false
theorem Quiet.cons {r : Rec} {rs : List Rec} {a : Nat} {as : List Nat} {lo i q : Nat} : Quiet (r :: rs) (a :: as) (lo + 1) (i + 1) q ↔ Quiet rs as lo i q := by
  constructor
  · intro h c r' a' h1 h2 h3 h4 h5
    exact h (c + 1) r' a' (by omega) (by omega) (by simpa using h3) (by simpa using h4) h5
  · intro h c r' a' h1 h2 h3 h4 h5
    obtain ⟨c, rfl⟩ : ∃ m, c = m + 1 := ⟨c - 1, by omega⟩
    exact h c r' a' (by omega) (by omega) (by simpa using h3) (by simpa using h4) h5
theorem Quiet.zero {r : Rec} {rs : List Rec} {a : Nat} {as : List Nat} {i q : Nat} : Quiet (r :: rs) (a :: as) 0 (i + 1) q ↔ (r.kd = .turn → bitOf a q = false) ∧ Quiet rs as 0 i q := by
  constructor
  · intro h
    refine ⟨fun hk => h 0 r a (Nat.le_refl _) (by omega) rfl rfl hk, Quiet.cons.1 fun c r' a' h1 h2 => h c r' a' (by omega) h2⟩
  · rintro ⟨h1, h2⟩ c r' a' _ hc e1 e2 e3
    cases c with
    | zero => simp at e1 e2; subst e1; subst e2; exact h1 e3
    | succ c => exact h2 c r' a' (by omega) (by omega) (by simpa using e1) (by simpa using e2) e3

theorem pdAt_mem : ∀ (i : Nat) {recs : List Rec} {ans : List Nat} {j0 : Nat} {pd : Pend} {p : Nat × Nat × AObj}, i ≤ recs.length → recs.length = ans.length →
    (p ∈ pdAt recs ans j0 pd i ↔ (p ∈ pd ∧ Quiet recs ans 0 i p.1) ∨ ∃ m r nm ob, m < i ∧ recs[m]? = some r ∧ r.kd = .make nm ob ∧ p = (j0 + m, nm, ob) ∧ Quiet recs ans (m + 1) i p.1)
  | 0, recs, ans, j0, pd, p, _, _ => by
    have : pdAt recs ans j0 pd 0 = pd := by cases recs <;> cases ans <;> rfl
    rw [this]
    constructor
    · exact fun h => .inl ⟨h, fun c r a _ hc => by omega⟩
    · rintro (h | ⟨m, r, nm, ob, h1, _⟩)
      · exact h.1
      · omega
  | i + 1, [], _, _, _, _, hi, _ => by simp at hi
  | i + 1, _ :: _, [], _, _, _, _, hl => by simp at hl
  | i + 1, r :: rs, a :: as, j0, pd, p, hi, hl => by
    rw [pdAt_succ, pdAt_mem i (by simpa using hi) (by simpa using hl)]
    have hex : (∃ m r' nm ob, m < i + 1 ∧ (r :: rs)[m]? = some r' ∧ r'.kd = .make nm ob ∧ p = (j0 + m, nm, ob) ∧ Quiet (r :: rs) (a :: as) (m + 1) (i + 1) p.1) ↔
        (∃ nm ob, r.kd = .make nm ob ∧ p = (j0, nm, ob) ∧ Quiet rs as 0 i p.1) ∨ ∃ m r' nm ob, m < i ∧ rs[m]? = some r' ∧ r'.kd = .make nm ob ∧ p = (j0 + 1 + m, nm, ob) ∧ Quiet rs as (m + 1) i p.1 := by
      constructor
      · rintro ⟨m, r', nm, ob, h1, h2, h3, h4, h5⟩
        cases m with
        | zero => simp at h2; subst h2; exact .inl ⟨nm, ob, h3, by simpa using h4, Quiet.cons.1 h5⟩
        | succ m => exact .inr ⟨m, r', nm, ob, by omega, by simpa using h2, h3, by rw [h4]; congr 1; omega, Quiet.cons.1 h5⟩
      · rintro (⟨nm, ob, h1, h2, h3⟩ | ⟨m, r', nm, ob, h1, h2, h3, h4, h5⟩)
        · exact ⟨0, r, nm, ob, by omega, rfl, h1, by simpa using h2, Quiet.cons.2 h3⟩
        · exact ⟨m + 1, r', nm, ob, by omega, by simpa using h2, h3, by rw [h4]; congr 1; omega, Quiet.cons.2 h5⟩
    rw [hex, Quiet.zero]
    cases hk : r.kd with
    | idle => simp
    | read => simp
    | turn =>
      simp only [leftP, List.mem_filter, Bool.not_eq_true', reduceCtorEq, false_and, exists_false, false_or, forall_const]
      constructor
      · rintro (⟨⟨h1, h2⟩, h3⟩ | h)
        · exact .inl ⟨h1, h2, h3⟩
        · exact .inr h
      · rintro (⟨h1, h2, h3⟩ | h)
        · exact .inl ⟨⟨h1, h2⟩, h3⟩
        · exact .inr h
    | make nm ob =>
      simp only [List.mem_cons, reduceCtorEq, false_implies, true_and, Kd.make.injEq]
      constructor
      · rintro (⟨h1 | h1, h2⟩ | h)
        · exact .inr (.inl ⟨nm, ob, ⟨rfl, rfl⟩, h1, h2⟩)
        · exact .inl ⟨h1, h2⟩
        · exact .inr (.inr h)
      · rintro (⟨h1, h2⟩ | ⟨nm', ob', ⟨rfl, rfl⟩, h1, h2⟩ | h)
        · exact .inl ⟨.inr h1, h2⟩
        · exact .inl ⟨.inl h1, h2⟩
        · exact .inr h

theorem backOk_spec : ∀ {l : List Oper} {b i : Nat} {o : Oper}, backOk l b = true → l[i]? = some o → ∀ ed ∈ o.after, Region.binds .any ed = true → ed.on < b + i
  | [], _, _, _, _, h => by simp at h
  | o :: l, b, 0, o', hb, h => by
    simp at h; subst h
    simp only [backOk, Bool.and_eq_true, List.all_eq_true] at hb
    intro ed he hbn
    have := hb.1 ed (by simpa using he)
    rw [hbn] at this
    have h3 : Nat.blt ed.on b = true := by simpa using this
    exact Nat.le_of_ble_eq_true h3
  | o :: l, b, i + 1, o', hb, h => by
    simp only [backOk, Bool.and_eq_true] at hb
    intro ed he hbn
    have := backOk_spec (i := i) hb.2 (by simpa using h) ed he hbn
    omega
theorem dstOk_in {n : Nat} : ∀ {l : List Oper} {seen : List Nat} {i : Nat} {o : Oper}, dstOk n l seen = true → l[i]? = some o → inO n o.dst = true ∧ ∀ d, o.dst = some d → d ∉ seen
  | [], _, _, _, _, h => by simp at h
  | o :: l, seen, i, o', hb, h => by
    simp only [dstOk] at hb
    cases hd : o.dst with
    | none =>
      simp only [hd] at hb
      cases i with
      | zero => simp at h; subst h; rw [hd]; exact ⟨rfl, by simp⟩
      | succ i => exact dstOk_in hb (by simpa using h)
    | some d =>
      simp only [hd, Bool.and_eq_true] at hb
      cases i with
      | zero =>
        simp at h; subst h
        rw [hd]
        refine ⟨hb.1.1, fun d' hd' hs => ?_⟩
        cases hd'
        have := hb.1.2
        simp only [Bool.not_eq_true', List.any_eq_false] at this
        exact this d hs (by simp)
      | succ i =>
        obtain ⟨h1, h2⟩ := dstOk_in hb.2 (i := i) (by simpa using h)
        exact ⟨h1, fun d' hd' hs => h2 d' hd' (List.mem_cons_of_mem _ hs)⟩
theorem dstOk_inj {n : Nat} : ∀ {l : List Oper} {seen : List Nat} {i j : Nat} {o o' : Oper} {d : Nat}, dstOk n l seen = true → l[i]? = some o → l[j]? = some o' → o.dst = some d → o'.dst = some d → i = j
  | [], _, _, _, _, _, _, _, h, _, _, _ => by simp at h
  | q :: l, seen, i, j, o, o', d, hb, hi, hj, ho, ho' => by
    simp only [dstOk] at hb
    have hrest : ∀ i' j', i = i' + 1 → j = j' + 1 → i = j := by
      intro i' j' e1 e2
      subst e1; subst e2
      cases hd : q.dst with
      | none => simp only [hd] at hb; exact congrArg (· + 1) (dstOk_inj hb (by simpa using hi) (by simpa using hj) ho ho')
      | some d' => simp only [hd, Bool.and_eq_true] at hb; exact congrArg (· + 1) (dstOk_inj hb.2 (by simpa using hi) (by simpa using hj) ho ho')
    cases i with
    | zero =>
      cases j with
      | zero => rfl
      | succ j =>
        simp at hi; subst hi
        simp only [ho, Bool.and_eq_true] at hb
        exact absurd (by simp) ((dstOk_in hb.2 (i := j) (by simpa using hj)).2 d ho')
    | succ i =>
      cases j with
      | zero =>
        simp at hj; subst hj
        simp only [ho', Bool.and_eq_true] at hb
        exact absurd (by simp) ((dstOk_in hb.2 (i := i) (by simpa using hi)).2 d ho)
      | succ j => exact hrest i j rfl rfl

theorem chainOk_spec : ∀ {recs : List Rec} {ans : List Nat} {b : Nat} {prev : Option Nat} {i : Nat} {r : Rec} {an : Nat}, chainOk recs ans b prev = true → recs[i]? = some r → ans[i]? = some an → r.kd = .turn →
    (cnt recs i = 0 ∧ ∀ j, prev = some j → bitOf an j = true) ∨ ∃ j r', recs[j]? = some r' ∧ r'.kd = .turn ∧ cnt recs i = cnt recs j + 1 ∧ bitOf an (b + j) = true
  | [], _, _, _, _, _, _, _, h, _, _ => by simp at h
  | q :: rs, [], _, _, _, _, _, _, _, h, _ => by simp at h
  | q :: rs, a :: as, b, prev, 0, r, an, hb, h, ha, hk => by
    simp at h ha; subst h; subst ha
    simp only [chainOk, hk, Bool.and_eq_true] at hb
    refine .inl ⟨cnt_zero _, fun j hj => ?_⟩
    subst hj; exact hb.1
  | q :: rs, a :: as, b, prev, i + 1, r, an, hb, h, ha, hk => by
    simp only [chainOk] at hb
    have h' : rs[i]? = some r := by simpa using h
    have ha' : as[i]? = some an := by simpa using ha
    cases hq : q.kd with
    | turn =>
      simp only [hq, Bool.and_eq_true] at hb
      rcases chainOk_spec hb.2 h' ha' hk with ⟨h1, h2⟩ | ⟨j, r', h1, h2, h3, h4⟩
      · exact .inr ⟨0, q, by simp, hq, by rw [cnt_succ, cnt_zero, h1, hq]; simp [isTurn], h2 b rfl⟩
      · exact .inr ⟨j + 1, r', by simpa using h1, h2, by rw [cnt_succ, cnt_succ, h3]; omega, by rw [show b + (j + 1) = b + 1 + j by omega]; exact h4⟩
    | idle =>
      simp only [hq] at hb
      rcases chainOk_spec hb h' ha' hk with ⟨h1, h2⟩ | ⟨j, r', h1, h2, h3, h4⟩
      · exact .inl ⟨by rw [cnt_succ, h1, hq]; simp [isTurn], h2⟩
      · exact .inr ⟨j + 1, r', by simpa using h1, h2, by rw [cnt_succ, cnt_succ, h3]; omega, by rw [show b + (j + 1) = b + 1 + j by omega]; exact h4⟩
    | read =>
      simp only [hq] at hb
      rcases chainOk_spec hb h' ha' hk with ⟨h1, h2⟩ | ⟨j, r', h1, h2, h3, h4⟩
      · exact .inl ⟨by rw [cnt_succ, h1, hq]; simp [isTurn], h2⟩
      · exact .inr ⟨j + 1, r', by simpa using h1, h2, by rw [cnt_succ, cnt_succ, h3]; omega, by rw [show b + (j + 1) = b + 1 + j by omega]; exact h4⟩
    | make _ _ =>
      simp only [hq] at hb
      rcases chainOk_spec hb h' ha' hk with ⟨h1, h2⟩ | ⟨j, r', h1, h2, h3, h4⟩
      · exact .inl ⟨by rw [cnt_succ, h1, hq]; simp [isTurn], h2⟩
      · exact .inr ⟨j + 1, r', by simpa using h1, h2, by rw [cnt_succ, cnt_succ, h3]; omega, by rw [show b + (j + 1) = b + 1 + j by omega]; exact h4⟩

theorem skipA_spec {i an k : Nat} : ∀ {recs : List Rec} {ans : List Nat} {j0 q0 : Nat}, skipA i an k recs ans j0 q0 = true →
    ∃ j r b, recs[j]? = some r ∧ r.kd = .turn ∧ ans[j]? = some b ∧ ((k ≤ q0 + cnt recs j ∧ bitOf an (j0 + j) = true) ∨ (q0 + cnt recs j < k ∧ bitOf b i = true))
  | [], _, _, _, h => by simp [skipA] at h
  | _ :: _, [], _, _, h => by simp [skipA] at h
  | r :: rs, b :: bs, j0, q0, h => by
    simp only [skipA] at h
    cases hk : r.kd with
    | turn =>
      simp only [hk, Bool.or_eq_true] at h
      rcases h with h | h
      · refine ⟨0, r, b, by simp, hk, by simp, ?_⟩
        rw [cnt_zero]
        cases hb : Nat.ble k q0 with
        | true => rw [hb] at h; exact .inl ⟨by have := Nat.le_of_ble_eq_true hb; omega, h⟩
        | false => rw [hb] at h; refine .inr ⟨?_, h⟩; rcases Nat.lt_or_ge q0 k with h1 | h1
                   · omega
                   · rw [Nat.ble_eq_true_of_le h1] at hb; cases hb
      · obtain ⟨j, r', b', e1, e2, e3, e4⟩ := skipA_spec h
        refine ⟨j + 1, r', b', by simpa using e1, e2, by simpa using e3, ?_⟩
        rw [cnt_succ, hk]
        simp only [isTurn, if_true]
        rw [show q0 + (1 + cnt rs j) = q0 + 1 + cnt rs j by omega, show j0 + (j + 1) = j0 + 1 + j by omega]
        exact e4
    | idle =>
      simp only [hk] at h
      obtain ⟨j, r', b', e1, e2, e3, e4⟩ := skipA_spec h
      refine ⟨j + 1, r', b', by simpa using e1, e2, by simpa using e3, ?_⟩
      rw [cnt_succ, hk]
      simp only [isTurn, Bool.false_eq_true, if_false, Nat.zero_add]
      rw [show j0 + (j + 1) = j0 + 1 + j by omega]
      exact e4
    | read =>
      simp only [hk] at h
      obtain ⟨j, r', b', e1, e2, e3, e4⟩ := skipA_spec h
      refine ⟨j + 1, r', b', by simpa using e1, e2, by simpa using e3, ?_⟩
      rw [cnt_succ, hk]
      simp only [isTurn, Bool.false_eq_true, if_false, Nat.zero_add]
      rw [show j0 + (j + 1) = j0 + 1 + j by omega]
      exact e4
    | make _ _ =>
      simp only [hk] at h
      obtain ⟨j, r', b', e1, e2, e3, e4⟩ := skipA_spec h
      refine ⟨j + 1, r', b', by simpa using e1, e2, by simpa using e3, ?_⟩
      rw [cnt_succ, hk]
      simp only [isTurn, Bool.false_eq_true, if_false, Nat.zero_add]
      rw [show j0 + (j + 1) = j0 + 1 + j by omega]
      exact e4

theorem upto_spec {q : Nat → Bool} : ∀ {m : Nat}, upto q m = true → ∀ k, k < m → q k = true
  | 0, _, k, hk => by omega
  | m + 1, h, k, hk => by
    simp only [upto, Bool.and_eq_true] at h
    by_cases hkm : k = m
    · subst hkm; exact h.1
    · exact upto_spec h.2 k (by omega)

theorem rdsOk_spec {X : Tr TI} {recs : List Rec} {ans : List Nat} {s : St} {m : Nat} : ∀ {l : List Oper} {rs : List Rec} {as : List Nat} {b q i : Nat} {o : Oper} {r : Rec} {an : Nat}, rdsOk X recs ans s m l rs as b q = true →
    l[i]? = some o → rs[i]? = some r → as[i]? = some an → r.kd = .read → ∀ k, k ≤ m → k = q + cnt rs i ∨ skipA (b + i) an k recs ans 0 0 = true ∨ rdA X r.env (stK recs s k) o.op = some r.val
  | [], _, _, _, _, _, _, _, _, _, h, _, _, _ => by simp at h
  | _ :: _, [], _, _, _, _, _, _, _, _, _, h, _, _ => by simp at h
  | _ :: _, _ :: _, [], _, _, _, _, _, _, _, _, _, h, _ => by simp at h
  | o :: l, r :: rs, a :: as, b, q, 0, o', r', an, h, h1, h2, h3, hk => by
    simp at h1 h2 h3
    subst h1; subst h2; subst h3
    simp only [rdsOk, hk, Bool.and_eq_true] at h
    intro k hkm
    have := upto_spec h.1 k (by omega)
    simp only [Bool.or_eq_true] at this
    rcases this with (h4 | h4) | h4
    · exact .inl (by rw [cnt_zero]; exact Nat.eq_of_beq_eq_true h4)
    · exact .inr (.inl h4)
    · refine .inr (.inr ?_)
      split at h4
      · rename_i a ha; rw [ha, avEq_ok h4]
      · cases h4
  | o :: l, r :: rs, a :: as, b, q, i + 1, o', r', an, h, h1, h2, h3, hk => by
    intro k hkm
    simp only [rdsOk] at h
    rw [cnt_succ, show b + (i + 1) = b + 1 + i by omega]
    have h1' : l[i]? = some o' := by simpa using h1
    have h2' : rs[i]? = some r' := by simpa using h2
    have h3' : as[i]? = some an := by simpa using h3
    cases hr : r.kd with
    | turn =>
      simp only [hr] at h
      have := rdsOk_spec h h1' h2' h3' hk k hkm
      simp only [isTurn, if_true]
      rw [show q + (1 + cnt rs i) = q + 1 + cnt rs i by omega]; exact this
    | idle =>
      simp only [hr] at h
      have := rdsOk_spec h h1' h2' h3' hk k hkm
      simpa [isTurn] using this
    | make _ _ =>
      simp only [hr] at h
      have := rdsOk_spec h h1' h2' h3' hk k hkm
      simpa [isTurn] using this
    | read =>
      simp only [hr, Bool.and_eq_true] at h
      have := rdsOk_spec h.2 h1' h2' h3' hk k hkm
      simpa [isTurn] using this

theorem zipA_get {t : Nat} {a : AV} : ∀ {l : List Oper} {rs : List Rec} {ae : List (Nat × AV)}, eget (zipA l rs ae) t = some a →
    (∃ (i : Nat) (o : Oper) (r : Rec), l[i]? = some o ∧ rs[i]? = some r ∧ o.dst = some t ∧ r.val = a) ∨ ((∀ (i : Nat) (o : Oper) (r : Rec), l[i]? = some o → rs[i]? = some r → o.dst ≠ some t) ∧ eget ae t = some a)
  | [], rs, ae, h => .inr ⟨fun i o r hi => by simp at hi, h⟩
  | o :: l, [], ae, h => .inr ⟨fun i o r _ hr => by simp at hr, h⟩
  | o :: l, r :: rs, ae, h => by
    simp only [zipA] at h
    rcases zipA_get h with ⟨i, o', r', h1, h2, h3⟩ | ⟨h1, h2⟩
    · exact .inl ⟨i + 1, o', r', by simpa using h1, by simpa using h2, h3⟩
    · cases hd : o.dst with
      | none =>
        simp only [hd] at h2
        refine .inr ⟨fun i o' r' e1 e2 => ?_, h2⟩
        cases i with
        | zero => simp at e1; subst e1; rw [hd]; simp
        | succ i => exact h1 i o' r' (by simpa using e1) (by simpa using e2)
      | some d =>
        simp only [hd, eget_cons] at h2
        by_cases hdt : d = t
        · subst hdt
          simp only [Nat.beq_refl, cond_true, Option.some.injEq] at h2
          exact .inl ⟨0, o, r, by simp, by simp, hd, h2⟩
        · rw [beq_ne hdt] at h2
          refine .inr ⟨fun i o' r' e1 e2 => ?_, h2⟩
          cases i with
          | zero => simp at e1; subst e1; rw [hd]; simpa using hdt
          | succ i => exact h1 i o' r' (by simpa using e1) (by simpa using e2)

/-- how many are not listed -/
def unl (listed : Array Bool) (n : Nat) : Nat := (List.range n).countP (fun i => !listed.getD i true)
theorem countP_strict {α : Type} {p q : α → Bool} : ∀ {l : List α} {x : α}, (∀ y, q y = true → p y = true) → x ∈ l → p x = true → q x = false → l.countP q < l.countP p
  | [], x, _, hx, _, _ => by cases hx
  | y :: l, x, h, hx, hp, hq => by
    have hle : l.countP q ≤ l.countP p := List.countP_mono_left (fun z _ hz => h z hz)
    rcases List.mem_cons.1 hx with rfl | hx
    · rw [List.countP_cons_of_pos hp, List.countP_cons_of_neg (by rw [hq]; simp)]; omega
    · have := countP_strict h hx hp hq
      cases hqy : q y with
      | true => rw [List.countP_cons_of_pos hqy, List.countP_cons_of_pos (h y hqy)]; omega
      | false =>
        rw [List.countP_cons_of_neg (by rw [hqy]; simp)]
        have : l.countP p ≤ (y :: l).countP p := by rw [List.countP_cons]; omega
        omega
theorem unl_set {listed : Array Bool} {n i : Nat} (hn : listed.size = n) (hi : listed.getD i true = false) (hlt : i < n) : unl (listed.setIfInBounds i true) n < unl listed n := by
  refine countP_strict (x := i) (fun y hy => ?_) (List.mem_range.2 hlt) (by rw [hi]; rfl) (by simp [hn, hlt])
  by_cases hyi : i = y
  · subst hyi; rw [hi]; rfl
  · rw [getD_set_ne true hyi] at hy; exact hy
end
end Go.Ev
/- General words for running code of which all is known: a statement whose operations come in any order gives the same. No program. -/
namespace Go.Ev
open Go Go.Sl
section
variable {P : Program} {c : Cx} {p : Evs}

theorem rdA_ok (hC : GoodC P c) {M : Nm} {env : List (Nat × AV)} {e : Env} {o : Oper} {s : St} {w : World} {L : List HP} {a : AV} (he : EnvR M env e) (hI : Inv M s w L) (h : rdA c.X env s o.op = some a) :
    ∃ v, VR M a v ∧ (execOp (Sl.ev e) o).run P w = .ok (.value v) w := by
  unfold rdA at h
  split at h
  · rename_i a' ha
    cases h
    obtain ⟨v, h1, h2⟩ := pureA_ok (P := P) hC.ty he ha
    exact ⟨v, h1, h2 w⟩
  · split at h
    · rename_i a' ha
      cases h
      exact readA_ok (P := P) hC.ty he hI ha
    · split at h
      · rename_i a' ha
        cases h
        exact lookA_ok (P := P) hC.ty he hI ha
      split at h
      · rename_i a' ha
        cases h
        exact read2A_ok (P := P) hC.ty he hI ha
      split at h
      · rename_i a' ha
        cases h
        obtain ⟨v, h1, h2⟩ := empA_ok (P := P) hC.ty he ha
        exact ⟨v, h1, h2 w⟩
      split at h
      · rename_i a' ha
        cases h
        obtain ⟨v, h1, h2⟩ := isNilA_ok (P := P) hC.ty he ha
        exact ⟨v, h1, h2 w⟩
      split at h
      · rename_i a' ha
        cases h
        obtain ⟨v, h1, h2⟩ := eqA_ok (P := P) hC.ty he ha
        exact ⟨v, h1, h2 w⟩
      split at h
      · rename_i a' ha
        cases h
        obtain ⟨v, h1, h2⟩ := buildA_ok (P := P) hC.ty he ha
        exact ⟨v, h1, h2 w⟩
      · obtain ⟨v, h1, h2⟩ := pure2A_ok (P := P) hC.ty he h
        exact ⟨v, h1, h2 w⟩

theorem turnA_ok (hC : GoodC P c) (_hp : SoundCode P p) (hq : SoundCall P p) {M : Nm} {env : List (Nat × AV)} {e : Env} {o : Oper} {s : St} {w : World} {L : List HP} {r : AV × St} {K : Value → World → Prop} (he : EnvR M env e) (hI : Inv M s w L)
    (h : turnA c p env s o.op = some r) (hK : Eff M r L K) : isDefer o.op = false ∧ Does P o e w K := by
  unfold turnA at h
  split at h
  · rename_i r' hr
    cases h
    exact opB_ok hC he hI hr hK
  · split at h
    · rename_i cl ho
      obtain ⟨cal, xs, ts⟩ := cl
      split at h
      · rename_i y hcal
        have hcal : cal = .value y := hcal
        subst hcal
        split at h
        · rename_i f fs cs hy
          split at h
          · rename_i r' hc
            cases h
            unfold callsA at hc
            simp only [hy] at hc
            split at hc
            · rename_i la hla
              have hy' := opnd_ok he hy
              simp only [VR] at hy'
              obtain ⟨vs, us, v1, v2, v3⟩ := hy'
              obtain ⟨q1, q2⟩ := hq _ _ _ _ hc
              have hargs := VRs.append v1 (VRs.append (opnds_ok he hla) v2)
              exact ⟨by rw [ho]; rfl, d_callv ho v3 (by simp [List.append_assoc]) q1 (q2 M _ w L _ hargs hI (fun r' hr' => by rw [List.mem_singleton.1 hr']; exact hK))⟩
            · cases hc
          · cases h
        · cases h
      · cases h
    · cases h

/-- an operation that may come up, carried out -/
theorem wpOp_does {r : Option Nat} {n : Nat} {ds : List Nat} {l : List Oper} {Q : Exit → Act → World → Prop} {K : Act → World → Prop} {i : Nat} {o : Oper} {a : Act} {e : Env} {w : World} (hi : l[i]? = some o) (ha : FitsD n ds a e) (hd : inO n o.dst = true) (hdf : isDefer o.op = false)
    (hw : wanted l.toArray e o = true) (h : Does P o e w (fun v w' => ∀ a', FitsD n ds a' (putO e o.dst v) → a' = a.put o.dst v → K a' w')) : wpOpIn (WF r) 0 P l.toArray Q i K a w := by
  unfold wpOpIn
  have : l.toArray[i]? = some o := by simpa using hi
  simp only [this]
  rw [wanted_fitsD ha, if_pos hw]
  refine ⟨fun _ _ => trivial, ?_⟩
  rw [Oper.semAt_eq _ _ _ (fun c hc => by rw [hc] at hdf; cases hdf), ha.ev]
  have h := h.out
  unfold DoesB at h
  unfold Oper.uponIn
  split at h
  · rename_i v w' hr; simp only [hr]; exact h _ (ha.putO hd v) rfl
  · rename_i w' hr; simp only [hr]; exact h _ (ha.putO hd undef) rfl
  · rename_i f args w' hr
    simp only [hr]
    refine ⟨fun hx => by simp [WF, Fence.wide] at hx, (wf_calls h).mono fun e w'' q => ?_⟩
    cases e with
    | returned v => exact q _ (ha.putO hd v) rfl
    | panicked c => exact q.elim
    | outgrown => exact q.elim
  · exact h.elim
theorem wpOp_idle {r : Option Nat} {n : Nat} {ds : List Nat} {l : List Oper} {Q : Exit → Act → World → Prop} {K : Act → World → Prop} {i : Nat} {o : Oper} {a : Act} {e : Env} {w : World} (hi : l[i]? = some o) (ha : FitsD n ds a e)
    (hw : wanted l.toArray e o = false) (h : K (a.put o.dst undef) w) : wpOpIn (WF r) 0 P l.toArray Q i K a w := by
  unfold wpOpIn
  have : l.toArray[i]? = some o := by simpa using hi
  simp only [this]
  rw [wanted_fitsD ha, if_neg (by rw [hw]; simp)]
  exact ⟨fun _ _ => trivial, h⟩

structure RegOk (c : Cx) (p : Evs) (n : Nat) (l : List Oper) (ae : List (Nat × AV)) (nm0 : Nat) (s : St) (recs : List Rec) : Prop where
  len : recs.length = l.length
  recd : ∀ i o, l[i]? = some o → ∃ an r, (ancs l [])[i]? = some an ∧ recs[i]? = some r ∧ RecOk c p l ae o an ((recs.take i).map Rec.val) (stK recs s (cnt recs i)) (pdAt recs (ancs l []) 0 [] i) (nm0 + mkN (l.take i)) r
  back : backOk l 0 = true
  dst : dstOk n l [] = true
  chain : chainOk recs (ancs l []) 0 none = true
  rds : rdsOk c.X recs (ancs l []) s (turns recs) l recs (ancs l []) 0 0 = true

/-! ### blocks that nobody has looked at -/
def sing (M : Nm) (p : Nat × Nat × AObj) : HP := hp M (upd (fun _ => none) p.2.1 (some p.2.2))
def mergeF (b : Nat → Bool) : Pend → (Nat → Option AObj) → Nat → Option AObj
  | [], g => g
  | p :: pd, g => if b p.1 = true then upd (mergeF b pd g) p.2.1 (some p.2.2) else mergeF b pd g
theorem mergeP_get (an : Nat) (h : Tr AObj) : ∀ pd : Pend, (mergeP an pd h).get = mergeF (bitOf an) pd h.get
  | [] => rfl
  | p :: pd => by
    simp only [mergeP, mergeF]
    cases bitOf an p.1 with
    | true => simp only [cond_true, if_true, Tr.get_put, mergeP_get an h pd]
    | false => simp only [cond_false, Bool.false_eq_true, if_false, mergeP_get an h pd]
theorem mergeB_get (h : Tr AObj) : ∀ pd : Pend, (mergeB pd h).get = mergeF (fun _ => true) pd h.get
  | [] => rfl
  | p :: pd => by simp only [mergeB, mergeF, if_true, Tr.get_put, mergeB_get h pd]
theorem mergeF_at0 {b : Nat → Bool} {g : Nat → Option AObj} {n : Nat} : ∀ {pd : Pend}, (∀ p ∈ pd, b p.1 = true → p.2.1 ≠ n) → mergeF b pd g n = g n
  | [], _ => rfl
  | p :: pd, h => by
    simp only [mergeF]
    have ih := mergeF_at0 (g := g) (fun q hq => h q (List.mem_cons_of_mem _ hq))
    split
    · rename_i hb
      rw [upd_other (fun hh => h p (by simp) hb hh.symm)]; exact ih
    · exact ih
theorem mergeF_at1 {b : Nat → Bool} {g : Nat → Option AObj} {p : Nat × Nat × AObj} : ∀ {pd : Pend}, p ∈ pd → b p.1 = true → (∀ q ∈ pd, b q.1 = true → q.2.1 = p.2.1 → q = p) → mergeF b pd g p.2.1 = some p.2.2
  | [], h, _, _ => by cases h
  | q :: pd, h, hb, hu => by
    simp only [mergeF]
    by_cases hq : b q.1 = true ∧ q.2.1 = p.2.1
    · have := hu q (by simp) hq.1 hq.2
      subst this
      rw [if_pos hb, upd_same]
    · have hp : p ∈ pd := by
        rcases List.mem_cons.1 h with rfl | h
        · exact (hq ⟨hb, rfl⟩).elim
        · exact h
      have ih := mergeF_at1 (g := g) hp hb (fun r hr => hu r (List.mem_cons_of_mem _ hr))
      split
      · rename_i hb'
        rw [upd_other (fun hh => hq ⟨hb', hh.symm⟩)]; exact ih
      · exact ih
theorem mergeF_congr {b : Nat → Bool} {g : Nat → Option AObj} {pd pd' : Pend} (h : ∀ p, b p.1 = true → (p ∈ pd ↔ p ∈ pd')) (hu : ∀ p ∈ pd, ∀ q ∈ pd, b p.1 = true → b q.1 = true → p.2.1 = q.2.1 → p = q) : mergeF b pd g = mergeF b pd' g := by
  funext n
  by_cases hex : ∃ p ∈ pd, b p.1 = true ∧ p.2.1 = n
  · obtain ⟨p, hp, hb, rfl⟩ := hex
    rw [mergeF_at1 hp hb (fun q hq hbq he => hu q hq p hp hbq hb he), mergeF_at1 ((h p hb).1 hp) hb (fun q hq hbq he => hu q ((h q hbq).2 hq) p hp hbq hb he)]
  · rw [mergeF_at0 (fun p hp hb he => hex ⟨p, hp, hb, he⟩), mergeF_at0 (fun p hp hb he => hex ⟨p, (h p hb).2 hp, hb, he⟩)]

theorem obj_twice {w : World} {r : Nat} {a b : Obj} {L : List HP} (h : Sat w (obj r a :: obj r b :: L)) : False := by
  obtain ⟨R, F, _, _, F1, F2, h3, h4, ⟨h5, _⟩, G1, G2, h6, _, ⟨h7, _⟩, _⟩ := h
  exact h4 r ((h5 r).2 rfl) ((h6 r).2 (.inl ((h7 r).2 rfl)))
theorem sat_none {w : World} {L : List HP} (M : Nm) (h : Sat w L) : Sat w (hp M (fun _ => none) :: L) := by
  obtain ⟨R, F, h1, h2, h3⟩ := h
  refine ⟨R, F, h1, h2, fun _ => False, F, fun b => by simp, fun b hb => hb.elim, ⟨fun b => ⟨fun h => h.elim, fun ⟨i, o, B, hi, _⟩ => (Option.some_ne_none o hi.symm).elim⟩, fun i o hi => (Option.some_ne_none o hi.symm).elim, fun i j o o' B B' hi _ _ _ _ => (Option.some_ne_none o hi.symm).elim⟩, h3⟩
theorem sing_in {w : World} {M : Nm} {L : List HP} {g : Nat → Option AObj} {p : Nat × Nat × AObj} (h : Sat w (sing M p :: hp M g :: L)) : Sat w (hp M (upd g p.2.1 (some p.2.2)) :: L) := by
  obtain ⟨B, q, h1, h2, h3⟩ := hp_out (i := p.2.1) (o := p.2.2) h (upd_same _ _ _)
  have hg : g p.2.1 = none := by
    cases hq : g p.2.1 with
    | none => rfl
    | some o' =>
      exfalso
      have h4 := h3.perm (rot3 _ _ _ _)
      have h5 := h4.perm (List.Perm.swap _ _ _)
      obtain ⟨B', q', h6, _, h7⟩ := hp_out (i := p.2.1) (o := o') h5 hq
      rw [h1] at h6; cases h6
      -- h7 : obj B q' :: (emptied) :: (emptied) :: obj B q :: L
      have h8 := h7.perm ((List.perm_middle (l₁ := [_, _, _]) (a := obj B.b q) (l₂ := L)))
      exact obj_twice h8
  have h8 : Sat w (obj B.b q :: hp M g :: L) := (h3.perm (List.Perm.swap _ _ _)).drop
  exact hp_in h8 hg h1 h2

theorem merge_in {b : Nat → Bool} {M : Nm} : ∀ (pd : Pend) {w : World} {L : List HP} {A : HP} {g : Nat → Option AObj}, Sat w (hp M g :: A :: (pd.map (sing M) ++ L)) → Sat w (hp M (mergeF b pd g) :: A :: ((pd.filter fun p => !b p.1).map (sing M) ++ L))
  | [], _, _, _, _, h => h
  | p :: pd, w, L, A, g, h => by
    have h1 : Sat w (hp M g :: A :: (pd.map (sing M) ++ (sing M p :: L))) := h.perm ((List.perm_middle.symm.cons A).cons _)
    have h2 := merge_in (b := b) pd h1
    simp only [mergeF]
    cases hb : b p.1 with
    | true =>
      simp only [if_true]
      have hf : (p :: pd).filter (fun p => !b p.1) = pd.filter (fun p => !b p.1) := by simp [hb]
      rw [hf]
      have h3 : Sat w (sing M p :: hp M (mergeF b pd g) :: A :: ((pd.filter fun p => !b p.1).map (sing M) ++ L)) := by
        refine h2.perm ?_
        exact (((List.perm_middle (l₁ := (pd.filter fun p => !b p.1).map (sing M))).cons A).cons _).trans (rot3' _ _ _ _)
      exact sing_in h3
    | false =>
      have hf : (p :: pd).filter (fun p => !b p.1) = p :: pd.filter (fun p => !b p.1) := by simp [hb]
      rw [hf]
      simp only [Bool.false_eq_true, if_false, List.map_cons, List.cons_append]
      exact h2.perm ((List.perm_middle.cons A).cons _)

theorem sings_sub {M M' : Nm} (hm : M.sub M') : ∀ (pd : Pend) {w : World} {Y : List HP} {L : List HP}, Sat w (Y ++ (pd.map (sing M) ++ L)) → Sat w (Y ++ (pd.map (sing M') ++ L))
  | [], _, _, _, h => h
  | p :: pd, w, Y, L, h => by
    simp only [List.map_cons, List.cons_append] at h ⊢
    have h1 : Sat w (sing M p :: (Y ++ (pd.map (sing M) ++ L))) := h.perm List.perm_middle
    have h2 : Sat w (sing M' p :: (Y ++ (pd.map (sing M) ++ L))) := hp_sub hm h1
    exact (sings_sub hm pd (Y := sing M' p :: Y) h2).perm List.perm_middle.symm

theorem newA_does {X : Tr TI} (hX : Types P X) {M : Nm} {env : List (Nat × AV)} {e : Env} {o : Oper} {w : World} {L : List HP} {nm : Nat} {a : AV} {ob : AObj} {K : Value → World → Prop} (he : EnvR M env e) (hs : Sat w L) (h : newA X env nm o.op = some (a, ob))
    (hK : ∀ (B : Blk) q v w', Sat w' (obj B.b q :: L) → (∀ M', M.sub M' → M'.ρ nm = some B → OR M' ob B q ∧ VR M' a v) → K v w') : Does P o e w K := by
  unfold newA at h
  split at h
  · rename_i T ho
    split at h
    · rename_i ti hti
      split at h
      · rename_i z hz
        cases h
        refine d_alloc ho (hX _ _ hti).zero rfl hs (fun q w' hs' => ?_)
        exact hK ⟨q, 0, _⟩ _ _ w' hs' (fun M' _ hB => ⟨cells_new (zeroA_ok hz M'), by simp only [VR]; exact ⟨_, hB, rfl⟩⟩)
      · cases h
    · cases h
  · rename_i T x ho
    split at h
    · rename_i a' ha
      cases h
      have ha' := opnd_ok he ha
      refine d_box ho rfl rfl hs (fun q w' hs' => ?_)
      exact hK ⟨q, 0, _⟩ _ _ w' hs' (fun M' hm hB => ⟨cells_new ((cellsA_ok ha').sub hm), by simp only [VR]; exact ⟨_, hB, rfl⟩⟩)
    · cases h
  · rename_i t ho
    split at h
    · rename_i ti hti
      split at h
      · rename_i kt et hm
        cases h
        refine d_map ho hs (fun q w' hs' => ?_)
        exact hK ⟨q, 0, 0⟩ _ _ w' hs' (fun M' _ hB => ⟨⟨#[], rfl, rfl⟩, by simp only [VR]; exact ⟨_, hB, rfl⟩⟩)
      · cases h
    · cases h
  · cases h

/-- what stands when some are listed -/
structure RegI (n : Nat) (ds : List Nat) (l : List Oper) (ae : List (Nat × AV)) (s : St) (recs : List Rec) (M₀ M : Nm) (L : List HP) (listed : Array Bool) (a : Act) (w : World) (e : Env) (k : Nat) (pd : Pend) : Prop where
  fits : FitsD n ds a e
  vals : ∀ (i d : Nat) (o : Oper) (r : Rec), l[i]? = some o → recs[i]? = some r → o.dst = some d → listed.getD i false = true → VR M r.val (e d)
  rest : ∀ (t : Nat) (a : AV), whoDst t l 0 = none → eget ae t = some a → VR M a (e t)
  sat : Sat w (hp M (stK recs s k).h.get :: old (stK recs s k).k.W :: (pd.map (sing M) ++ L))
  ik : InvK M (stK recs s k).nx (stK recs s k).k
  le : k ≤ turns recs
  pre : ∀ (i : Nat) (r : Rec), recs[i]? = some r → r.kd = .turn → (listed.getD i false = true ↔ cnt recs i < k)
  closed : ∀ (i : Nat) (o : Oper), l[i]? = some o → listed.getD i false = true → ∀ ed ∈ o.after, Region.binds .any ed = true → listed.getD ed.on false = true
  size : listed.size = l.length
  pds : ∀ p, p ∈ pd ↔ ∃ j r nm ob, recs[j]? = some r ∧ r.kd = .make nm ob ∧ p = (j, nm, ob) ∧ listed.getD j false = true ∧ ∀ c rc ac, recs[c]? = some rc → (ancs l [])[c]? = some ac → rc.kd = .turn → cnt recs c < k → bitOf ac j = false
  sub : M₀.sub M
  keep : ∀ i, M₀.res i → M.ρ i = M₀.ρ i
  res : ∀ i, M.res i ↔ M₀.res i ∨ ∃ j r nm ob, recs[j]? = some r ∧ r.kd = .make nm ob ∧ listed.getD j true = false ∧ i = nm
  lack : ∀ j r nm ob, recs[j]? = some r → r.kd = .make nm ob → listed.getD j true = false → M.ρ nm = none ∧ ¬ M₀.res nm

theorem anc_listed {l : List Oper} {listed : Array Bool} (hb : backOk l 0 = true) (hc : ∀ (i : Nat) (o : Oper), l[i]? = some o → listed.getD i false = true → ∀ ed ∈ o.after, Region.binds .any ed = true → listed.getD ed.on false = true) :
    ∀ (i : Nat) (o : Oper) (an : Nat), l[i]? = some o → (ancs l [])[i]? = some an → (∀ ed ∈ o.after, Region.binds .any ed = true → listed.getD ed.on false = true) → ∀ j, bitOf an j = true → listed.getD j false = true := by
  intro i
  induction i using Nat.strongRecOn with
  | _ i ih =>
    intro o an ho ha hed j hj
    obtain ⟨ed, h1, h2, h3⟩ := ancs_spec l [] ho ha hj
    rcases h3 with rfl | ⟨an', h4, h5⟩
    · exact hed ed h1 h2
    · have hlt := backOk_spec hb ho ed h1 h2
      have hlt' : ed.on < i := by omega
      have hlen : i < l.length := (List.getElem?_eq_some_iff.1 ho).1
      have ho' : l[ed.on]? = some l[ed.on] := List.getElem?_eq_getElem (by omega)
      rw [List.nil_append] at h4
      exact ih ed.on hlt' _ an' ho' h4 (fun ed' he' hb' => hc ed.on _ ho' (hed ed h1 h2) ed' he' hb') j h5
theorem anc_lt {l : List Oper} (hb : backOk l 0 = true) : ∀ (i an : Nat), (ancs l [])[i]? = some an → ∀ j, bitOf an j = true → j < i := by
  intro i
  induction i using Nat.strongRecOn with
  | _ i ih =>
    intro an ha j hj
    have hlen : i < l.length := by rw [← ancs_len l []]; exact (List.getElem?_eq_some_iff.1 ha).1
    have ho : l[i]? = some l[i] := List.getElem?_eq_getElem hlen
    obtain ⟨ed, h1, h2, h3⟩ := ancs_spec l [] ho ha hj
    have hlt := backOk_spec hb ho ed h1 h2
    rcases h3 with rfl | ⟨an', h4, h5⟩
    · omega
    · rw [List.nil_append] at h4
      have := ih ed.on (by omega) an' h4 j h5
      omega

theorem getD_ff {listed : Array Bool} {i : Nat} (h : listed.getD i true = false) : listed.getD i false = false := by
  rcases Nat.lt_or_ge i listed.size with h' | h'
  · simp [h'] at h ⊢; exact h
  · simp [Array.getElem?_eq_none h'] at h
theorem getD_tt {listed : Array Bool} {i : Nat} (hi : i < listed.size) : listed.getD i true = listed.getD i false := by simp [hi]

section
variable {n : Nat} {ds : List Nat} {l : List Oper} {ae : List (Nat × AV)} {nm0 : Nat} {s : St} {recs : List Rec} {M₀ M M' : Nm} {L : List HP} {listed : Array Bool} {a : Act} {w w' : World} {e : Env} {k : Nat} {pd pd' : Pend}

theorem mkN_le (l : List Oper) : ∀ (i j : Nat), i ≤ j → mkN (l.take i) ≤ mkN (l.take j) := by
  induction l with
  | nil => intro i j _; simp [mkN]
  | cons o l ih =>
    intro i j hij
    cases i with
    | zero => simp [mkN]
    | succ i =>
      obtain ⟨j, rfl⟩ : ∃ m, j = m + 1 := ⟨j - 1, by omega⟩
      have := ih i j (by omega)
      simp only [List.take_succ_cons, mkN]
      cases isMk o.op <;> simp <;> omega
theorem mkN_lt {l : List Oper} : ∀ {i j : Nat} {o : Oper}, l[i]? = some o → isMk o.op = true → i < j → mkN (l.take i) < mkN (l.take j) := by
  induction l with
  | nil => intro i j o h; simp at h
  | cons q l ih =>
    intro i j o h hm hij
    obtain ⟨j, rfl⟩ : ∃ m, j = m + 1 := ⟨j - 1, by omega⟩
    cases i with
    | zero =>
      simp at h; subst h
      simp only [List.take_succ_cons, mkN, hm, cond_true, List.take_zero]
      omega
    | succ i =>
      have := ih (i := i) (j := j) (by simpa using h) hm (by omega)
      simp only [List.take_succ_cons, mkN]
      cases isMk q.op <;> simp <;> omega
theorem RegOk.mk_name (hR : RegOk c p n l ae nm0 s recs) {j : Nat} {r : Rec} {nm : Nat} {ob : AObj} (hr : recs[j]? = some r) (hk : r.kd = .make nm ob) : ∃ o, l[j]? = some o ∧ isMk o.op = true ∧ nm = nm0 + mkN (l.take j) := by
  have hlt : j < l.length := by rw [← hR.len]; exact (List.getElem?_eq_some_iff.1 hr).1
  obtain ⟨an, r', _, h2, _, h3⟩ := hR.recd j _ (List.getElem?_eq_getElem hlt)
  rw [hr] at h2; cases h2
  simp only [hk] at h3
  exact ⟨_, List.getElem?_eq_getElem hlt, h3.2.1, h3.2.2.1⟩
theorem RegOk.mk_inj (hR : RegOk c p n l ae nm0 s recs) {i j : Nat} {r r' : Rec} {nm : Nat} {ob ob' : AObj} (hr : recs[i]? = some r) (hk : r.kd = .make nm ob) (hr' : recs[j]? = some r') (hk' : r'.kd = .make nm ob') : i = j := by
  obtain ⟨o, h1, h2, h3⟩ := hR.mk_name hr hk
  obtain ⟨o', h4, h5, h6⟩ := hR.mk_name hr' hk'
  rcases Nat.lt_trichotomy i j with h | h | h
  · have := mkN_lt h1 h2 h; omega
  · exact h
  · have := mkN_lt h4 h5 h; omega

/-- what stands behind one more -/
theorem RegI.step (hR : RegOk c p n l ae nm0 s recs) (h : RegI n ds l ae s recs M₀ M L listed a w e k pd) {i : Nat} {o : Oper} {r : Rec} (hi : l[i]? = some o) (hr : recs[i]? = some r) (hun : listed.getD i true = false)
    (haft : ∀ ed ∈ o.after, Region.binds .any ed = true → listed.getD ed.on false = true) (hle : M.sub M') {v : Value} (hv : VR M' r.val v) {k' : Nat}
    (hsat : Sat w' (hp M' (stK recs s k').h.get :: old (stK recs s k').k.W :: (pd'.map (sing M') ++ L))) (hik : InvK M' (stK recs s k').nx (stK recs s k').k) (hk : k' = if isTurn r.kd then k + 1 else k)
    (hturn : r.kd = .turn → cnt recs i = k)
    (hpds : ∀ p, p ∈ pd' ↔ ∃ j r nm ob, recs[j]? = some r ∧ r.kd = .make nm ob ∧ p = (j, nm, ob) ∧ (j = i ∨ listed.getD j false = true) ∧ ∀ c rc ac, recs[c]? = some rc → (ancs l [])[c]? = some ac → rc.kd = .turn → cnt recs c < k' → bitOf ac j = false)
    (hkeep : ∀ q, M₀.res q → M'.ρ q = M₀.ρ q) (hres : ∀ q, M'.res q ↔ M₀.res q ∨ ∃ j r nm ob, recs[j]? = some r ∧ r.kd = .make nm ob ∧ (j ≠ i ∧ listed.getD j true = false) ∧ q = nm)
    (hlack : ∀ j r nm ob, recs[j]? = some r → r.kd = .make nm ob → j ≠ i → listed.getD j true = false → M'.ρ nm = none ∧ ¬ M₀.res nm) :
    RegI n ds l ae s recs M₀ M' L (listed.setIfInBounds i true) (a.put o.dst v) w' (putO e o.dst v) k' pd' := by
  obtain ⟨hin, _⟩ := dstOk_in hR.dst hi
  have hlt : i < l.length := (List.getElem?_eq_some_iff.1 hi).1
  have hset : (listed.setIfInBounds i true).getD i false = true := by simp [h.size, hlt]
  have hget : ∀ j, (listed.setIfInBounds i true).getD j false = true ↔ j = i ∨ listed.getD j false = true := by
    intro j
    by_cases hji : i = j
    · subst hji; exact ⟨fun _ => .inl rfl, fun _ => hset⟩
    · rw [getD_set_ne false hji]; exact ⟨.inr, fun q => q.resolve_left (fun hh => hji hh.symm)⟩
  have hget2 : ∀ j, (listed.setIfInBounds i true).getD j true = false ↔ j ≠ i ∧ listed.getD j true = false := by
    intro j
    by_cases hji : i = j
    · subst hji
      have : (listed.setIfInBounds i true).getD i true = true := by simp [h.size, hlt]
      rw [this]; simp
    · rw [getD_set_ne true hji]; exact ⟨fun q => ⟨fun hh => hji hh.symm, q⟩, fun q => q.2⟩
  refine ⟨h.fits.putO hin v, ?_, ?_, hsat, hik, ?_, ?_, ?_, by simp [h.size], ?_, ⟨fun q B hq => hle.ρ _ _ (h.sub.ρ _ _ hq), hle.σ.trans h.sub.σ⟩, hkeep, ?_, ?_⟩
  · intro j d o' r' hj hr' hd hl
    by_cases hji : j = i
    · subst hji
      rw [hi] at hj; cases hj
      rw [hr] at hr'; cases hr'
      rw [hd]
      show VR M' r.val (put e d v d)
      rw [put_same]; exact hv
    · have hl' := ((hget j).1 hl).resolve_left hji
      have h1 := VR.sub hle _ (h.vals j d o' r' hj hr' hd hl')
      cases ho : o.dst with
      | none => exact h1
      | some d' =>
        have hne : d ≠ d' := by rintro rfl; exact hji (dstOk_inj hR.dst hj hi hd ho)
        show VR M' r'.val (put e d' v d)
        rw [put_other _ _ hne]; exact h1
  · intro t b ht hb
    have h1 := VR.sub hle _ (h.rest t b ht hb)
    cases ho : o.dst with
    | none => exact h1
    | some d' =>
      have hne : t ≠ d' := by rintro rfl; exact whoDst_none l 0 ht o (List.mem_of_getElem? hi) ho
      show VR M' b (put e d' v t)
      rw [put_other _ _ hne]; exact h1
  · subst hk
    cases hkd : isTurn r.kd with
    | true =>
      have hkt : r.kd = .turn := by cases hq : r.kd <;> simp [hq, isTurn] at hkd ⊢
      have := cnt_lt hr hkt
      rw [hturn hkt] at this
      simpa only [if_true] using Nat.succ_le_of_lt this
    | false => simpa using h.le
  · intro j r' hr' hkd'
    rw [hget]
    by_cases hji : j = i
    · subst hji
      rw [hr] at hr'; cases hr'
      have h1 := hturn hkd'
      subst hk
      rw [hkd', h1]
      simp [isTurn]
    · rw [h.pre j r' hr' hkd']
      subst hk
      cases hkd : isTurn r.kd with
      | false => simp [hji]
      | true =>
        have hkt : r.kd = .turn := by cases hq : r.kd <;> simp [hq, isTurn] at hkd ⊢
        have h1 := hturn hkt
        have hne : cnt recs j ≠ k := by
          rw [← h1]
          intro heq
          rcases Nat.lt_or_gt_of_ne hji with h2 | h2
          · have := cnt_mono hr' hkd' h2; omega
          · have := cnt_mono hr hkt h2; omega
        simp only [if_true]
        constructor
        · rintro (h3 | h3)
          · exact (hji h3).elim
          · omega
        · intro h3; exact .inr (by omega)
  · intro j o' hj hl ed he hb
    rw [hget]
    by_cases hji : j = i
    · subst hji
      rw [hi] at hj; cases hj
      exact .inr (haft ed he hb)
    · exact .inr (h.closed j o' hj (((hget j).1 hl).resolve_left hji) ed he hb)
  · intro q
    rw [hpds]
    constructor
    · rintro ⟨j, r', nm, ob, h1, h2, h3, h4, h5⟩; exact ⟨j, r', nm, ob, h1, h2, h3, (hget j).2 h4, h5⟩
    · rintro ⟨j, r', nm, ob, h1, h2, h3, h4, h5⟩; exact ⟨j, r', nm, ob, h1, h2, h3, (hget j).1 h4, h5⟩
  · intro q
    rw [hres]
    constructor
    · rintro (h1 | ⟨j, r', nm, ob, h1, h2, h3, h4⟩)
      · exact .inl h1
      · exact .inr ⟨j, r', nm, ob, h1, h2, (hget2 j).2 h3, h4⟩
    · rintro (h1 | ⟨j, r', nm, ob, h1, h2, h3, h4⟩)
      · exact .inl h1
      · exact .inr ⟨j, r', nm, ob, h1, h2, (hget2 j).1 h3, h4⟩
  · intro j r' nm ob h1 h2 h3
    obtain ⟨h4, h5⟩ := (hget2 j).1 h3
    exact hlack j r' nm ob h1 h2 h4 h5

/-- where nothing is made and nobody is a changer -/
theorem RegI.still (hR : RegOk c p n l ae nm0 s recs) (h : RegI n ds l ae s recs M₀ M L listed a w e k pd) {i : Nat} {o : Oper} {r : Rec} (hi : l[i]? = some o) (hr : recs[i]? = some r) (hun : listed.getD i true = false)
    (haft : ∀ ed ∈ o.after, Region.binds .any ed = true → listed.getD ed.on false = true) {v : Value} (hv : VR M r.val v) (hno : ∀ nm ob, r.kd ≠ .make nm ob) (hnt : r.kd ≠ .turn) :
    RegI n ds l ae s recs M₀ M L (listed.setIfInBounds i true) (a.put o.dst v) w (putO e o.dst v) k pd := by
  have hkt : isTurn r.kd = false := by cases hq : r.kd <;> simp [hq, isTurn] at hnt ⊢
  refine h.step hR hi hr hun haft ⟨fun _ _ h => h, rfl⟩ hv h.sat h.ik (by simp [hkt]) (fun q => (hnt q).elim) (fun q => ?_) h.keep (fun q => ?_) (fun j r' nm ob h1 h2 _ h4 => h.lack j r' nm ob h1 h2 h4)
  · rw [h.pds]
    constructor
    · rintro ⟨j, r', nm, ob, h1, h2, h3, h4, h5⟩; exact ⟨j, r', nm, ob, h1, h2, h3, .inr h4, h5⟩
    · rintro ⟨j, r', nm, ob, h1, h2, h3, h4, h5⟩
      refine ⟨j, r', nm, ob, h1, h2, h3, h4.resolve_left ?_, h5⟩
      rintro rfl
      rw [hr] at h1; cases h1; exact hno nm ob h2
  · rw [h.res]
    constructor
    · rintro (h1 | ⟨j, r', nm, ob, h1, h2, h3, h4⟩)
      · exact .inl h1
      · refine .inr ⟨j, r', nm, ob, h1, h2, ⟨?_, h3⟩, h4⟩
        rintro rfl
        rw [hr] at h1; cases h1; exact hno nm ob h2
    · rintro (h1 | ⟨j, r', nm, ob, h1, h2, h3, h4⟩)
      · exact .inl h1
      · exact .inr ⟨j, r', nm, ob, h1, h2, h3.2, h4⟩

theorem RegI.uniq (hR : RegOk c p n l ae nm0 s recs) (h : RegI n ds l ae s recs M₀ M L listed a w e k pd) : ∀ x ∈ pd, ∀ y ∈ pd, x.2.1 = y.2.1 → x = y := by
  intro x hx y hy he
  obtain ⟨j, r, nm, ob, h1, h2, rfl, _, _⟩ := (h.pds x).1 hx
  obtain ⟨j', r', nm', ob', h1', h2', rfl, _, _⟩ := (h.pds y).1 hy
  have he : nm = nm' := he
  subst he
  obtain rfl := hR.mk_inj h1 h2 h1' h2'
  rw [h1] at h1'; cases h1'
  rw [h2] at h2'; cases h2'
  rfl

theorem any_ok {r : Option Nat} (hC : GoodC P c) (hp : SoundCode P p) (hq : SoundCall P p) (hR : RegOk c p n l ae nm0 s recs) {Q : Exit → Act → World → Prop}
    (hQ : ∀ M e w a, M₀.le M → FitsD n ds a e → EnvR M (zipA l recs ae) e → Inv M ⟨mergeB (pdAt recs (ancs l []) 0 [] l.length) (stK recs s (turns recs)).h, (stK recs s (turns recs)).nx, (stK recs s (turns recs)).k⟩ w L → Q .normal a w) :
    ∀ (fuel : Nat) (listed : Array Bool) (a : Act) (w : World) (M : Nm) (e : Env) (k : Nat) (pd : Pend), RegI n ds l ae s recs M₀ M L listed a w e k pd → unl listed l.length ≤ fuel → wpAnyIn (WF r) 0 P .any l.toArray Q fuel listed a w := by
  have hlen : recs.length = (ancs l []).length := by rw [ancs_len, hR.len]
  have hans : ∀ {i : Nat} {rc : Rec}, recs[i]? = some rc → ∃ an, (ancs l [])[i]? = some an := fun {i rc} h => by
    have : i < (ancs l []).length := by rw [← hlen]; exact (List.getElem?_eq_some_iff.1 h).1
    exact ⟨_, List.getElem?_eq_getElem this⟩
  have hrk : ∀ {i j : Nat} {ri rj : Rec}, recs[i]? = some ri → ri.kd = .turn → recs[j]? = some rj → rj.kd = .turn → cnt recs i < cnt recs j → i < j := fun {i j ri rj} h1 h2 h3 h4 h5 => by
    rcases Nat.lt_trichotomy i j with h | h | h
    · exact h
    · subst h; omega
    · have := cnt_mono h3 h4 h; omega
  -- at the end
  have fin : ∀ (listed : Array Bool) (a : Act) (w : World) (M : Nm) (e : Env) (k : Nat) (pd : Pend), RegI n ds l ae s recs M₀ M L listed a w e k pd → (∀ i, i < l.length → listed.getD i false = true) → Q .normal a w := by
    intro listed a w M e k pd h hall
    have hk : k = turns recs := by
      rcases Nat.lt_or_ge k (turns recs) with hlt | hge
      · exfalso
        have : ∀ (rs : List Rec) (m : Nat), m < turns rs → ∃ i r, rs[i]? = some r ∧ r.kd = .turn ∧ cnt rs i = m := by
          intro rs
          induction rs with
          | nil => intro m hm; simp [turns] at hm
          | cons q rs ih =>
            intro m hm
            rw [turns_cons] at hm
            cases hq : isTurn q.kd with
            | true =>
              have hqk : q.kd = .turn := by cases hz : q.kd <;> simp [hz, isTurn] at hq ⊢
              cases m with
              | zero => exact ⟨0, q, rfl, hqk, cnt_zero _⟩
              | succ m =>
                obtain ⟨i, r, h1, h2, h3⟩ := ih m (by simp [hq] at hm; omega)
                exact ⟨i + 1, r, by simpa using h1, h2, by rw [cnt_succ, h3, hq]; simp; omega⟩
            | false =>
              obtain ⟨i, r, h1, h2, h3⟩ := ih m (by simpa [hq] using hm)
              exact ⟨i + 1, r, by simpa using h1, h2, by rw [cnt_succ, h3, hq]; simp⟩
        obtain ⟨i, r, h1, h2, h3⟩ := this recs k hlt
        have hil : i < l.length := by rw [← hR.len]; exact (List.getElem?_eq_some_iff.1 h1).1
        have := (h.pre i r h1 h2).1 (hall i hil)
        omega
      · exact Nat.le_antisymm h.le hge
    have hnone : ∀ j r nm ob, recs[j]? = some r → r.kd = .make nm ob → listed.getD j true = false → False := fun j r nm ob h1 h2 h3 => by
      have hjl : j < l.length := by rw [← hR.len]; exact (List.getElem?_eq_some_iff.1 h1).1
      have := hall j hjl
      rw [← getD_tt (by rw [h.size]; exact hjl), h3] at this
      cases this
    refine hQ M e w a ⟨h.sub, ?_, h.keep⟩ h.fits ?_ ⟨?_, by rw [← hk]; exact h.ik⟩
    · funext q
      rw [h.res]
      exact propext ⟨fun hh => hh.elim id (fun ⟨j, r, nm, ob, h1, h2, h3, _⟩ => (hnone j r nm ob h1 h2 h3).elim), .inl⟩
    · intro t b hb
      rcases zipA_get hb with ⟨i, o, r, h1, h2, h3, h4⟩ | ⟨h1, h2⟩
      · subst h4
        exact h.vals i t o r h1 h2 h3 (hall i (List.getElem?_eq_some_iff.1 h1).1)
      · refine h.rest t b ?_ h2
        cases hw : whoDst t l 0 with
        | none => rfl
        | some j =>
          obtain ⟨_, o, h3, h4⟩ := whoDst_some l 0 hw
          have hlt : j - 0 < recs.length := by rw [hR.len]; exact (List.getElem?_eq_some_iff.1 h3).1
          exact (h1 _ o _ h3 (List.getElem?_eq_getElem hlt) h4).elim
    · have h1 := merge_in (b := fun _ => true) pd h.sat
      have hf : pd.filter (fun p => !(fun _ => true) p.1) = [] := by simp
      rw [hf] at h1
      have hcg : mergeF (fun _ => true) pd (stK recs s k).h.get = mergeF (fun _ => true) (pdAt recs (ancs l []) 0 [] l.length) (stK recs s k).h.get := by
        refine mergeF_congr (fun x _ => ?_) (fun x hx y hy _ _ he => h.uniq hR x hx y hy he)
        rw [h.pds, pdAt_mem l.length (by rw [hR.len]; exact Nat.le_refl _) hlen]
        constructor
        · rintro ⟨j, r, nm, ob, h2, h3, rfl, h4, h5⟩
          refine .inr ⟨j, r, nm, ob, by rw [← hR.len]; exact (List.getElem?_eq_some_iff.1 h2).1, h2, h3, by rw [Nat.zero_add], fun c rc ac hc1 hc2 hc3 hc4 hc5 => ?_⟩
          exact h5 c rc ac hc3 hc4 hc5 (by rw [hk]; exact cnt_lt hc3 hc5)
        · rintro (⟨h2, _⟩ | ⟨m, r, nm, ob, h2, h3, h4, h5, h6⟩)
          · cases h2
          · refine ⟨m, r, nm, ob, h3, h4, by rw [h5, Nat.zero_add], hall m h2, fun c rc ac hc1 hc2 hc3 hc4 => ?_⟩
            rw [h5] at h6
            simp only [Nat.zero_add] at h6
            rcases Nat.lt_trichotomy c m with hcm | hcm | hcm
            · cases hb : bitOf ac m with
              | false => rfl
              | true => have := anc_lt hR.back c ac hc2 m hb; omega
            · subst hcm; rw [h3] at hc1; cases hc1; rw [h4] at hc3; cases hc3
            · exact h6 c rc ac hcm (by rw [← hR.len]; exact (List.getElem?_eq_some_iff.1 hc1).1) hc1 hc2 hc3
      rw [hcg, hk, ← mergeB_get] at h1
      exact h1
  -- none may come up: all are listed
  have full : ∀ (listed : Array Bool), listed.size = l.length → Region.ready .any l.toArray listed = [] → ∀ i, i < l.length → listed.getD i false = true := by
    intro listed hsz hrd i
    induction i using Nat.strongRecOn with
    | _ i ih =>
      intro hlt
      cases hb : listed.getD i true with
      | true => simp [hsz, hlt] at hb ⊢; exact hb
      | false =>
        exfalso
        have : i ∈ Region.ready .any l.toArray listed := mem_ready.2 ⟨hb, l[i], by simp [hlt], fun ed he hbn => by
          have := backOk_spec hR.back (List.getElem?_eq_getElem hlt) ed he hbn
          exact ih ed.on (by omega) (by omega)⟩
        rw [hrd] at this; cases this
  intro fuel
  induction fuel with
  | zero =>
    intro listed a w M e k pd h hu
    have hall : ∀ i, i < l.length → listed.getD i true = true := by
      intro i hi
      cases hb : listed.getD i true with
      | true => rfl
      | false => have := unl_set h.size hb hi; omega
    have hall' : ∀ i, i < l.length → listed.getD i false = true := fun i hi => by
      have := hall i hi
      simp [h.size, hi] at this ⊢; exact this
    refine ⟨?_, fin listed a w M e k pd h hall'⟩
    apply List.eq_nil_iff_forall_not_mem.2
    intro j hj
    obtain ⟨h1, o, h2, _⟩ := mem_ready.1 hj
    have hjl : j < l.length := by have := (Array.getElem?_eq_some_iff.1 h2).1; simpa using this
    rw [hall j hjl] at h1; cases h1
  | succ fuel ih =>
    intro listed a w M e k pd h hu
    refine ⟨fun hr => fin listed a w M e k pd h (full listed h.size hr), fun i hi => ?_⟩
    obtain ⟨hun, o, ho, haft⟩ := mem_ready.1 hi
    have ho : l[i]? = some o := by simpa using ho
    have hil : i < l.length := (List.getElem?_eq_some_iff.1 ho).1
    have hunf := getD_ff hun
    obtain ⟨an, rc, han, hrc, hbind, hkind⟩ := hR.recd i o ho
    have hanc := anc_listed hR.back h.closed i o an ho han haft
    obtain ⟨hin, _⟩ := dstOk_in hR.dst ho
    have hu' := unl_set h.size hun hil
    -- what it looks at
    have henv : EnvR M rc.env e := by
      intro t b hb
      rcases bindA_get hbind hb with ⟨j, h1, h2, h3⟩ | ⟨h1, h2⟩
      · obtain ⟨_, oj, h4, h5⟩ := whoDst_some l 0 h1
        simp only [Nat.sub_zero] at h4
        rw [List.getElem?_map] at h3
        obtain ⟨rj, h6, h7⟩ := Option.map_eq_some_iff.1 h3
        rw [List.getElem?_take] at h6
        split at h6
        · subst h7; exact h.vals j t oj rj h4 h6 h5 (hanc j h2)
        · cases h6
      · exact h.rest t b h1 h2
    -- nobody who is listed waits for it
    have hnobody : ∀ c rc' ac, recs[c]? = some rc' → (ancs l [])[c]? = some ac → listed.getD c false = true → bitOf ac i = false := by
      intro c rc' ac h2 h3 h4
      cases hb : bitOf ac i with
      | false => rfl
      | true =>
        exfalso
        have hjl : c < l.length := by rw [← hR.len]; exact (List.getElem?_eq_some_iff.1 h2).1
        have hoj : l[c]? = some l[c] := List.getElem?_eq_getElem hjl
        have := anc_listed hR.back h.closed c _ ac hoj h3 (h.closed c _ hoj h4) i hb
        rw [hunf] at this; cases this
    cases hkd : rc.kd with
    | idle =>
      simp only [hkd] at hkind
      refine wpOp_idle ho h.fits (wantA_ok henv hkind.1) ?_
      exact ih _ _ _ M (putO e o.dst undef) k pd (h.still hR ho hrc hun haft (by rw [hkind.2]; simp only [VR]; exact ⟨[], VRs.nil, rfl⟩) (by simp [hkd]) (by simp [hkd])) (by omega)
    | read =>
      simp only [hkd] at hkind
      have hrd : rdA c.X rc.env (stK recs s k) o.op = some rc.val := by
        rcases rdsOk_spec hR.rds ho hrc han hkd k h.le with h1 | h1 | h1
        · rw [h1, Nat.zero_add]; exact hkind.2
        · exfalso
          obtain ⟨j, rj, b, h2, h3, h4, h5⟩ := skipA_spec h1
          rcases h5 with ⟨h5, h6⟩ | ⟨h5, h6⟩
          · have := (h.pre j rj h2 h3).1 (hanc j (by simpa using h6)); omega
          · have hj := (h.pre j rj h2 h3).2 (by omega)
            have := hnobody j rj b h2 h4 hj
            rw [show 0 + i = i by omega] at h6
            rw [h6] at this; cases this
        · exact h1
      obtain ⟨v, h1, h2⟩ := rdA_ok hC henv (⟨h.sat, h.ik⟩ : Inv M (stK recs s k) w (pd.map (sing M) ++ L)) hrd
      have hdf : isDefer o.op = false := by
        cases hop : o.op <;> first | rfl | (rw [hop] at hrd; exact absurd hrd (by intro h; cases h))
      refine wpOp_does ho h.fits hin hdf (wantA_ok henv hkind.1) (d_val h2 ?_)
      intro a' _ ha'
      subst ha'
      exact ih _ _ _ M (putO e o.dst v) k pd (h.still hR ho hrc hun haft h1 (by simp [hkd]) (by simp [hkd])) (by omega)
    | make nm ob =>
      simp only [hkd] at hkind
      obtain ⟨hwant, hmk, hnm, hnew⟩ := hkind
      subst hnm
      have hdf : isDefer o.op = false := by cases hop : o.op <;> first | rfl | (rw [hop] at hmk; cases hmk)
      obtain ⟨hl1, hl2⟩ := h.lack i rc _ ob hrc hkd hun
      refine wpOp_does ho h.fits hin hdf (wantA_ok henv hwant) (newA_does hC.ty henv h.sat hnew ?_)
      intro B q v w' hs' hO a' _ ha'
      subst ha'
      -- the names, one more
      obtain ⟨M', hM'⟩ : ∃ M' : Nm, M' = ⟨fun x => if x = nm0 + mkN (l.take i) then some B else M.ρ x, M.σ, fun x => M.res x ∧ x ≠ nm0 + mkN (l.take i)⟩ := ⟨_, rfl⟩
      have hsub : M.sub M' := by
        subst hM'
        refine ⟨fun x C hx => ?_, rfl⟩
        have : x ≠ nm0 + mkN (l.take i) := by rintro rfl; rw [hl1] at hx; cases hx
        simp [this, hx]
      have hB : M'.ρ (nm0 + mkN (l.take i)) = some B := by subst hM'; simp
      obtain ⟨hOR, hVR⟩ := hO M' hsub hB
      have hres_in : M.res (nm0 + mkN (l.take i)) := (h.res _).2 (.inr ⟨i, rc, _, ob, hrc, hkd, hun, rfl⟩)
      refine ih _ _ _ M' (putO e o.dst v) k ((i, nm0 + mkN (l.take i), ob) :: pd) (h.step hR ho hrc hun haft hsub hVR ?_ ?_ (by simp [hkd, isTurn]) (by simp [hkd]) ?_ ?_ ?_ ?_) (by omega)
      · -- memory
        have h1 : Sat w' (Ev.hp M' (stK recs s k).h.get :: obj B.b q :: old (stK recs s k).k.W :: (pd.map (sing M) ++ L)) := hp_sub hsub (hs'.perm (List.Perm.swap _ _ _))
        have h2 : Sat w' ([Ev.hp M' (stK recs s k).h.get, obj B.b q, old (stK recs s k).k.W] ++ (pd.map (sing M) ++ L)) := h1
        have h3 := sings_sub hsub pd h2
        have h4 := sat_none M' h3
        have h5 : Sat w' (obj B.b q :: Ev.hp M' (fun _ => none) :: Ev.hp M' (stK recs s k).h.get :: old (stK recs s k).k.W :: (pd.map (sing M') ++ L)) := by
          refine h4.perm ?_
          exact (rot3' _ _ _ _)
        have h6 := hp_in (i := nm0 + mkN (l.take i)) (o := ob) (B := B) h5 rfl hB hOR
        have h7 : Sat w' (sing M' (i, nm0 + mkN (l.take i), ob) :: Ev.hp M' (stK recs s k).h.get :: old (stK recs s k).k.W :: (pd.map (sing M') ++ L)) := h6
        simp only [List.map_cons, List.cons_append]
        exact h7.perm (rot3 _ _ _ _)
      · refine ⟨fun x hx => ?_, fun g c hg => ?_, ?_⟩
        · obtain ⟨h1, h2⟩ := h.ik.fresh x hx
          have : x ≠ nm0 + mkN (l.take i) := by rintro rfl; exact h2 hres_in
          subst hM'
          exact ⟨by simp [this, h1], fun hh => h2 hh.1⟩
        · obtain ⟨arr, T, fz, h1, h2⟩ := h.ik.gl g c hg
          exact ⟨arr, T, fz, h1, h2.sub hsub⟩
        · exact hsub.σ.trans h.ik.sg
      · intro x
        rw [List.mem_cons, h.pds]
        constructor
        · rintro (rfl | ⟨j, r', nm', ob', h1, h2, h3, h4, h5⟩)
          · exact ⟨i, rc, _, ob, hrc, hkd, rfl, .inl rfl, fun c rc' ac hc1 hc2 hc3 hc4 => hnobody c rc' ac hc1 hc2 ((h.pre c rc' hc1 hc3).2 hc4)⟩
          · exact ⟨j, r', nm', ob', h1, h2, h3, .inr h4, h5⟩
        · rintro ⟨j, r', nm', ob', h1, h2, h3, h4 | h4, h5⟩
          · subst h4
            rw [hrc] at h1; cases h1
            rw [hkd] at h2; cases h2
            exact .inl h3
          · exact .inr ⟨j, r', nm', ob', h1, h2, h3, h4, h5⟩
      · intro x hx
        have : x ≠ nm0 + mkN (l.take i) := by rintro rfl; exact hl2 hx
        subst hM'
        simp only [this, if_false]
        exact h.keep x hx
      · intro x
        have : M'.res x ↔ M.res x ∧ x ≠ nm0 + mkN (l.take i) := by subst hM'; exact Iff.rfl
        rw [this, h.res]
        constructor
        · rintro ⟨h1 | ⟨j, r', nm', ob', h1, h2, h3, h4⟩, hne⟩
          · exact .inl h1
          · refine .inr ⟨j, r', nm', ob', h1, h2, ⟨?_, h3⟩, h4⟩
            rintro rfl
            rw [hrc] at h1; cases h1
            rw [hkd] at h2; cases h2
            exact hne h4
        · rintro (h1 | ⟨j, r', nm', ob', h1, h2, ⟨h3, h5⟩, h4⟩)
          · exact ⟨.inl h1, by rintro rfl; exact hl2 h1⟩
          · refine ⟨.inr ⟨j, r', nm', ob', h1, h2, h5, h4⟩, ?_⟩
            intro hx
            have he : nm' = nm0 + mkN (l.take i) := by rw [← h4, hx]
            subst he
            exact h3 (hR.mk_inj h1 h2 hrc hkd)
      · intro j r' nm' ob' h1 h2 h3 h4
        obtain ⟨h5, h6⟩ := h.lack j r' nm' ob' h1 h2 h4
        have : nm' ≠ nm0 + mkN (l.take i) := by
          intro hx
          subst hx
          exact h3 (hR.mk_inj h1 h2 hrc hkd)
        subst hM'
        exact ⟨by simp only [this, if_false]; exact h5, h6⟩
    | turn =>
      simp only [hkd] at hkind
      have hk : cnt recs i = k := by
        have h1 : ¬ cnt recs i < k := fun h1 => by
          have := (h.pre i rc hrc hkd).2 h1
          rw [hunf] at this; cases this
        rcases chainOk_spec hR.chain hrc han hkd with ⟨h2, _⟩ | ⟨j, rj, h2, h3, h4, h5⟩
        · omega
        · have := (h.pre j rj h2 h3).1 (hanc j (by simpa using h5)); omega
      rw [hk] at hkind
      have hst := stK_turn s hrc hkd
      rw [hk] at hst
      -- what it looks at is brought in
      have hm1 := merge_in (b := bitOf an) pd h.sat
      have hcg : mergeF (bitOf an) pd (stK recs s k).h.get = mergeF (bitOf an) (pdAt recs (ancs l []) 0 [] i) (stK recs s k).h.get := by
        refine mergeF_congr (fun x hb => ?_) (fun x hx y hy _ _ he => h.uniq hR x hx y hy he)
        rw [h.pds, pdAt_mem i (by rw [hR.len]; omega) hlen]
        constructor
        · rintro ⟨j, r', nm, ob, h2, h3, rfl, h4, h5⟩
          have hji : j < i := anc_lt hR.back i an han j hb
          refine .inr ⟨j, r', nm, ob, hji, h2, h3, by rw [Nat.zero_add], fun c rc' ac hc1 hc2 hc3 hc4 hc5 => ?_⟩
          exact h5 c rc' ac hc3 hc4 hc5 (by rw [← hk]; exact cnt_mono hc3 hc5 hc2)
        · rintro (⟨h2, _⟩ | ⟨m, r', nm, ob, h2, h3, h4, h5, h6⟩)
          · cases h2
          · rw [h5] at h6 hb
            simp only [Nat.zero_add] at h6 hb
            refine ⟨m, r', nm, ob, h3, h4, by rw [h5, Nat.zero_add], hanc m hb, fun c rc' ac hc1 hc2 hc3 hc4 => ?_⟩
            rcases Nat.lt_trichotomy c m with hcm | hcm | hcm
            · cases hb : bitOf ac m with
              | false => rfl
              | true => have := anc_lt hR.back c ac hc2 m hb; omega
            · subst hcm; rw [h3] at hc1; cases hc1; rw [h4] at hc3; cases hc3
            · exact h6 c rc' ac hcm (hrk hc1 hc3 hrc hkd (by rw [hk]; exact hc4)) hc1 hc2 hc3
      rw [hcg, ← mergeP_get] at hm1
      have hinv : Inv M ⟨mergeP an (pdAt recs (ancs l []) 0 [] i) (stK recs s k).h, (stK recs s k).nx, (stK recs s k).k⟩ w ((pd.filter fun p => !bitOf an p.1).map (sing M) ++ L) := ⟨hm1, h.ik⟩
      refine (fun q => wpOp_does ho h.fits hin q.1 (wantA_ok henv hkind.1) q.2) (turnA_ok hC hp hq henv hinv hkind.2 ?_)
      intro M' v w' hle' hv hI' a' _ ha'
      subst ha'
      refine ih _ _ _ M' (putO e o.dst v) (k + 1) (pd.filter fun p => !bitOf an p.1) (h.step hR ho hrc hun haft hle'.tosub hv ?_ (by rw [hst]; exact hI'.k) (by simp [hkd, isTurn]) (fun _ => hk) ?_ ?_ ?_ ?_) (by omega)
      · rw [hst]
        have h2 : Sat w' ([Ev.hp M' rc.post.h.get, old rc.post.k.W] ++ ((pd.filter fun p => !bitOf an p.1).map (sing M) ++ L)) := hI'.sat
        exact sings_sub hle'.tosub _ h2
      · intro x
        rw [List.mem_filter, h.pds]
        constructor
        · rintro ⟨⟨j, r', nm, ob, h1, h2, rfl, h4, h5⟩, hb⟩
          refine ⟨j, r', nm, ob, h1, h2, rfl, .inr h4, fun c rc' ac hc1 hc2 hc3 hc4 => ?_⟩
          rcases Nat.lt_or_ge (cnt recs c) k with hlt | hge
          · exact h5 c rc' ac hc1 hc2 hc3 hlt
          · have hci : c = i := by
              rcases Nat.lt_trichotomy c i with hx | hx | hx
              · have := cnt_mono hc1 hc3 hx; omega
              · exact hx
              · have := cnt_mono hrc hkd hx; omega
            subst hci
            rw [han] at hc2; cases hc2
            simpa using hb
        · rintro ⟨j, r', nm, ob, h1, h2, rfl, h4, h5⟩
          have hji : j ≠ i := by rintro rfl; rw [hrc] at h1; cases h1; rw [hkd] at h2; cases h2
          refine ⟨⟨j, r', nm, ob, h1, h2, rfl, h4.resolve_left hji, fun c rc' ac hc1 hc2 hc3 hc4 => h5 c rc' ac hc1 hc2 hc3 (by omega)⟩, ?_⟩
          have := h5 i rc an hrc han hkd (by omega)
          simp [this]
      · intro x hx
        rw [hle'.keep x ((h.res x).2 (.inl hx))]
        exact h.keep x hx
      · intro x
        rw [hle'.res, h.res]
        constructor
        · rintro (h1 | ⟨j, r', nm', ob', h1, h2, h3, h4⟩)
          · exact .inl h1
          · refine .inr ⟨j, r', nm', ob', h1, h2, ⟨?_, h3⟩, h4⟩
            rintro rfl
            rw [hrc] at h1; cases h1; rw [hkd] at h2; cases h2
        · rintro (h1 | ⟨j, r', nm', ob', h1, h2, ⟨_, h5⟩, h4⟩)
          · exact .inl h1
          · exact .inr ⟨j, r', nm', ob', h1, h2, h5, h4⟩
      · intro j r' nm' ob' h1 h2 h3 h4
        obtain ⟨h5, h6⟩ := h.lack j r' nm' ob' h1 h2 h4
        refine ⟨?_, h6⟩
        rw [hle'.keep nm' ((h.res nm').2 (.inr ⟨j, r', nm', ob', h1, h2, h4, rfl⟩))]
        exact h5
end

theorem regA_ok (hC : GoodC P c) (hp : SoundCode P p) (hq : SoundCall P p) (hmix : P.follows .mixedOrders = true) {n : Nat} {ds : List Nat} {id : Nat} {l : List Oper} {ae : List (Nat × AV)} {s : St} {q : List (Nat × AV) × St} (h : regA c p n l ae s = some q)
    {r : Option Nat} {M : Nm} {e : Env} {w : World} {L : List HP} {N R : NP} {E : Nat → NP} (he : EnvR M ae e) (hI : Inv M s w L) (hN : ∀ M' e w, M.le M' → EnvR M' q.1 e → Inv M' q.2 w L → N ds e w) : CI r P n (.region id l.toArray true) N R E ds e w := by
  unfold regA at h
  simp only at h
  split at h
  · rename_i recs hrecs
    generalize hcnd : (backOk l 0 && dstOk n l [] && chainOk recs (ancs l []) 0 none && rdsOk c.X recs (ancs l []) ⟨s.h, s.nx + mkN l, s.k⟩ (turns recs) l recs (ancs l []) 0 0) = cnd at h
    cases cnd with
    | false => cases h
    | true =>
      cases h
      simp only [Bool.and_eq_true] at hcnd
      obtain ⟨h1, h2⟩ := recsA_ok hrecs
      have hR : RegOk c p n l ae s.nx ⟨s.h, s.nx + mkN l, s.k⟩ recs := ⟨h1, fun i o hi => by simpa using h2 i o hi, hcnd.1.1.1, hcnd.1.1.2, hcnd.1.2, hcnd.2⟩
      intro a ha
      refine wpIn_region_any hmix ?_
      have hrep : ∀ i, (Array.replicate l.toArray.size false).getD i false = false := by
        intro i
        simp only [Array.getD_eq_getD_getElem?, Array.getElem?_replicate]
        split <;> rfl
      -- names are kept for what will be made
      obtain ⟨M1, hM1⟩ : ∃ M1 : Nm, M1 = ⟨M.ρ, M.σ, fun x => M.res x ∨ ∃ (j : Nat) (r : Rec) (nm : Nat) (ob : AObj), recs[j]? = some r ∧ r.kd = Kd.make nm ob ∧ (Array.replicate l.toArray.size false).getD j true = false ∧ x = nm⟩ := ⟨_, rfl⟩
      have hsub : M.sub M1 := by subst hM1; exact ⟨fun _ _ h => h, rfl⟩
      have hnew : ∀ (j : Nat) (r : Rec) (nm : Nat) (ob : AObj), recs[j]? = some r → r.kd = .make nm ob → s.nx ≤ nm ∧ nm < s.nx + mkN l := fun j r nm ob hj hk => by
        obtain ⟨o, h3, h4, h5⟩ := hR.mk_name hj hk
        have hlt := mkN_lt h3 h4 (j := l.length) (List.getElem?_eq_some_iff.1 h3).1
        rw [List.take_of_length_le (Nat.le_refl _)] at hlt
        omega
      refine any_ok hC hp hq hR (M₀ := M) (L := L) (ds := ds) ?_ _ _ a _ M1 e 0 [] ⟨ha, ?_, fun t b _ hb => VR.sub hsub _ (he t b hb), ?_, ?_, Nat.zero_le _, ?_, ?_, by simp, ?_, hsub, ?_, ?_, ?_⟩ ?_
      · intro M' e' w' a' hle hf hE hI'
        exact ⟨ds, e', hf, hN M' e' w' hle hE hI'⟩
      · intro i d o rc _ _ _ hl
        rw [hrep] at hl; cases hl
      · rw [stK_zero]
        simp only [List.map_nil, List.nil_append]
        exact hp_sub hsub (hI.sat.drawn _)
      · rw [stK_zero]
        refine ⟨fun i hi => ?_, fun g c hg => ?_, ?_⟩
        · have hi : s.nx + mkN l ≤ i := hi
          obtain ⟨h3, h4⟩ := hI.k.fresh i (by omega)
          subst hM1
          refine ⟨h3, ?_⟩
          rintro (h5 | ⟨j, r, nm, ob, h5, h6, _, rfl⟩)
          · exact h4 h5
          · have := hnew j r i ob h5 h6; omega
        · obtain ⟨arr, T, fz, h3, h4⟩ := hI.k.gl g c hg
          exact ⟨arr, T, fz, h3, h4.sub hsub⟩
        · exact hsub.σ.trans hI.k.sg
      · intro i rc _ _
        rw [hrep]; simp
      · intro i o _ hl
        rw [hrep] at hl; cases hl
      · intro x
        constructor
        · intro hx; cases hx
        · rintro ⟨j, r, nm, ob, _, _, _, h5, _⟩
          rw [hrep] at h5; cases h5
      · intro x _
        subst hM1; rfl
      · intro x
        subst hM1; exact Iff.rfl
      · intro j r nm ob h3 h4 _
        obtain ⟨h5, h6⟩ := hnew j r nm ob h3 h4
        obtain ⟨h7, h8⟩ := hI.k.fresh nm h5
        subst hM1
        exact ⟨h7, h8⟩
      · refine Nat.le_trans List.countP_le_length ?_
        simp
  · cases h
end
end Go.Ev
