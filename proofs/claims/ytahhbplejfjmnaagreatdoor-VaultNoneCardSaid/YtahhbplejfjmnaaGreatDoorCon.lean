/- What the evaluator is told of the program: its tables, and which topologies may be (staithref10.Good, proved apart). -/
import Derived.Test.YtahhbplejfjmnaaGreatDoorGb
import Derived.Test.YtahhbplejfjmnaaGreatDoorGood
import Derived.Test.YtahhbplejfjmnaaGreatDoorEI
import Derived.Laws.Externs
import Derived.KernelRfl
namespace Go.Ev
open Go Go.Sl Go.Proofs

theorem pairs : ∀ {n : Nat} {xs : List Value}, xs.length = n * 2 → (∀ x ∈ xs, ∃ i, x = .int .i64 i) → ∃ l : List Edg, l.length = n ∧ xs = l.flatMap Edg.cs
  | 0, xs, h, _ => ⟨[], rfl, by simpa using h⟩
  | n + 1, a :: b :: xs, h, hx => by
    obtain ⟨l, h1, h2⟩ := pairs (n := n) (xs := xs) (by simp at h; omega) (fun x hm => hx x (by simp [hm]))
    obtain ⟨i, rfl⟩ := hx a (by simp)
    obtain ⟨j, rfl⟩ := hx b (by simp)
    exact ⟨⟨i, j⟩ :: l, by simp [h1], by simp [h2, Edg.cs]⟩
  | n + 1, [], h, _ => by simp at h
  | n + 1, [a], h, _ => by simp at h; omega

noncomputable def con1 : Nat → List AV → St → Option (List (AV × St)) := fun f l s => bif Nat.beq f 30 then (match l with
  | [.agg [a, b, c]] => bif isI s a && (isRows s 2 b && isI s c) then some [(.bool true, s), (.bool false, s)] else none
  | _ => none) else none
noncomputable def cx : Cx := ⟨tt, ff, ee, con1⟩

theorem con1_k {f : Nat} {l : List AV} {s : St} {rs : List (AV × St)} (h : con1 f l s = some rs) : f = 30 ∧ ∃ a b c, l = [.agg [a, b, c]] ∧ isI s a = true ∧ isRows s 2 b = true ∧ isI s c = true ∧ rs = [(.bool true, s), (.bool false, s)] := by
  unfold con1 at h
  cases hf : Nat.beq f 30 with
  | false => rw [hf] at h; cases h
  | true =>
    rw [hf] at h
    simp only [cond_true] at h
    split at h
    · rename_i a b c
      cases h1 : isI s a <;> cases h2 : isRows s 2 b <;> cases h3 : isI s c <;> simp only [h1, h2, h3, Bool.and_true, Bool.and_false, cond_true, cond_false, reduceCtorEq, Option.some.injEq] at h
      exact ⟨Nat.eq_of_beq_eq_true hf, a, b, c, rfl, h1, h2, h3, h.symm⟩
    · cases h

theorem good_call (args : Array Value) (w : World) : (callFunc 30 args).run Tryz.prog w = .ok (.enter 30 args) w := Tryz.call30 args w

theorem con1_ok {f : Nat} {l : List AV} {s : St} {rs : List (AV × St)} (h : con1 f l s = some rs) :
    (∀ r ∈ rs, r.2.k = s.k) ∧ (∀ args w, (callFunc f args).run Tryz.prog w = .ok (.enter f args) w) ∧
    ∀ M vs w L (K : Value → World → Prop), VRs M l vs → Inv M s w L → (∀ r ∈ rs, Eff M r L K) → Calls Tryz.prog f vs.toArray w (retd K) := by
  obtain ⟨rfl, a, b, c, rfl, ha, hb, hc, rfl⟩ := con1_k h
  refine ⟨by simp, good_call, fun M vs w L K hl hI hK => ?_⟩
  obtain ⟨v, us, rfl, hv, hus⟩ := hl
  obtain rfl : us = [] := by simpa [VRs] using hus
  simp only [VR] at hv
  obtain ⟨vs, hvs, rfl⟩ := hv
  obtain ⟨va, r1, rfl, h1, hr1⟩ := hvs
  obtain ⟨vb, r2, rfl, h2, hr2⟩ := hr1
  obtain ⟨vc, r3, rfl, h3, hr3⟩ := hr2
  obtain rfl : r3 = [] := by simpa [VRs] using hr3
  obtain ⟨sites, rfl⟩ := isI_ok hI h1 ha
  obtain ⟨hops, rfl⟩ := isI_ok hI h3 hc
  have hsat := hI.sat.perm (List.Perm.swap _ _ _)
  obtain ⟨ad, n, cap, xs, rfl, hlen, hint, hs⟩ := Sat.held hsat (isRows_ok hI h2 hb)
  obtain ⟨es, rfl, rfl⟩ := pairs hlen hint
  refine (g_Good sites hops ad cap es _ w hs).mono fun e w' he => ?_
  cases e with
  | returned v =>
    obtain ⟨b, rfl, hs'⟩ := he
    have hI' : Inv M s w' L := ⟨(hs'.drop).perm (List.Perm.swap _ _ _), hI.k⟩
    cases b
    · exact hK (.bool false, s) (by simp) M _ _ (Nm.le.refl M) (by simp [VR]) hI'
    · exact hK (.bool true, s) (by simp) M _ _ (Nm.le.refl M) (by simp [VR]) hI'
  | _ => exact he.elim

theorem clone_call (args : Array Value) (w : World) : (callFunc 191 args).run Tryz.prog w = ((Extern.MapsClone.clone args).run Tryz.prog w).andThen fun v w' => .ok (.value v) w' :=
  run_callFunc_extern Tryz.func191 rfl rfl rfl rfl args w
theorem ee_ok : TrAll (fun f k => match k with
    | Ext.clone => ∀ args w, (callFunc f args).run Tryz.prog w = ((Extern.MapsClone.clone args).run Tryz.prog w).andThen fun v w' => .ok (.value v) w') 1 0 ee :=
  ⟨(fun v h => by cases h), ⟨(fun v h => by cases h), ⟨(fun v h => by cases h), ⟨(fun v h => by cases h), ⟨(fun v h => by cases h), ⟨(fun v h => by cases h), ⟨(fun v h => by cases h), trivial, ⟨(fun v h => by cases h; exact clone_call), trivial, trivial⟩⟩, trivial⟩, trivial⟩, trivial⟩, trivial⟩, trivial⟩, trivial⟩

theorem one0 (i : Nat) : 1 * i + 0 = i := by omega
theorem cx_ok : GoodC Tryz.prog cx where
  ty := fun t ti h => by have := (tt_ok.get h).1; rwa [one0] at this
  zs := fun t ti h => (tt_ok.get h).2
  fn := fun f fi h => by have := (ff_ok.get h).1; rwa [one0] at this
  call := fun f fi h => by have := (ff_ok.get h).2; rwa [one0] at this
  mix := by kernel_rfl
  con := fun f l s rs h => con1_ok h
  ext := fun f k h => by have := ee_ok.get h; rwa [one0] at this
end Go.Ev
