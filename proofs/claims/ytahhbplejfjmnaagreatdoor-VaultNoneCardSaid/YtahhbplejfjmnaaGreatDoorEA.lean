/- General words for running code of which all is known: values and blocks by names of our own, and what they stand for. No program. -/
import Derived.Test.YtahhbplejfjmnaaGreatDoorSB
namespace Go.Ev
open Go Go.Sl
noncomputable section

inductive AV where
  | bool (b : Bool)
  | int (k : IntKind) (n : Int)
  | str (s : List Nat)
  | ptr (i o : Nat)
  | nilp
  | slice (i o m len : Nat) (cap : Option Nat)
  | nils
  | map (i : Nat)
  | nilm
  | func (f : Nat) (first caps : List AV)
  | yield (i : Nat)
  | nilf
  | agg (l : List AV)
  | tup (l : List AV)
  | iface (t : Nat) (v : AV)
  | nili
  | sym (i : Nat)
  | gptr (g o : Nat)
  | emp
  deriving Inhabited

/-- a block of our naming: the block, where it begins there, how many cells the block has -/
structure Blk where
  b : Nat
  base : Nat
  size : Nat

/-- what the names stand for -/
structure Nm where
  ρ : Nat → Option Blk
  σ : Nat → Value
  /-- names that are kept for later -/
  res : Nat → Prop

def strOf (s : List Nat) : ByteArray := ⟨(s.map UInt8.ofNat).toArray⟩

mutual
def VR (M : Nm) : AV → Value → Prop
  | .bool b, v => v = .bool b
  | .int k n, v => v = .int k n
  | .str s, v => v = .string (strOf s) ∧ s.all (Nat.blt · 256) = true
  | .ptr i o, v => ∃ B, M.ρ i = some B ∧ v = .pointer (some ⟨B.b, B.base + o, none⟩)
  | .nilp, v => v = .pointer none
  | .slice i o m n c, v => ∃ B c', M.ρ i = some B ∧ v = .slice (some ⟨B.b, B.base + o, none⟩) n c' ∧ n ≤ c' ∧ B.base + o + c' * m ≤ B.size ∧ (∀ k, c = some k → c' = k)
  | .nils, v => v = .slice none 0 0
  | .map i, v => ∃ B, M.ρ i = some B ∧ v = .map (some B.b)
  | .nilm, v => v = .map none
  | .func f xs ys, v => ∃ vs us, VRs M xs vs ∧ VRs M ys us ∧ v = .func (.func f) vs.toArray us.toArray
  | .yield i, v => ∃ B, M.ρ i = some B ∧ v = .func (.yield B.b) #[] #[]
  | .nilf, v => v = .nilFunc
  | .agg l, v => ∃ vs, VRs M l vs ∧ v = .agg vs.toArray
  | .tup l, v => ∃ vs, VRs M l vs ∧ v = .tuple vs.toArray
  | .iface t a, v => ∃ u, VR M a u ∧ v = .iface t u
  | .nili, v => v = .nilIface
  | .sym i, v => v = M.σ i ∧ one v = true
  | .gptr g o, v => v = .pointer (some ⟨g, o, none⟩)
  | .emp, v => ∃ a c, v = .slice (some a) 0 c
def VRs (M : Nm) : List AV → List Value → Prop
  | [], vs => vs = []
  | a :: l, vs => ∃ v us, vs = v :: us ∧ VR M a v ∧ VRs M l us
end

structure Nm.sub (M M' : Nm) : Prop where
  ρ : ∀ i B, M.ρ i = some B → M'.ρ i = some B
  σ : M'.σ = M.σ
structure Nm.le (M M' : Nm) : Prop extends Nm.sub M M' where
  res : M'.res = M.res
  keep : ∀ i, M.res i → M'.ρ i = M.ρ i
theorem Nm.le.refl (M : Nm) : M.le M := ⟨⟨fun _ _ h => h, rfl⟩, rfl, fun _ _ => rfl⟩
theorem Nm.le.trans {M M' M'' : Nm} (h : M.le M') (h' : M'.le M'') : M.le M'' := ⟨⟨fun i B q => h'.ρ i B (h.ρ i B q), h'.σ.trans h.σ⟩, h'.res.trans h.res, fun i hi => (h'.keep i (by rw [h.res]; exact hi)).trans (h.keep i hi)⟩

mutual
theorem VR.sub {M M' : Nm} (hm : M.sub M') : ∀ (a : AV) {v : Value}, VR M a v → VR M' a v
  | .bool _, _, h => by simpa [VR] using h
  | .int _ _, _, h => by simpa [VR] using h
  | .str _, _, h => by simpa [VR] using h
  | .ptr i o, _, h => by
    simp only [VR] at h ⊢
    obtain ⟨B, h1, h2⟩ := h; exact ⟨B, hm.ρ _ _ h1, h2⟩
  | .nilp, _, h => by simpa [VR] using h
  | .slice i o m n c, _, h => by
    simp only [VR] at h ⊢
    obtain ⟨B, c', h1, h2⟩ := h; exact ⟨B, c', hm.ρ _ _ h1, h2⟩
  | .nils, _, h => by simpa [VR] using h
  | .map i, _, h => by
    simp only [VR] at h ⊢
    obtain ⟨B, h1, h2⟩ := h; exact ⟨B, hm.ρ _ _ h1, h2⟩
  | .nilm, _, h => by simpa [VR] using h
  | .func f xs ys, _, h => by
    simp only [VR] at h ⊢
    obtain ⟨vs, us, h1, h2, h3⟩ := h; exact ⟨vs, us, VRs.sub hm xs h1, VRs.sub hm ys h2, h3⟩
  | .yield i, _, h => by
    simp only [VR] at h ⊢
    obtain ⟨B, h1, h2⟩ := h; exact ⟨B, hm.ρ _ _ h1, h2⟩
  | .nilf, _, h => by simpa [VR] using h
  | .agg l, _, h => by
    simp only [VR] at h ⊢
    obtain ⟨vs, h1, h2⟩ := h; exact ⟨vs, VRs.sub hm l h1, h2⟩
  | .tup l, _, h => by
    simp only [VR] at h ⊢
    obtain ⟨vs, h1, h2⟩ := h; exact ⟨vs, VRs.sub hm l h1, h2⟩
  | .iface t a, _, h => by
    simp only [VR] at h ⊢
    obtain ⟨u, h1, h2⟩ := h; exact ⟨u, VR.sub hm a h1, h2⟩
  | .nili, _, h => by simpa [VR] using h
  | .sym i, _, h => by
    simp only [VR] at h ⊢
    rw [hm.σ]; exact h
  | .gptr _ _, _, h => by simpa [VR] using h
  | .emp, _, h => by simpa [VR] using h
theorem VRs.sub {M M' : Nm} (hm : M.sub M') : ∀ (l : List AV) {vs : List Value}, VRs M l vs → VRs M' l vs
  | [], _, h => by simpa [VRs] using h
  | a :: l, _, h => by
    simp only [VRs] at h ⊢
    obtain ⟨v, us, h1, h2, h3⟩ := h; exact ⟨v, us, h1, VR.sub hm a h2, VRs.sub hm l h3⟩
end

theorem VRs.length {M : Nm} : ∀ {l : List AV} {vs : List Value}, VRs M l vs → vs.length = l.length
  | [], _, h => by simp only [VRs] at h; subst h; rfl
  | a :: l, _, h => by
    simp only [VRs] at h
    obtain ⟨v, us, rfl, h2, h3⟩ := h
    simp [VRs.length h3]
theorem VRs.get {M : Nm} : ∀ {l : List AV} {vs : List Value} {j : Nat} {a : AV}, VRs M l vs → l[j]? = some a → ∃ v, vs[j]? = some v ∧ VR M a v
  | [], _, _, _, _, hj => by simp at hj
  | a :: l, _, j, b, h, hj => by
    simp only [VRs] at h
    obtain ⟨v, us, rfl, h2, h3⟩ := h
    cases j with
    | zero => simp at hj; subst hj; exact ⟨v, rfl, h2⟩
    | succ j => simp at hj; simpa using VRs.get h3 hj
theorem VRs.append {M : Nm} : ∀ {l l' : List AV} {vs vs' : List Value}, VRs M l vs → VRs M l' vs' → VRs M (l ++ l') (vs ++ vs')
  | [], _, _, _, h, h' => by simp only [VRs] at h; subst h; exact h'
  | a :: l, _, _, _, h, h' => by
    simp only [VRs] at h
    obtain ⟨v, us, rfl, h2, h3⟩ := h
    simp only [List.cons_append, VRs]
    exact ⟨v, us ++ _, rfl, h2, VRs.append h3 h'⟩
theorem VRs.nil {M : Nm} : VRs M [] [] := by simp [VRs]
theorem VRs.cons {M : Nm} {a : AV} {l : List AV} {v : Value} {vs : List Value} (h : VR M a v) (h' : VRs M l vs) : VRs M (a :: l) (v :: vs) := by
  simp only [VRs]; exact ⟨v, vs, rfl, h, h'⟩

/-! ### blocks -/
structure ALoop where
  env : List (Nat × AV)
  n : Nat
  lose : Nat
  ps : List Nat
  assign : Code
  body : Code
inductive AObj where
  | cells (c : List AV) (T : Nat)
  | ro (c : List AV)
  | map (ck : Nat) (m : List (AV × AV × Nat))
  | strIter (s : List Nat) (pos : Nat)
  | deferred
  | loop (l : ALoop)
  | mapIter (m : Option Nat) (since : Nat) (seen : List Nat) (last : Nat)
  deriving Inhabited

/-- the temporaries that are known, the newest first -/
def eget (ae : List (Nat × AV)) (t : Nat) : Option AV := List.rec (motive := fun _ => Option AV) none (fun p _ ih => bif Nat.beq p.1 t then some p.2 else ih) ae
def EnvR (M : Nm) (ae : List (Nat × AV)) (e : Env) : Prop := ∀ t a, eget ae t = some a → VR M a (e t)
theorem eget_cons (p : Nat × AV) (ae : List (Nat × AV)) (t : Nat) : eget (p :: ae) t = bif Nat.beq p.1 t then some p.2 else eget ae t := rfl
theorem EnvR.put {M : Nm} {ae : List (Nat × AV)} {e : Env} (h : EnvR M ae e) {d : Nat} {a : AV} {v : Value} (hv : VR M a v) : EnvR M ((d, a) :: ae) (put e d v) := by
  intro t b hb
  rw [eget_cons] at hb
  by_cases ht : d = t
  · subst ht
    simp only [Nat.beq_refl, cond_true, Option.some.injEq] at hb
    subst hb
    rw [put_same]; exact hv
  · rw [beq_ne ht, cond_false] at hb
    rw [put_other _ _ (fun q => ht q.symm)]
    exact h t b hb

def cellsR (M : Nm) (c : List AV) (base : Nat) (arr : Array Value) : Prop := ∀ j a, c[j]? = some a → ∃ v, arr[base + j]? = some v ∧ VR M a v

/-- a map's entries, one by one -/
def MR (M : Nm) : List (AV × AV × Nat) → List MapEntry → Prop
  | [], es => es = []
  | p :: m, es => ∃ e l, es = e :: l ∧ VR M p.1 e.key ∧ VR M p.2.1 e.val ∧ e.born = p.2.2 ∧ MR M m l
def OR (M : Nm) : AObj → Blk → Obj → Prop
  | .cells c T, B, o => ∃ arr, o = .cells arr T (0, 0) ∧ arr.size = B.size ∧ cellsR M c B.base arr
  | .ro c, B, o => ∃ arr T fz, o = .cells arr T fz ∧ arr.size = B.size ∧ cellsR M c B.base arr
  | .map ck m, _, o => ∃ es, o = .map es ck ∧ MR M m es.toList
  | .strIter s pos, B, o => B.base = 0 ∧ o = .stringIter (strOf s) pos ∧ s.all (Nat.blt · 256) = true
  | .deferred, _, o => o = .deferred (some [])
  | .loop l, _, o => ∃ (e : Env) (L : Loop), o = .loop L ∧ EnvR M l.env e ∧ L.state = .ready ∧ L.pending = none ∧ L.tmps.size = l.n ∧ (∀ t, L.tmps.getD t undef = e t) ∧ L.params.toList = l.ps ∧ L.assign = l.assign ∧ L.body = l.body
  | .mapIter i since seen last, B, o => B.base = 0 ∧ match i with
    | none => o = .mapIter none since seen.toArray last
    | some j => ∃ B, M.ρ j = some B ∧ o = .mapIter (some B.b) since seen.toArray last

theorem EnvR.sub {M M' : Nm} (hm : M.sub M') {ae : List (Nat × AV)} {e : Env} (h : EnvR M ae e) : EnvR M' ae e := fun t a ht => VR.sub hm _ (h t a ht)
theorem cellsR.sub {M M' : Nm} (hm : M.sub M') {c : List AV} {base : Nat} {arr : Array Value} (h : cellsR M c base arr) : cellsR M' c base arr := fun j a hj =>
  let ⟨v, h1, h2⟩ := h j a hj; ⟨v, h1, VR.sub hm _ h2⟩
theorem MR.sub {M M' : Nm} (hm : M.sub M') : ∀ {m : List (AV × AV × Nat)} {es : List MapEntry}, MR M m es → MR M' m es
  | [], _, h => h
  | p :: m, _, h => by
    obtain ⟨e, l, h1, h2, h3, h4, h5⟩ := h
    exact ⟨e, l, h1, VR.sub hm _ h2, VR.sub hm _ h3, h4, h5.sub hm⟩
theorem OR.sub {M M' : Nm} (hm : M.sub M') : ∀ {a : AObj} {B : Blk} {o : Obj}, OR M a B o → OR M' a B o
  | .cells _ _, _, _, h => by
    obtain ⟨arr, h1, h2, h3⟩ := h
    exact ⟨arr, h1, h2, h3.sub hm⟩
  | .ro _, _, _, h => by
    obtain ⟨arr, T, fz, h1, h2, h3⟩ := h
    exact ⟨arr, T, fz, h1, h2, h3.sub hm⟩
  | .map ck m, _, _, h => by
    obtain ⟨es, h1, h2⟩ := h
    exact ⟨es, h1, h2.sub hm⟩
  | .strIter s pos, _, _, h => h
  | .deferred, _, _, h => h
  | .loop l, _, _, h => by
    obtain ⟨e, L, h1, h2, h3⟩ := h
    exact ⟨e, L, h1, h2.sub hm, h3⟩
  | .mapIter none _ _ _, _, _, h => h
  | .mapIter (some j) _ _ _, _, _, h => by
    obtain ⟨h0, B, h1, h2⟩ := h
    exact ⟨h0, B, hm.ρ _ _ h1, h2⟩

/-! ### the memory: which blocks are known -/
def hp (M : Nm) (h : Nat → Option AObj) : HP := ⟨fun w _ F => (∀ b, F b ↔ ∃ i o B, h i = some o ∧ M.ρ i = some B ∧ b = B.b) ∧ (∀ i o, h i = some o → ∃ B ob, M.ρ i = some B ∧ w.heap[B.b]? = some ob ∧ OR M o B ob) ∧
    (∀ i j o o' B B', h i = some o → h j = some o' → M.ρ i = some B → M.ρ j = some B' → B.b = B'.b → i = j), by
  rintro w w' R R' F ⟨h1, h2, h3⟩ hag _
  refine ⟨h1, fun i o hi => ?_, h3⟩
  obtain ⟨B, ob, q1, q2, q3⟩ := h2 i o hi
  exact ⟨B, ob, q1, by rw [hag.blk _ (.inl ((h1 _).2 ⟨i, o, B, hi, q1, rfl⟩)), q2], q3⟩⟩

def upd {α : Type} (h : Nat → Option α) (i : Nat) (o : Option α) : Nat → Option α := fun j => if j = i then o else h j
theorem upd_same {α : Type} (h : Nat → Option α) (i : Nat) (o : Option α) : upd h i o i = o := by simp [upd]
theorem upd_other {α : Type} {h : Nat → Option α} {i j : Nat} {o : Option α} (hj : j ≠ i) : upd h i o j = h j := by simp [upd, hj]

/-- take one known block out -/
theorem hp_out {M : Nm} {h : Nat → Option AObj} {i : Nat} {o : AObj} {w : World} {L : List HP} (hs : Sat w (hp M h :: L)) (hi : h i = some o) :
    ∃ B ob, M.ρ i = some B ∧ OR M o B ob ∧ Sat w (obj B.b ob :: hp M (upd h i none) :: L) := by
  obtain ⟨R, F, h1, h2, F1, F2, h3, h4, ⟨g1, g2, g3⟩, h6⟩ := hs
  obtain ⟨B, ob, q1, q2, q3⟩ := g2 i o hi
  refine ⟨B, ob, q1, q3, R, F, h1, h2, fun b => b = B.b, fun b => (F1 b ∧ b ≠ B.b) ∨ F2 b, fun b => ?_, fun b hb hb' => ?_, ⟨fun b => Iff.rfl, q2⟩, fun b => F1 b ∧ b ≠ B.b, F2, fun b => Iff.rfl, fun b hb hb' => h4 b hb.1 hb', ⟨fun b => ?_, fun j o' hj => ?_, fun j k o' o'' C C' hj hk => ?_⟩, h6⟩
  · rw [h3]
    constructor
    · rintro (h | h)
      · by_cases hb : b = B.b
        · exact .inl hb
        · exact .inr (.inl ⟨h, hb⟩)
      · exact .inr (.inr h)
    · rintro (rfl | h | h)
      · exact .inl ((g1 _).2 ⟨i, o, B, hi, q1, rfl⟩)
      · exact .inl h.1
      · exact .inr h
  · rcases hb' with h | h
    · exact h.2 hb
    · subst hb; exact h4 _ ((g1 _).2 ⟨i, o, B, hi, q1, rfl⟩) h
  · show (F1 b ∧ b ≠ B.b) ↔ _
    rw [g1]
    constructor
    · rintro ⟨⟨j, o', C, e1, e2, e3⟩, hne⟩
      refine ⟨j, o', C, ?_, e2, e3⟩
      have : j ≠ i := by rintro rfl; rw [q1] at e2; cases e2; exact hne e3
      rw [upd_other this]; exact e1
    · rintro ⟨j, o', C, e1, e2, e3⟩
      have hji : j ≠ i := by rintro rfl; rw [upd_same] at e1; cases e1
      rw [upd_other hji] at e1
      refine ⟨⟨j, o', C, e1, e2, e3⟩, fun hb => hji ?_⟩
      exact g3 j i o' o C B e1 hi e2 q1 (by rw [← e3, hb])
  · have hji : j ≠ i := by rintro rfl; rw [upd_same] at hj; cases hj
    rw [upd_other hji] at hj
    exact g2 j o' hj
  · have hji : j ≠ i := by rintro rfl; rw [upd_same] at hj; cases hj
    have hki : k ≠ i := by rintro rfl; rw [upd_same] at hk; cases hk
    rw [upd_other hji] at hj; rw [upd_other hki] at hk
    exact g3 j k o' o'' C C' hj hk

/-- put one block in -/
theorem hp_in {M : Nm} {h : Nat → Option AObj} {i : Nat} {o : AObj} {B : Blk} {ob : Obj} {w : World} {L : List HP} (hs : Sat w (obj B.b ob :: hp M h :: L)) (hi : h i = none) (hB : M.ρ i = some B) (ho : OR M o B ob) :
    Sat w (hp M (upd h i (some o)) :: L) := by
  obtain ⟨R, F, h1, h2, F1, F2, h3, h4, ⟨g1, g2⟩, G1, G2, e1, e2, ⟨k1, k2, k3⟩, h6⟩ := hs
  refine ⟨R, F, h1, h2, fun b => F1 b ∨ G1 b, G2, fun b => by rw [h3, e1, or_assoc], fun b hb hb' => ?_, ⟨fun b => ?_, fun j o' hj => ?_, fun j k o' o'' C C' hj hk c1 c2 hC => ?_⟩, h6⟩
  · rcases hb with hb | hb
    · exact h4 b hb ((e1 b).2 (.inr hb'))
    · exact e2 b hb hb'
  · show (F1 b ∨ G1 b) ↔ _
    rw [g1, k1]
    constructor
    · rintro (rfl | ⟨j, o', C, e1, e2, e3⟩)
      · exact ⟨i, o, B, upd_same _ _ _, hB, rfl⟩
      · have hji : j ≠ i := by rintro rfl; rw [hi] at e1; cases e1
        exact ⟨j, o', C, by rw [upd_other hji]; exact e1, e2, e3⟩
    · rintro ⟨j, o', C, e1, e2, e3⟩
      by_cases hji : j = i
      · subst hji; rw [hB] at e2; cases e2; exact .inl e3
      · rw [upd_other hji] at e1; exact .inr ⟨j, o', C, e1, e2, e3⟩
  · by_cases hji : j = i
    · subst hji; rw [upd_same] at hj; cases hj; exact ⟨B, ob, hB, g2, ho⟩
    · rw [upd_other hji] at hj; exact k2 j o' hj
  · by_cases hji : j = i
    · by_cases hki : k = i
      · rw [hji, hki]
      · subst hji
        rw [upd_other hki] at hk
        rw [hB] at c1; cases c1
        exact (h4 B.b ((g1 _).2 rfl) ((e1 _).2 (.inl ((k1 _).2 ⟨k, o'', C', hk, c2, hC⟩)))).elim
    · rw [upd_other hji] at hj
      by_cases hki : k = i
      · subst hki
        rw [hB] at c2; cases c2
        exact (h4 B.b ((g1 _).2 rfl) ((e1 _).2 (.inl ((k1 _).2 ⟨j, o', C, hj, c1, hC.symm⟩)))).elim
      · rw [upd_other hki] at hk
        exact k3 j k o' o'' C C' hj hk c1 c2 hC

theorem hp_sub {M M' : Nm} (hm : M.sub M') {h : Nat → Option AObj} {w : World} {L : List HP} (hs : Sat w (hp M h :: L)) : Sat w (hp M' h :: L) := by
  refine hs.mono ?_
  rintro R F ⟨h1, h2, h3⟩
  have hin : ∀ {i o B}, h i = some o → M'.ρ i = some B → M.ρ i = some B := fun {i o B} hi hB => by
    obtain ⟨C, ob, q1, _, _⟩ := h2 i o hi
    have := hm.ρ _ _ q1
    rw [hB] at this; cases this; exact q1
  refine ⟨fun b => ?_, fun i o hi => ?_, fun i j o o' B B' hi hj c1 c2 => h3 i j o o' B B' hi hj (hin hi c1) (hin hj c2)⟩
  · rw [h1]
    constructor
    · rintro ⟨i, o, B, e1, e2, e3⟩; exact ⟨i, o, B, e1, hm.ρ _ _ e2, e3⟩
    · rintro ⟨i, o, B, e1, e2, e3⟩; exact ⟨i, o, B, e1, hin e1 e2, e3⟩
  · obtain ⟨B, ob, q1, q2, q3⟩ := h2 i o hi
    exact ⟨B, ob, hm.ρ _ _ q1, q2, q3.sub hm⟩

/-- what is known of fewer blocks -/
theorem hp_drop {M : Nm} {h : Nat → Option AObj} {i : Nat} {w : World} {L : List HP} (hs : Sat w (hp M h :: L)) : Sat w (hp M (upd h i none) :: L) := by
  cases hi : h i with
  | none =>
    have : upd h i none = h := by funext j; by_cases hj : j = i <;> simp [upd, hj, hi]
    rw [this]; exact hs
  | some o =>
    obtain ⟨B, ob, _, _, h1⟩ := hp_out hs hi
    exact h1.drop
theorem upd_upd {α : Type} (h : Nat → Option α) (i : Nat) (o o' : Option α) : upd (upd h i o) i o' = upd h i o' := by
  funext j; by_cases hj : j = i <;> simp [upd, hj]
theorem VR.mono {M M' : Nm} (hm : M.le M') (a : AV) {v : Value} (h : VR M a v) : VR M' a v := VR.sub hm.tosub a h
theorem VRs.mono {M M' : Nm} (hm : M.le M') (l : List AV) {vs : List Value} (h : VRs M l vs) : VRs M' l vs := VRs.sub hm.tosub l h
theorem EnvR.mono {M M' : Nm} (hm : M.le M') {ae : List (Nat × AV)} {e : Env} (h : EnvR M ae e) : EnvR M' ae e := EnvR.sub hm.tosub h
theorem cellsR.mono {M M' : Nm} (hm : M.le M') {c : List AV} {base : Nat} {arr : Array Value} (h : cellsR M c base arr) : cellsR M' c base arr := cellsR.sub hm.tosub h
theorem MR.mono {M M' : Nm} (hm : M.le M') {m : List (AV × AV × Nat)} {es : List MapEntry} (h : MR M m es) : MR M' m es := MR.sub hm.tosub h
theorem OR.mono {M M' : Nm} (hm : M.le M') {a : AObj} {B : Blk} {o : Obj} (h : OR M a B o) : OR M' a B o := OR.sub hm.tosub h
theorem hp_mono {M M' : Nm} (hm : M.le M') {h : Nat → Option AObj} {w : World} {L : List HP} (hs : Sat w (hp M h :: L)) : Sat w (hp M' h :: L) := hp_sub hm.tosub hs
end
end Go.Ev
/- General words for running code of which all is known: operations that only reckon. No program. -/
namespace Go.Ev
open Go Go.Sl
noncomputable section

/-! ### a search tree by number -/
inductive Tr (α : Type) where
  | leaf
  | node (o : Option α) (l r : Tr α)
def Tr.get {α : Type} (t : Tr α) (i : Nat) : Option α :=
  Tr.rec (motive := fun _ => Nat → Option α) (fun _ => none) (fun o _ _ gl gr i => bif Nat.beq i 0 then o else bif Nat.beq (i % 2) 1 then gl (i / 2) else gr (i / 2 - 1)) t i
def Tr.putN {α : Type} (k : Nat) (t : Tr α) (i : Nat) (v : Option α) : Tr α :=
  Nat.rec (motive := fun _ => Tr α → Nat → Tr α) (fun t _ => t)
    (fun _ ih t i => Tr.casesOn (motive := fun _ => Tr α) t
      (bif Nat.beq i 0 then .node v .leaf .leaf else bif Nat.beq (i % 2) 1 then .node none (ih .leaf (i / 2)) .leaf else .node none .leaf (ih .leaf (i / 2 - 1)))
      (fun o l r => bif Nat.beq i 0 then .node v l r else bif Nat.beq (i % 2) 1 then .node o (ih l (i / 2)) r else .node o l (ih r (i / 2 - 1)))) k t i
def Tr.put {α : Type} (t : Tr α) (i : Nat) (v : Option α) : Tr α := t.putN (i + 1) i v
theorem Tr.get_leaf {α : Type} (i : Nat) : (Tr.leaf : Tr α).get i = none := rfl
theorem Tr.get_node {α : Type} (o : Option α) (l r : Tr α) (i : Nat) : (Tr.node o l r).get i = bif Nat.beq i 0 then o else bif Nat.beq (i % 2) 1 then l.get (i / 2) else r.get (i / 2 - 1) := rfl
theorem Tr.putN_succ {α : Type} (k : Nat) (t : Tr α) (i : Nat) (v : Option α) : t.putN (k + 1) i v = match t with
    | .leaf => bif Nat.beq i 0 then .node v .leaf .leaf else bif Nat.beq (i % 2) 1 then .node none (Tr.leaf.putN k (i / 2) v) .leaf else .node none .leaf (Tr.leaf.putN k (i / 2 - 1) v)
    | .node o l r => bif Nat.beq i 0 then .node v l r else bif Nat.beq (i % 2) 1 then .node o (l.putN k (i / 2) v) r else .node o l (r.putN k (i / 2 - 1) v) := by cases t <;> rfl
theorem Tr.getD_leafnode {α : Type} (t : Tr α) (i : Nat) : t.get i = (match t with | .leaf => (Tr.node none .leaf .leaf : Tr α) | .node o l r => .node o l r).get i := by
  cases t with
  | leaf => simp only [get_node, get_leaf]; cases Nat.beq i 0 <;> cases Nat.beq (i % 2) 1 <;> rfl
  | node o l r => rfl
theorem Tr.get_putN {α : Type} : ∀ (k : Nat) (t : Tr α) (i j : Nat) (v : Option α), i < k → (t.putN k i v).get j = if j = i then v else t.get j := by
  intro k
  induction k with
  | zero => intro t i j v h; omega
  | succ k ih =>
    intro t i j v h
    rw [putN_succ, getD_leafnode t]
    have key : ∀ (o : Option α) (l r : Tr α), (bif Nat.beq i 0 then Tr.node v l r else bif Nat.beq (i % 2) 1 then .node o (l.putN k (i / 2) v) r else .node o l (r.putN k (i / 2 - 1) v)).get j =
        if j = i then v else (Tr.node o l r).get j := by
      intro o l r
      by_cases h0 : i = 0
      · subst h0
        simp only [Nat.beq_refl, cond_true, get_node]
        by_cases hj : j = 0
        · subst hj; simp
        · rw [beq_ne hj, if_neg hj]; rfl
      · rw [beq_ne h0, cond_false]
        by_cases h1 : i % 2 = 1
        · rw [h1, Nat.beq_refl, cond_true, get_node, get_node, ih l (i / 2) (j / 2) v (by omega)]
          by_cases hj : j = 0
          · subst hj; simp; omega
          · rw [beq_ne hj, cond_false, cond_false]
            by_cases hj1 : j % 2 = 1
            · rw [hj1, Nat.beq_refl, cond_true, cond_true]
              by_cases hji : j = i
              · subst hji; simp
              · rw [if_neg hji, if_neg (by omega)]
            · rw [beq_ne hj1, cond_false, cond_false, if_neg (by rintro rfl; exact hj1 h1)]
        · rw [beq_ne h1, cond_false, get_node, get_node, ih r (i / 2 - 1) (j / 2 - 1) v (by omega)]
          by_cases hj : j = 0
          · subst hj; simp; omega
          · rw [beq_ne hj, cond_false, cond_false]
            by_cases hj1 : j % 2 = 1
            · rw [hj1, Nat.beq_refl, cond_true, cond_true, if_neg (by rintro rfl; exact h1 hj1)]
            · rw [beq_ne hj1, cond_false, cond_false]
              by_cases hji : j = i
              · subst hji; simp
              · rw [if_neg hji, if_neg (by omega)]
    cases t with
    | leaf =>
      have := key none .leaf .leaf
      simpa using this
    | node o l r => exact key o l r
theorem Tr.get_put {α : Type} (t : Tr α) (i : Nat) (v : Option α) : (t.put i v).get = upd t.get i v := by
  funext j
  unfold put upd
  exact get_putN (i + 1) t i j v (by omega)

/-! ### types -/
structure TI where
  und : TypeDesc
  agg : Bool
  size : Nat
  bytes : Nat
  zero : Value
  eqs : Bool
structure TOk (P : Program) (t : TypeId) (ti : TI) : Prop where
  und : P.underlying t = some ti.und
  agg : ∀ w, (isAgg t).run P w = .ok ti.agg w
  size : ∀ w, (sizeOf t).run P w = .ok ti.size w
  zero : ∀ w, (zeroValue t).run P w = .ok ti.zero w
  info : ∃ i, (∀ w, (typeInfo t).run P w = .ok i w) ∧ i.bytes = ti.bytes
  eqs : ti.eqs = true → P.stoodInHeld t = false ∧ P.eqGuardType P.depth t = false ∧ ∀ fs, ti.und = .struct fs → ∀ f ∈ fs.toList, f.name ≠ "_"
def Types (P : Program) (X : Tr TI) : Prop := ∀ t ti, X.get t = some ti → TOk P t ti

/-! ### operands -/
def bytesOf (b : ByteArray) : List Nat := b.data.toList.map UInt8.toNat
theorem strOf_bytes (b : ByteArray) : strOf (bytesOf b) = b := by
  rcases b with ⟨⟨l⟩⟩
  have : (UInt8.ofNat ∘ UInt8.toNat) = id := by funext x; simp
  simp [strOf, bytesOf, this]
theorem bytes_lt (b : ByteArray) : (bytesOf b).all (Nat.blt · 256) = true := by
  simp only [bytesOf, List.all_map, List.all_eq_true]
  intro x _
  show Nat.ble (x.toNat + 1) 256 = true
  rw [Nat.ble_eq]; exact UInt8.toNat_lt x
def absV : Value → Option AV
  | .bool b => some (.bool b)
  | .int k n => some (.int k n)
  | .string s => some (.str (bytesOf s))
  | .pointer none => some .nilp
  | .slice none 0 0 => some .nils
  | .map none => some .nilm
  | .nilFunc => some .nilf
  | .nilIface => some .nili
  | _ => none
theorem absV_ok {v : Value} {a : AV} (h : absV v = some a) (M : Nm) : VR M a v := by
  unfold absV at h
  split at h <;> first | (cases h; simp [VR]) | cases h
  exact ⟨(strOf_bytes _).symm, by simpa using bytes_lt _⟩

def opnd (ae : List (Nat × AV)) : Operand → Option AV
  | .tmp t => eget ae t
  | .const v => absV v
  | .func f => some (.func f [] [])
  | .global g => some (.gptr g 0)
theorem opnd_ok {M : Nm} {ae : List (Nat × AV)} {e : Env} (he : EnvR M ae e) {x : Operand} {a : AV} (h : opnd ae x = some a) : VR M a (Sl.ev e x) := by
  cases x with
  | tmp t => exact he t a h
  | const v => exact absV_ok h M
  | func f =>
    simp only [opnd, Option.some.injEq] at h; subst h
    simp only [VR, VRs, Sl.ev]
    exact ⟨[], [], rfl, rfl, rfl⟩
  | global g =>
    simp only [opnd, Option.some.injEq] at h; subst h
    simp only [VR, Sl.ev]
def opnds (ae : List (Nat × AV)) : List Operand → Option (List AV)
  | [] => some []
  | x :: xs => match opnd ae x with
    | some a => match opnds ae xs with
      | some l => some (a :: l)
      | none => none
    | none => none
theorem opnds_ok {M : Nm} {ae : List (Nat × AV)} {e : Env} (he : EnvR M ae e) : ∀ {xs : List Operand} {l : List AV}, opnds ae xs = some l → VRs M l (xs.map (Sl.ev e))
  | [], l, h => by simp only [opnds, Option.some.injEq] at h; subst h; exact VRs.nil
  | x :: xs, l, h => by
    simp only [opnds] at h
    split at h
    · rename_i a ha
      split at h
      · rename_i l' hl
        cases h
        exact VRs.cons (opnd_ok he ha) (opnds_ok he hl)
      · cases h
    · cases h

def pureOf {α : Type} : Sem α → Option α
  | .pure a => some a
  | _ => none
theorem pureOf_ok {α : Type} {s : Sem α} {a : α} (h : pureOf s = some a) (P : Program) (w : World) : s.run P w = .ok a w := by
  cases s <;> first | (cases h; rfl) | cases h

def absI : Value → Option AV
  | .bool b => some (.bool b)
  | .int k n => some (.int k n)
  | _ => none
theorem absI_ok {v : Value} {a : AV} (h : absI v = some a) (M : Nm) : VR M a v := by
  unfold absI at h
  split at h <;> first | (cases h; simp [VR]) | cases h

def lexLt : List Nat → List Nat → Bool
  | _, [] => false
  | [], _ :: _ => true
  | a :: x, b :: y => Nat.blt a b || (Nat.beq a b && lexLt x y)
def lexEq : List Nat → List Nat → Bool
  | [], [] => true
  | a :: x, b :: y => Nat.beq a b && lexEq x y
  | _, _ => false
theorem lexEq_ok : ∀ (x y : List Nat), lexEq x y = decide (x = y)
  | [], [] => by simp [lexEq]
  | [], b :: y => by simp [lexEq]
  | a :: x, [] => by simp [lexEq]
  | a :: x, b :: y => by
    simp only [lexEq, lexEq_ok x y]
    by_cases h : a = b
    · subst h; simp
    · rw [beq_ne h]; simp [h]
theorem blt256 {s : List Nat} (h : s.all (Nat.blt · 256) = true) : ∀ x ∈ s, x < 256 := by
  simp only [List.all_eq_true] at h
  intro x hx
  exact Nat.le_of_ble_eq_true (h x hx)
theorem strOf_inj {s t : List Nat} (hs : ∀ x ∈ s, x < 256) (ht : ∀ x ∈ t, x < 256) : strOf s = strOf t ↔ s = t := by
  constructor
  · intro h
    have h1 : s.map UInt8.ofNat = t.map UInt8.ofNat := by
      have := congrArg (fun b : ByteArray => b.data.toList) h
      simpa [strOf] using this
    have h2 := congrArg (List.map UInt8.toNat) h1
    simp only [List.map_map] at h2
    have e : ∀ (l : List Nat), (∀ x ∈ l, x < 256) → l.map (UInt8.toNat ∘ UInt8.ofNat) = l := by
      intro l hl
      conv => rhs; rw [← List.map_id l]
      apply List.map_congr_left
      intro x hx
      simp [UInt8.toNat_ofNat', Nat.mod_eq_of_lt (hl x hx)]
    rwa [e s hs, e t ht] at h2
  · rintro rfl; rfl
theorem strOf_size (s : List Nat) : (strOf s).size = s.length := by simp [strOf, ByteArray.size]
theorem ofNat_lt {a b : Nat} (ha : a < 256) (hb : b < 256) : (UInt8.ofNat a < UInt8.ofNat b) ↔ a < b := by
  simp [UInt8.lt_iff_toNat_lt, Nat.mod_eq_of_lt ha, Nat.mod_eq_of_lt hb]
theorem ofNat_eq {a b : Nat} (ha : a < 256) (hb : b < 256) : (UInt8.ofNat a = UInt8.ofNat b) ↔ a = b := by
  constructor
  · intro h
    have := congrArg UInt8.toNat h
    simpa [Nat.mod_eq_of_lt ha, Nat.mod_eq_of_lt hb] using this
  · rintro rfl; rfl
theorem strOf_list (s : List Nat) : (strOf s).toList = s.map UInt8.ofNat := by
  rw [ByteArray.toList_eq]
  simp [strOf]
theorem lexLt_ok : ∀ {x y : List Nat}, (∀ q ∈ x, q < 256) → (∀ q ∈ y, q < 256) → Op.bytesLess (x.map UInt8.ofNat) (y.map UInt8.ofNat) = lexLt x y
  | [], [], _, _ => rfl
  | [], b :: y, _, _ => rfl
  | a :: x, [], _, _ => rfl
  | a :: x, b :: y, hx, hy => by
    simp only [List.map_cons, Op.bytesLess, lexLt]
    rw [lexLt_ok (fun q hq => hx q (by simp [hq])) (fun q hq => hy q (by simp [hq]))]
    have ha := hx a (by simp)
    have hb := hy b (by simp)
    have e1 : decide (UInt8.ofNat a < UInt8.ofNat b) = Nat.blt a b := by
      rw [Bool.eq_iff_iff]; simp only [decide_eq_true_eq, ofNat_lt ha hb]
      show a < b ↔ Nat.ble (a + 1) b = true
      rw [Nat.ble_eq]; exact Iff.rfl
    have e2 : (UInt8.ofNat a == UInt8.ofNat b) = Nat.beq a b := by
      rw [Bool.eq_iff_iff]; simp only [beq_iff_eq, ofNat_eq ha hb]
      rw [Nat.beq_eq]
    rw [e1, e2]
end
end Go.Ev
/- General words for running code of which all is known: operations that only reckon, continued. No program. -/
namespace Go.Ev
open Go Go.Sl
noncomputable section
variable {P : Program} {X : Tr TI} {M : Nm} {ae : List (Nat × AV)} {e : Env} {o : Oper} {x y : Operand} {t u : TypeId}

theorem vrb (M : Nm) (b : Bool) : VR M (.bool b) (.bool b) := by simp only [VR]
theorem vri (M : Nm) (k : IntKind) (n : Int) : VR M (.int k n) (.int k n) := by simp only [VR]

def strA (op : BinOp) (x y : List Nat) : Option AV :=
  match op with
  | .eql => some (.bool (lexEq x y))
  | .neq => some (.bool (!lexEq x y))
  | .lss => some (.bool (lexLt x y))
  | .leq => some (.bool (lexLt x y || lexEq x y))
  | .gtr => some (.bool (!(lexLt x y || lexEq x y)))
  | .add => bif Nat.ble (x.length + y.length) 4611686018427387904 then some (.str (x ++ y)) else none
  | _ => none
theorem strA_ok {op : BinOp} {a b : List Nat} {r : AV} (h : strA op a b = some r) (ho : o.op = .binOp op t x y u) (hx : VR M (.str a) (Sl.ev e x)) (hy : VR M (.str b) (Sl.ev e y)) :
    ∃ v, VR M r v ∧ ∀ w, (execOp (Sl.ev e) o).run P w = .ok (.value v) w := by
  simp only [VR] at hx hy
  obtain ⟨hx, hxa⟩ := hx
  obtain ⟨hy, hyb⟩ := hy
  have ha := blt256 hxa
  have hb := blt256 hyb
  have e1 : decide (strOf a = strOf b) = lexEq a b := by rw [lexEq_ok]; exact decide_eq_decide.2 (strOf_inj ha hb)
  have e2 : Op.bytesLess (strOf a).toList (strOf b).toList = lexLt a b := by rw [strOf_list, strOf_list, lexLt_ok ha hb]
  have e3 : ((strOf a).toList == (strOf b).toList) = lexEq a b := by rw [ba_lst, e1]
  unfold strA at h
  split at h
  · cases h; exact ⟨_, vrb M _, fun w => by rw [← e1]; exact r_seq ho hx hy⟩
  · cases h; exact ⟨_, vrb M _, fun w => by rw [← e1]; exact r_sne ho hx hy⟩
  · cases h; exact ⟨_, vrb M _, fun w => by rw [← e2]; exact r_slt ho hx hy⟩
  · cases h; exact ⟨_, vrb M _, fun w => by rw [← e2, ← e3]; exact r_sle ho hx hy⟩
  · cases h; exact ⟨_, vrb M _, fun w => by rw [← e2, ← e3]; exact r_sgt ho hx hy⟩
  · cases hc : Nat.ble (a.length + b.length) 4611686018427387904 with
    | false => rw [hc] at h; cases h
    | true =>
      rw [hc] at h; cases h
      have hle := Nat.le_of_ble_eq_true hc
      refine ⟨.string (strOf (a ++ b)), by simp only [VR, List.all_append, hxa, hyb]; exact ⟨trivial, rfl⟩, fun w => r_bin ho hx hy (by simp) (by simp) ?_⟩
      have hcat : strOf a ++ strOf b = strOf (a ++ b) := by
        apply ByteArray.ext
        simp [strOf]
      simp only [binOp, Op.stringOp, hcat]
      rw [if_neg (by rw [strOf_size, strOf_size]; simp [IntKind.max, IntKind.bits, IntKind.signed]; omega)]
      rfl
  · cases h

/-- nil or not: of two of which the second is nil -/
def nilQ (a b : AV) (d : TypeDesc) : Option Bool :=
  match a, b, d with
  | .ptr _ _, .nilp, .pointer _ => some false
  | .nilp, .nilp, .pointer _ => some true
  | .map _, .nilm, .map _ _ => some false
  | .nilm, .nilm, .map _ _ => some true
  | .slice _ _ _ _ _, .nils, .slice _ => some false
  | .nils, .nils, .slice _ => some true
  | .func _ _ _, .nilf, .func _ _ _ => some false
  | .nilf, .nilf, .func _ _ _ => some true
  | .bool a, .bool b, .bool => some (a == b)
  | _, _, _ => none
theorem in_nilf {ps rs : Array TypeId} {vr : Bool} {w : World} (ht : P.underlying t = some (.func ps rs vr)) (k : Nat) : (Op.equalIn (k + 1) t .nilFunc .nilFunc).run P w = .ok true w := by
  simp [Op.equalIn, underlying, ht, go_sem]
theorem nilQ_eq {a b : AV} {d : TypeDesc} {q : Bool} (h : nilQ a b d = some q) (ht : P.underlying t = some d) {va vb : Value} (ha : VR M a va) (hb : VR M b vb) :
    (va ≠ .nilIface ∨ vb ≠ .nilIface) ∧ (∀ c, va ≠ .agg c) ∧ (binOp .eql t va vb = (do pure (.bool (← Op.equal t va vb)))) ∧ (binOp .neq t va vb = (do pure (.bool (!(← Op.equal t va vb))))) ∧ ∀ w, (Op.equal t va vb).run P w = .ok q w := by
  unfold nilQ at h
  split at h <;> (try simp only [VR] at ha hb) <;> simp only [Option.some.injEq, reduceCtorEq] at h
  · obtain ⟨B, _, rfl⟩ := ha; subst hb; subst h; exact ⟨by simp, by simp, rfl, rfl, fun w => eq1 (fun n => in_ptr ht n)⟩
  · subst ha; subst hb; subst h; exact ⟨by simp, by simp, rfl, rfl, fun w => eq1 (fun n => in_ptr ht n)⟩
  · obtain ⟨B, _, rfl⟩ := ha; subst hb; subst h; exact ⟨by simp, by simp, rfl, rfl, fun w => eq1 (fun n => in_map ht n)⟩
  · subst ha; subst hb; subst h; exact ⟨by simp, by simp, rfl, rfl, fun w => eq1 (fun n => in_map ht n)⟩
  · obtain ⟨B, c', _, rfl, _⟩ := ha; subst hb; subst h; exact ⟨by simp, by simp, rfl, rfl, fun w => eq1 (fun n => in_slice ht n)⟩
  · subst ha; subst hb; subst h; exact ⟨by simp, by simp, rfl, rfl, fun w => eq1 (fun n => in_slice ht n)⟩
  · obtain ⟨vs, us, _, _, rfl⟩ := ha; subst hb; subst h; exact ⟨by simp, by simp, rfl, rfl, fun w => eq1 (fun n => in_fun ht n)⟩
  · subst ha; subst hb; subst h; exact ⟨by simp, by simp, rfl, rfl, fun w => eq1 (fun n => in_nilf ht n)⟩
  · subst ha; subst hb; subst h; exact ⟨by simp, by simp, rfl, rfl, fun w => eq1 (fun n => in_bool ht n)⟩

def binA (X : Tr TI) (op : BinOp) (t : TypeId) (a b : AV) : Option AV :=
  match a with
  | .int k m => match b with
    | .int k' n => match pureOf (binOp op t (.int k m) (.int k' n)) with
      | some v => absI v
      | none => none
    | _ => none
  | .str m => match b with
    | .str n => strA op m n
    | _ => none
  | a => match X.get t with
    | some ti => match nilQ a b ti.und with
      | some q => match op with
        | .eql => some (.bool q)
        | .neq => some (.bool (!q))
        | _ => none
      | none => none
    | none => none
theorem binA_nil (hX : Types P X) {op : BinOp} {a b : AV} {r : AV} (h : (match X.get t with
    | some ti => match nilQ a b ti.und with
      | some q => match op with
        | .eql => some (AV.bool q)
        | .neq => some (.bool (!q))
        | _ => none
      | none => none
    | none => none) = some r) (ho : o.op = .binOp op t x y u) (hx : VR M a (Sl.ev e x)) (hy : VR M b (Sl.ev e y)) :
    ∃ v, VR M r v ∧ ∀ w, (execOp (Sl.ev e) o).run P w = .ok (.value v) w := by
  split at h
  · rename_i ti hti
    split at h
    · rename_i q hq
      obtain ⟨h1, h2, h3, h4, h5⟩ := nilQ_eq hq (hX t ti hti).und hx hy
      split at h
      · cases h; exact ⟨_, vrb M _, fun w => r_eq ho rfl rfl h1 h2 h3 (h5 w)⟩
      · cases h; exact ⟨_, vrb M _, fun w => r_ne ho rfl rfl h1 h2 h4 (h5 w)⟩
      · cases h
    · cases h
  · cases h
theorem binA_ok (hX : Types P X) {op : BinOp} {a b : AV} {r : AV} (h : binA X op t a b = some r) (ho : o.op = .binOp op t x y u) (hx : VR M a (Sl.ev e x)) (hy : VR M b (Sl.ev e y)) :
    ∃ v, VR M r v ∧ ∀ w, (execOp (Sl.ev e) o).run P w = .ok (.value v) w := by
  unfold binA at h
  split at h
  · split at h
    · split at h
      · rename_i v hv
        simp only [VR] at hx hy
        exact ⟨v, absI_ok h M, fun w => r_bin ho hx hy (by simp) (by simp) (pureOf_ok hv P w)⟩
      · cases h
    · cases h
  · split at h
    · exact strA_ok h ho hx hy
    · cases h
  · exact binA_nil hX h ho hx hy

def optI (ae : List (Nat × AV)) (dflt : Nat) : Option Operand → Option Nat
  | none => some dflt
  | some q => match opnd ae q with
    | some (.int _ (.ofNat n)) => some n
    | _ => none
def OptV (e : Env) (d l : Nat) (q : Option Operand) : Prop := match q with | none => l = d | some q => ∃ k, Sl.ev e q = .int k (l : Int)
theorem optI_ok (he : EnvR M ae e) {d l : Nat} {q : Option Operand} (h : optI ae d q = some l) : OptV e d l q := by
  cases q with
  | none => simp only [optI, Option.some.injEq] at h; exact h.symm
  | some q =>
    simp only [optI] at h
    split at h
    · rename_i k n hq
      cases h
      have := opnd_ok he hq
      simp only [VR] at this
      exact ⟨_, this⟩
    · cases h

def takeL {α : Type} : Nat → List α → List α
  | 0, _ => []
  | n + 1, l => match l with
    | [] => []
    | a :: l => a :: takeL n l
theorem takeL_eq {α : Type} : ∀ (n : Nat) (l : List α), takeL n l = l.take n
  | 0, l => by simp [takeL]
  | n + 1, [] => by simp [takeL]
  | n + 1, a :: l => by simp [takeL, takeL_eq n l]

def capOk (c : Option Nat) (l n : Nat) : Bool := match c with | some k => !Nat.beq k l | none => Nat.blt l n
/-- what only reckons -/
def pureA (X : Tr TI) (ae : List (Nat × AV)) (op : Op) : Option AV :=
  match op with
  | .move x => opnd ae x
  | .assign x => opnd ae x
  | .pick c a b => match opnd ae c with
    | some (.bool q) => bif q then opnd ae a else opnd ae b
    | _ => none
  | .nilCheck x => match opnd ae x with
    | some (.ptr i o) => some (.ptr i o)
    | some (.func f a b) => some (.func f a b)
    | some (.map i) => some (.map i)
    | some .nilm => some .nilm
    | some (.yield i) => some (.yield i)
    | _ => none
  | .binOp op t x y _ => match opnd ae x with
    | some a => match opnd ae y with
      | some b => binA X op t a b
      | none => none
    | none => none
  | .unOp op _ x => match opnd ae x with
    | some (.bool b) => match op with
      | .not => some (.bool (!b))
      | _ => none
    | some (.int k n) => match pureOf (Op.unary op (.int k n)) with
      | some v => absI v
      | none => none
    | _ => none
  | .extract x i => match opnd ae x with
    | some (.tup l) => l[i]?
    | _ => none
  | .makeFunc (.func f) fs cs => match opnds ae fs.toList with
    | some a => match opnds ae cs.toList with
      | some b => some (.func f a b)
      | none => none
    | none => none
  | .convert s d x => match X.get s with
    | some si => match X.get d with
      | some di => match si.und, di.und, opnd ae x with
        | .int _k', .int k, some (.int _k'' n) => some (.int k (k.wrap n))
        | .string, .string, some (.str l) => some (.str l)
        | _, _, _ => none
      | none => none
    | none => none
  | .fieldAddr t x i => match opnd ae x with
    | some (.ptr p o) => match X.get t with
      | some ti => match ti.und with
        | .struct fs => match fs[i]? with
          | some f => match X.get f.type with
            | some fi => bif Nat.beq fi.size 0 then none else some (.ptr p (o + f.offset))
            | none => none
          | none => none
        | _ => none
      | none => none
    | _ => none
  | .field t x i => match opnd ae x with
    | some (.agg l) => match X.get t with
      | some ti => match ti.und with
        | .struct fs => match fs[i]? with
          | some f => match X.get f.type with
            | some fi => bif fi.agg then (bif Nat.ble (f.offset + fi.size) l.length then some (.agg ((l.drop f.offset).take fi.size)) else none) else l[f.offset]?
            | none => none
          | none => none
        | _ => none
      | none => none
    | _ => none
  | .indexAddr t x y => match opnd ae x with
    | some (.slice i o m n _c) => match opnd ae y with
      | some (.int _ (.ofNat j)) => bif Nat.blt j n then (match X.get t with
        | some ti => match ti.und with
          | .slice E => match X.get E with
            | some ei => bif Nat.beq ei.size m then some (.ptr i (o + j * m)) else none
            | none => none
          | _ => none
        | none => none) else none
      | _ => none
    | _ => none
  | .slice t x lo hi none => match opnd ae x with
    | some (.slice i o m n c) => match optI ae 0 lo with
      | some l => match optI ae n hi with
        | some h => match X.get t with
          | some ti => match ti.und with
            | .slice E => match X.get E with
              | some ei => bif Nat.beq ei.size m && Nat.ble l h && Nat.ble h n && capOk c l n then some (.slice i (o + l * m) m (h - l) (c.map (· - l))) else none
              | none => none
            | _ => none
          | none => none
        | none => none
      | none => none
    | some .nils => match optI ae 0 lo with
      | some 0 => match optI ae 0 hi with
        | some 0 => match X.get t with
          | some ti => match ti.und with
            | .slice E => match X.get E with
              | some _ => some .nils
              | none => none
            | _ => none
          | none => none
        | _ => none
      | _ => none
    | some (.str s) => match optI ae 0 lo with
      | some l => match optI ae s.length hi with
        | some h => match X.get t with
          | some ti => match ti.und with
            | .string => bif Nat.ble l h && Nat.ble h s.length then some (.str ((s.drop l).take (h - l))) else none
            | _ => none
          | none => none
        | none => none
      | none => none
    | _ => none
  | .index t x y => match opnd ae x with
    | some (.str s) => match opnd ae y with
      | some (.int _ (.ofNat j)) => match s[j]? with
        | some b => match X.get t with
          | some ti => match ti.und with
            | .string => some (.int .u8 (.ofNat b))
            | _ => none
          | none => none
        | none => none
      | _ => none
    | _ => none
  | .call ⟨.builtin .len, xs, ts⟩ => match xs.toList with
    | [x] => match opnd ae x with
      | some (.slice _ _ _ n _) => lenA X ts (.int .i64 (.ofNat n)) false
      | some .nils => lenA X ts (.int .i64 (.ofNat 0)) false
      | some (.str s) => lenA X ts (.int .i64 (.ofNat s.length)) true
      | _ => none
    | _ => none
  | .call ⟨.builtin .cap, xs, ts⟩ => match xs.toList with
    | [x] => match opnd ae x with
      | some (.slice _ _ _ _ (some c)) => lenA X ts (.int .i64 (.ofNat c)) false
      | some .nils => lenA X ts (.int .i64 (.ofNat 0)) false
      | _ => none
    | _ => none
  | _ => none
 where lenA (X : Tr TI) (ts : Array TypeId) (r : AV) (str : Bool) : Option AV :=
  match ts[0]? with
  | some t => match X.get t with
    | some ti => match ti.und with
      | .slice _ => bif str then none else some r
      | .string => bif str then some r else none
      | _ => none
    | none => none
  | none => none
end
end Go.Ev
/- General words for running code of which all is known: operations that only reckon, what they owe. No program. -/
namespace Go.Ev
open Go Go.Sl
section
variable {P : Program} {X : Tr TI} {M : Nm} {ae : List (Nat × AV)} {e : Env} {o : Oper} {x y : Operand} {t u : TypeId}

theorem VRs.drop : ∀ (k : Nat) {l : List AV} {vs : List Value}, VRs M l vs → VRs M (l.drop k) (vs.drop k)
  | 0, _, _, h => by simpa using h
  | k + 1, [], _, h => by simp only [VRs] at h; subst h; simp [VRs]
  | k + 1, a :: l, _, h => by
    simp only [VRs] at h
    obtain ⟨v, us, rfl, _, h3⟩ := h
    simpa using VRs.drop k h3
theorem VRs.take : ∀ (k : Nat) {l : List AV} {vs : List Value}, VRs M l vs → VRs M (l.take k) (vs.take k)
  | 0, _, _, h => by simp [VRs]
  | k + 1, [], _, h => by simp only [VRs] at h; subst h; simp [VRs]
  | k + 1, a :: l, _, h => by
    simp only [VRs] at h
    obtain ⟨v, us, rfl, h2, h3⟩ := h
    simpa using VRs.cons h2 (VRs.take k h3)

theorem r_fieldv {fs : Array Field} {f : Field} {i : Nat} {vs : List Value} {v : Value} {ag : Bool} {m : Nat} {w : World} (ho : o.op = .field t x i) (ht : P.underlying t = some (.struct fs)) (hf : fs[i]? = some f) (hx : Sl.ev e x = .agg vs.toArray)
    (ha : ∀ w, (isAgg f.type).run P w = .ok ag w) (hm : ∀ w, (sizeOf f.type).run P w = .ok m w) (hv : if ag then v = .agg ((vs.drop f.offset).take m).toArray else vs[f.offset]? = some v) :
    (execOp (Sl.ev e) o).run P w = .ok (.value v) w := by
  simp only [execOp, ho, hx, Instr.field, Sem.run_bind, run_underlying ht, Result.andThen, hf, asAgg, hpure, part, ha]
  cases ag with
  | true =>
    simp only [if_true] at hv
    subst hv
    simp only [if_true, Sem.run_bind, hm, Result.andThen, hpure]
    congr 4
    apply Array.ext'
    simp
  | false =>
    simp only [Bool.false_eq_true, if_false] at hv
    simp [hv]

theorem r_convs {s d : TypeId} {b : ByteArray} {w : World} (ho : o.op = .convert s d x) (hs : P.underlying s = some .string) (hd : P.underlying d = some .string) (hx : Sl.ev e x = .string b) :
    (execOp (Sl.ev e) o).run P w = .ok (.value (.string b)) w := by
  simp [execOp, ho, hx, convert, underlying, hs, hd, go_sem]
theorem r_un {op : UnOp} {a v : Value} {w w' : World} (ho : o.op = .unOp op t x) (hx : Sl.ev e x = a) (h : (Op.unary op a).run P w = .ok v w') : (execOp (Sl.ev e) o).run P w = .ok (.value v) w' := by
  simp only [execOp, ho, hx, Sem.run_bind, h, Result.andThen]; rfl
theorem r_slnil {E : TypeId} {m : Nat} {lo hi : Option Operand} {w : World} (ho : o.op = .slice t x lo hi none) (ht : P.underlying t = some (.slice E)) (hm : ∀ w, (sizeOf E).run P w = .ok m w) (hx : Sl.ev e x = .slice none 0 0)
    (hlo : OptV e 0 0 lo) (hhi : OptV e 0 0 hi) :
    (execOp (Sl.ev e) o).run P w = .ok (.value (.slice none 0 0)) w :=
  r_slice (l := 0) (h := 0) ho ht hm hx (by cases lo <;> exact hlo) (by cases hi <;> exact hhi) (Nat.le_refl _) (Nat.le_refl _) rfl

theorem lenA_ok (hX : Types P X) {ts : Array TypeId} {r a : AV} {s : Bool} (h : pureA.lenA X ts r s = some a) : a = r ∧ ∃ t, ts[0]? = some t ∧ (if s then P.underlying t = some .string else ∃ E, P.underlying t = some (.slice E)) := by
  unfold pureA.lenA at h
  split at h
  · rename_i t ht
    split at h
    · rename_i ti hti
      split at h
      · rename_i E hE
        cases s with
        | true => cases h
        | false => cases h; exact ⟨rfl, t, ht, by simpa using ⟨E, by rw [← hE]; exact (hX t ti hti).und⟩⟩
      · rename_i hE
        cases s with
        | true => cases h; exact ⟨rfl, t, ht, by rw [if_pos rfl, ← hE]; exact (hX t ti hti).und⟩
        | false => cases h
      · cases h
    · cases h
  · cases h

theorem pureA_ok (hX : Types P X) (he : EnvR M ae e) {a : AV} (h : pureA X ae o.op = some a) : ∃ v, VR M a v ∧ ∀ w, (execOp (Sl.ev e) o).run P w = .ok (.value v) w := by
  unfold pureA at h
  split at h
  · rename_i x ho; exact ⟨_, opnd_ok he h, fun w => r_move ho rfl⟩
  · rename_i x ho; exact ⟨_, opnd_ok he h, fun w => r_assign ho rfl⟩
  · rename_i c a b ho
    split at h
    · rename_i q hq
      have hq' := opnd_ok he hq
      simp only [VR] at hq'
      cases q with
      | true => exact ⟨_, opnd_ok he h, fun w => r_pickt ho hq' rfl rfl⟩
      | false => exact ⟨_, opnd_ok he h, fun w => r_pickf ho hq' rfl rfl⟩
    · cases h
  · rename_i x ho
    split at h
    · rename_i i f hx
      have hx' := opnd_ok he hx
      cases h
      refine ⟨_, hx', fun w => ?_⟩
      simp only [VR] at hx'
      obtain ⟨B, _, hv⟩ := hx'
      rw [hv]; exact r_nilp ho hv
    · rename_i f a b hx
      have hx' := opnd_ok he hx
      cases h
      refine ⟨_, hx', fun w => ?_⟩
      simp only [VR] at hx'
      obtain ⟨vs, us, _, _, hv⟩ := hx'
      rw [hv]; exact r_nilf ho hv
    · rename_i i hx
      have hx' := opnd_ok he hx
      cases h
      refine ⟨_, hx', fun w => ?_⟩
      simp only [VR] at hx'
      obtain ⟨B, _, hv⟩ := hx'
      rw [hv]; exact r_nilm ho hv
    · rename_i hx
      have hx' := opnd_ok he hx
      cases h
      refine ⟨_, hx', fun w => ?_⟩
      simp only [VR] at hx'
      rw [hx']; exact r_nilm ho hx'
    · rename_i i hx
      have hx' := opnd_ok he hx
      cases h
      refine ⟨_, hx', fun w => ?_⟩
      simp only [VR] at hx'
      obtain ⟨B, _, hv⟩ := hx'
      rw [hv]; simp [execOp, ho, hv]
    · cases h
  · rename_i op t x y u ho
    split at h
    · rename_i a ha
      split at h
      · rename_i b hb
        exact binA_ok hX h ho (opnd_ok he ha) (opnd_ok he hb)
      · cases h
    · cases h
  · rename_i op t x ho
    split at h
    · rename_i b hb
      have hb' := opnd_ok he hb
      simp only [VR] at hb'
      split at h
      · cases h; exact ⟨_, vrb M _, fun w => r_not ho hb'⟩
      · cases h
    · rename_i k n hb
      have hb' := opnd_ok he hb
      simp only [VR] at hb'
      split at h
      · rename_i v hv
        exact ⟨v, absI_ok h M, fun w => r_un ho hb' (pureOf_ok hv P w)⟩
      · cases h
    · cases h
  · rename_i x i ho
    split at h
    · rename_i l hl
      have hl' := opnd_ok he hl
      simp only [VR] at hl'
      obtain ⟨vs, h1, h2⟩ := hl'
      obtain ⟨v, h3, h4⟩ := h1.get h
      exact ⟨v, h4, fun w => r_tuple ho h2 (by simpa using h3)⟩
    · cases h
  · rename_i f fs cs ho
    split at h
    · rename_i a ha
      split at h
      · rename_i b hb
        cases h
        refine ⟨.func (.func f) (fs.toList.map (Sl.ev e)).toArray (cs.toList.map (Sl.ev e)).toArray, ?_, fun w => r_func ho rfl rfl⟩
        simp only [VR]
        exact ⟨_, _, opnds_ok he ha, opnds_ok he hb, rfl⟩
      · cases h
    · cases h
  · rename_i s d x ho
    split at h
    · rename_i si hsi
      split at h
      · rename_i di hdi
        have h1 := (hX _ _ hsi).und
        have h2 := (hX _ _ hdi).und
        split at h
        · rename_i k' k k'' n e1 e2 e3
          have h3 := opnd_ok he e3
          simp only [VR] at h3
          cases h
          refine ⟨_, vri M _ _, fun w => ?_⟩
          rw [e1] at h1; rw [e2] at h2
          subst_vars
          simp [execOp, ho, h3, convert, underlying, h1, h2, Conv.intToInt, go_sem]
        · rename_i l e1 e2 e3
          have h3 := opnd_ok he e3
          cases h
          refine ⟨_, h3, fun w => ?_⟩
          simp only [VR] at h3
          rw [h3.1]
          exact r_convs ho (by rw [← e1]; exact h1) (by rw [← e2]; exact h2) h3.1
        · cases h
      · cases h
    · cases h
  · rename_i t x i ho
    split at h
    · rename_i p ofs hx
      have hx' := opnd_ok he hx
      simp only [VR] at hx'
      obtain ⟨B, hB, hv⟩ := hx'
      split at h
      · rename_i ti hti
        split at h
        · rename_i fs hfs
          split at h
          · rename_i f hf
            split at h
            · rename_i fi hfi
              cases hz : Nat.beq fi.size 0 with
              | true => rw [hz] at h; cases h
              | false =>
                rw [hz] at h; cases h
                have hpos : fi.size ≠ 0 := by intro h0; rw [h0] at hz; cases hz
                refine ⟨.pointer (some ⟨B.b, B.base + (ofs + f.offset), none⟩), by simp only [VR]; exact ⟨B, hB, rfl⟩, fun w => ?_⟩
                refine r_field (m := fi.size - 1) ho (by rw [← hfs]; exact (hX _ _ hti).und) hf (fun w => ?_) hv (by omega)
                rw [(hX _ _ hfi).size]; congr 1; omega
            · cases h
          · cases h
        · cases h
      · cases h
    · cases h
  · rename_i t x i ho
    split at h
    · rename_i l hl
      have hl' := opnd_ok he hl
      simp only [VR] at hl'
      obtain ⟨vs, h1, h2⟩ := hl'
      split at h
      · rename_i ti hti
        split at h
        · rename_i fs hfs
          split at h
          · rename_i f hf
            split at h
            · rename_i fi hfi
              have hag := (hX _ _ hfi).agg
              cases hz : fi.agg with
              | true =>
                rw [hz] at h hag
                cases hb : Nat.ble (f.offset + fi.size) l.length with
                | false => rw [hb] at h; cases h
                | true =>
                  rw [hb] at h; cases h
                  refine ⟨.agg ((vs.drop f.offset).take fi.size).toArray, ?_, fun w => r_fieldv ho (by rw [← hfs]; exact (hX _ _ hti).und) hf h2 hag (hX _ _ hfi).size rfl⟩
                  simp only [VR]
                  exact ⟨_, VRs.take _ (VRs.drop _ h1), rfl⟩
              | false =>
                rw [hz] at h hag
                obtain ⟨v, h3, h4⟩ := h1.get h
                exact ⟨v, h4, fun w => r_fieldv ho (by rw [← hfs]; exact (hX _ _ hti).und) hf h2 hag (hX _ _ hfi).size (by simpa using h3)⟩
            · cases h
          · cases h
        · cases h
      · cases h
    · cases h
  · rename_i t x y ho
    split at h
    · rename_i i ofs m n c hx
      have hx' := opnd_ok he hx
      simp only [VR] at hx'
      obtain ⟨B, c', hB, hv, hnc, hsz, hc⟩ := hx'
      split at h
      · rename_i k j hy
        have hy' := opnd_ok he hy
        simp only [VR] at hy'
        cases hb : Nat.blt j n with
        | false => rw [hb] at h; cases h
        | true =>
          rw [hb] at h
          have hjn : j < n := Nat.le_of_ble_eq_true hb
          simp only [cond_true] at h
          split at h
          · rename_i ti hti
            split at h
            · rename_i E hE
              split at h
              · rename_i ei hei
                cases hm : Nat.beq ei.size m with
                | false => rw [hm] at h; cases h
                | true =>
                  rw [hm] at h; cases h
                  have hm' := Nat.eq_of_beq_eq_true hm
                  refine ⟨.pointer (some ⟨B.b, B.base + (ofs + j * m), none⟩), by simp only [VR]; exact ⟨B, hB, rfl⟩, fun w => ?_⟩
                  have hsz := (hX _ _ hei).size
                  rw [hm'] at hsz
                  exact r_idx ho (by rw [← hE]; exact (hX _ _ hti).und) hsz hv hy' (Int.natCast_nonneg j) (by exact Int.ofNat_lt.2 hjn) (by simp; omega)
              · cases h
            · cases h
          · cases h
      · cases h
    · cases h
  · rename_i t x lo hi ho
    split at h
    · rename_i i ofs m n c hx
      have hx' := opnd_ok he hx
      simp only [VR] at hx'
      obtain ⟨B, c', hB, hv, hnc, hsz, hc⟩ := hx'
      split at h
      · rename_i l hl
        split at h
        · rename_i hh hhh
          split at h
          · rename_i ti hti
            split at h
            · rename_i E hE
              split at h
              · rename_i ei hei
                generalize hcnd : (Nat.beq ei.size m && Nat.ble l hh && Nat.ble hh n && capOk c l n) = cnd at h
                cases cnd with
                | false => cases h
                | true =>
                  cases h
                  simp only [Bool.and_eq_true] at hcnd
                  obtain ⟨⟨⟨q1, q2⟩, q3⟩, q4⟩ := hcnd
                  have q1 := Nat.eq_of_beq_eq_true q1
                  have q2 := Nat.le_of_ble_eq_true q2
                  have q3 := Nat.le_of_ble_eq_true q3
                  have hcl : c' ≠ l := by
                    cases c with
                    | some k =>
                      have q4 : (!Nat.beq k l) = true := q4
                      simp only [Bool.not_eq_true'] at q4
                      have := hc k rfl
                      rintro rfl
                      subst this
                      simp at q4
                    | none =>
                      have q4 : Nat.blt l n = true := q4
                      have : l < n := Nat.le_of_ble_eq_true q4
                      omega
                  refine ⟨.slice (some ⟨B.b, B.base + (ofs + l * m), none⟩) (hh - l) (c' - l), ?_, fun w => ?_⟩
                  · simp only [VR]
                    refine ⟨B, c' - l, hB, rfl, by omega, ?_, ?_⟩
                    · rw [Nat.sub_mul]
                      have : l * m ≤ c' * m := Nat.mul_le_mul_right _ (by omega)
                      omega
                    · intro k hk
                      cases c with
                      | none => cases hk
                      | some k' => simp only [Option.map_some, Option.some.injEq] at hk; rw [hc k' rfl, hk]
                  · have hsz := (hX _ _ hei).size
                    rw [q1] at hsz
                    refine r_slice ho (by rw [← hE]; exact (hX _ _ hti).und) hsz hv (by have := optI_ok he hl; cases lo <;> exact this) (by have := optI_ok he hhh; cases hi <;> exact this) q2 (by omega) ?_
                    rw [if_neg hcl]
                    simp only [Option.map_some, add_at, Option.some.injEq, Addr.mk.injEq, and_true, true_and]
                    omega
              · cases h
            · cases h
          · cases h
        · cases h
      · cases h
    · rename_i hx
      have hx' := opnd_ok he hx
      simp only [VR] at hx'
      split at h
      · rename_i hl
        split at h
        · rename_i hhh
          split at h
          · rename_i ti hti
            split at h
            · rename_i E hE
              split at h
              · rename_i ei hei
                cases h
                exact ⟨.slice none 0 0, by simp only [VR], fun w => r_slnil ho (by rw [← hE]; exact (hX _ _ hti).und) (hX _ _ hei).size hx' (optI_ok he hl) (optI_ok he hhh)⟩
              · cases h
            · cases h
          · cases h
        · cases h
      · cases h
    · rename_i s hx
      have hx' := opnd_ok he hx
      simp only [VR] at hx'
      obtain ⟨hv, hs⟩ := hx'
      split at h
      · rename_i l hl
        split at h
        · rename_i hh hhh
          split at h
          · rename_i ti hti
            split at h
            · rename_i hE
              generalize hcnd : (Nat.ble l hh && Nat.ble hh s.length) = cnd at h
              cases cnd with
              | false => cases h
              | true =>
                cases h
                simp only [Bool.and_eq_true] at hcnd
                have q2 := Nat.le_of_ble_eq_true hcnd.1
                have q3 := Nat.le_of_ble_eq_true hcnd.2
                have hhi : OptV e (strOf s).size hh hi := by rw [strOf_size]; exact optI_ok he hhh
                refine ⟨_, ?_, fun w => r_sls ho (by rw [← hE]; exact (hX _ _ hti).und) hv (by have := optI_ok he hl; cases lo <;> exact this) (by cases hi <;> exact hhi) q2 (by rw [strOf_size]; exact q3)⟩
                simp only [VR]
                refine ⟨?_, ?_⟩
                · congr 1
                  apply ByteArray.ext
                  apply Array.ext'
                  simp [strOf, List.map_take, List.map_drop]
                · simp only [List.all_eq_true] at hs ⊢
                  exact fun x hx => hs x (List.mem_of_mem_drop (List.mem_of_mem_take hx))
            · cases h
          · cases h
        · cases h
      · cases h
    · cases h
  · rename_i t x y ho
    split at h
    · rename_i s hx
      have hx' := opnd_ok he hx
      simp only [VR] at hx'
      split at h
      · rename_i k j hy
        have hy' := opnd_ok he hy
        simp only [VR] at hy'
        split at h
        · rename_i b hb
          split at h
          · rename_i ti hti
            split at h
            · rename_i hE
              cases h
              have hlt := blt256 hx'.2 b (List.mem_of_getElem? hb)
              refine ⟨.int .u8 (.ofNat b), vri M _ _, fun w => ?_⟩
              have := r_ixs (P := P) (w := w) (b := UInt8.ofNat b) ho (by rw [← hE]; exact (hX _ _ hti).und) hx'.1 hy' (by simp [strOf, hb])
              rw [this]
              simp [Nat.mod_eq_of_lt hlt]
            · cases h
          · cases h
        · cases h
      · cases h
    · cases h
  · rename_i xs ts ho
    split at h
    · rename_i x hxs
      have ho' : o.op = .call ⟨.builtin .len, #[x], ts⟩ := by rw [ho]; congr 2; exact Array.ext' hxs
      split at h
      · rename_i hx
        have hx' := opnd_ok he hx
        simp only [VR] at hx'
        obtain ⟨B, c', hB, hv, _⟩ := hx'
        obtain ⟨rfl, t, h0, hu⟩ := lenA_ok hX h
        simp only [Bool.false_eq_true, if_false] at hu
        obtain ⟨E, hu⟩ := hu
        exact ⟨_, vri M _ _, fun w => r_lens ho' h0 hu hv⟩
      · rename_i hx
        have hx' := opnd_ok he hx
        simp only [VR] at hx'
        obtain ⟨rfl, t, h0, hu⟩ := lenA_ok hX h
        simp only [Bool.false_eq_true, if_false] at hu
        obtain ⟨E, hu⟩ := hu
        exact ⟨_, vri M _ _, fun w => r_lens ho' h0 hu hx'⟩
      · rename_i s hx
        have hx' := opnd_ok he hx
        simp only [VR] at hx'
        obtain ⟨rfl, t, h0, hu⟩ := lenA_ok hX h
        simp only [if_true] at hu
        exact ⟨_, vri M _ _, fun w => by have := r_lent (P := P) (w := w) ho' h0 hu hx'.1; rw [strOf_size] at this; exact this⟩
      · cases h
    · cases h
  · rename_i xs ts ho
    split at h
    · rename_i x hxs
      have ho' : o.op = .call ⟨.builtin .cap, #[x], ts⟩ := by rw [ho]; congr 2; exact Array.ext' hxs
      split at h
      · rename_i c hx
        have hx' := opnd_ok he hx
        simp only [VR] at hx'
        obtain ⟨B, c', hB, hv, _, _, hc⟩ := hx'
        obtain rfl := hc _ rfl
        obtain ⟨rfl, t, h0, hu⟩ := lenA_ok hX h
        simp only [Bool.false_eq_true, if_false] at hu
        obtain ⟨E, hu⟩ := hu
        exact ⟨_, vri M _ _, fun w => r_cap ho' h0 hu hv⟩
      · rename_i hx
        have hx' := opnd_ok he hx
        simp only [VR] at hx'
        obtain ⟨rfl, t, h0, hu⟩ := lenA_ok hX h
        simp only [Bool.false_eq_true, if_false] at hu
        obtain ⟨E, hu⟩ := hu
        exact ⟨_, vri M _ _, fun w => r_cap ho' h0 hu hx'⟩
      · cases h
    · cases h
  · cases h
end
end Go.Ev
