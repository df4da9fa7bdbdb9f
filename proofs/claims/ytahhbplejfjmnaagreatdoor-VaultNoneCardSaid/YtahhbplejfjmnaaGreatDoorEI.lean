/- General words for running code of which all is known: search trees all of whose entries are so. No program. -/
import Derived.Test.YtahhbplejfjmnaaGreatDoorEE
import Derived.Test.YtahhbplejfjmnaaGreatDoorSB
import Derived.Test.YtahhbplejfjmnaaGreatDoorEH
import Derived.ProofKit
import Derived.OpenShut
import Derived.Lib.SmallJoins
import Derived.Deep.Slices
import Derived.FnData
import Derived.Lib.LaidTab
namespace Go.Ev
open Go Go.Sl
/-- each entry is so; an entry's number is al * i + be -/
def TrAll {α : Type} (Q : Nat → α → Prop) : Nat → Nat → Tr α → Prop
  | _, _, .leaf => True
  | al, be, .node o l r => (∀ v, o = some v → Q be v) ∧ TrAll Q (2 * al) (al + be) l ∧ TrAll Q (2 * al) (2 * al + be) r
theorem TrAll.get {α : Type} {Q : Nat → α → Prop} : ∀ {t : Tr α} {al be i : Nat} {v : α}, TrAll Q al be t → t.get i = some v → Q (al * i + be) v
  | .leaf, _, _, _, _, _, h => by simp only [Tr.get_leaf] at h; cases h
  | .node o l r, al, be, i, v, h, hg => by
    obtain ⟨h1, h2, h3⟩ := h
    rw [Tr.get_node] at hg
    by_cases h0 : i = 0
    · subst h0
      simp only [Nat.beq_refl, cond_true] at hg
      simpa using h1 v hg
    · rw [beq_ne h0, cond_false] at hg
      by_cases hodd : i % 2 = 1
      · rw [hodd, Nat.beq_refl, cond_true] at hg
        have := h2.get hg
        have e : 2 * al * (i / 2) + (al + be) = al * i + be := by
          obtain ⟨m, rfl⟩ : ∃ m, i = 2 * m + 1 := ⟨i / 2, by omega⟩
          have : (2 * m + 1) / 2 = m := by omega
          rw [this, Nat.mul_add, Nat.mul_one, ← Nat.mul_assoc, Nat.mul_comm al 2]; omega
        rw [e] at this; exact this
      · rw [beq_ne hodd, cond_false] at hg
        have := h3.get hg
        have e : 2 * al * (i / 2 - 1) + (2 * al + be) = al * i + be := by
          obtain ⟨m, rfl⟩ : ∃ m, i = 2 * m + 2 := ⟨i / 2 - 1, by omega⟩
          have : (2 * m + 2) / 2 - 1 = m := by omega
          rw [this, Nat.mul_add, ← Nat.mul_assoc, Nat.mul_comm al 2]; omega
        rw [e] at this; exact this
end Go.Ev
/- General words for running code of which all is known: what an argument's cells hold, handed to a contract. No program. -/
namespace Go.Ev
open Go Go.Sl
noncomputable section

theorem Sat.held {w W : World} {L : List HP} (h : Sat w (old W :: L)) {m : Nat} {v : Value} (hs : ShpOk W (.rows m) v) :
    ∃ a n c xs, v = .slice a n c ∧ xs.length = n * m ∧ (∀ x ∈ xs, ∃ i, x = .int .i64 i) ∧ Sat w (Sl.rs m a n c xs :: old W :: L) := by
  obtain ⟨a, n, c, xs, h1, h2, h3, h4⟩ := hs
  refine ⟨a, n, c, xs, h1, h2, h3, ?_⟩
  obtain ⟨R, F, g1, g2, F1, F2, f1, f2, ⟨o1, o2, o3, o4⟩, f3⟩ := h
  refine ⟨R, F, g1, g2, fun _ => False, F, fun b => by simp, fun b hb => hb.elim, ?_, F1, F2, f1, f2, ⟨o1, o2, o3, o4⟩, f3⟩
  rcases h4 with ⟨rfl, rfl, rfl, rfl⟩ | ⟨r, ofs, arr, E, fz, rfl, hb, hn, hc, hr⟩
  · exact ⟨fun b hb => hb, rfl, rfl, rfl⟩
  · have hlt : r < W.heap.size := (Array.getElem?_eq_some_iff.1 hb).1
    exact ⟨(arr, E, fz), fun _ => False, fun _ => False, fun b => by simp, fun b hb => hb.elim, ⟨fun b hb => hb, rfl, h2, hn, hc, hr⟩, fun b hb => hb, (o2 r hlt).1, by rw [(o2 r hlt).2]; exact hb⟩

def shpOf : List (Nat × Shp) → Nat → Option Shp
  | [], _ => none
  | p :: l, i => bif Nat.beq p.1 i then some p.2 else shpOf l i
theorem shpOf_mem : ∀ {l : List (Nat × Shp)} {i : Nat} {s : Shp}, shpOf l i = some s → (i, s) ∈ l
  | [], _, _, h => by cases h
  | p :: l, i, s, h => by
    unfold shpOf at h
    cases hb : Nat.beq p.1 i with
    | true => rw [hb] at h; simp only [cond_true, Option.some.injEq] at h; subst h; rw [← Nat.eq_of_beq_eq_true hb]; exact List.mem_cons_self ..
    | false => rw [hb] at h; exact List.mem_cons_of_mem _ (shpOf_mem h)

/-- a number, known or not -/
def isI (s : St) (a : AV) : Bool :=
  match a with
  | .int .i64 _ => true
  | .sym i => match shpOf s.k.sl i with
    | some .int => true
    | _ => false
  | _ => false
/-- an argument's slice of rows of m numbers -/
def isRows (s : St) (m : Nat) (a : AV) : Bool :=
  match a with
  | .sym i => match shpOf s.k.sl i with
    | some (.rows m') => Nat.beq m' m
    | _ => false
  | _ => false
section
variable {P : Program} {M : Nm} {w : World} {L : List HP} {s : St}
theorem isI_ok (hI : Inv M s w L) {a : AV} {v : Value} (hv : VR M a v) (h : isI s a = true) : ∃ n, v = .int .i64 n := by
  unfold isI at h
  split at h
  · simp only [VR] at hv; exact ⟨_, hv⟩
  · rename_i i
    split at h
    · rename_i hp
      simp only [VR] at hv
      obtain ⟨rfl, _⟩ := hv
      rw [hI.k.sg]
      exact s.k.hold _ (shpOf_mem hp)
    · cases h
  · cases h
theorem isRows_ok (hI : Inv M s w L) {m : Nat} {a : AV} {v : Value} (hv : VR M a v) (h : isRows s m a = true) : ShpOk s.k.W (.rows m) v := by
  unfold isRows at h
  split at h
  · rename_i i
    split at h
    · rename_i m' hp
      simp only [VR] at hv
      obtain ⟨rfl, _⟩ := hv
      rw [hI.k.sg]
      have := s.k.hold _ (shpOf_mem hp)
      rwa [Nat.eq_of_beq_eq_true h] at this
    · cases h
  · cases h
end
end
end Go.Ev
/- General words for the rows of statements: what an argument is made of, cell by cell; the listed variables. No program. -/
namespace Go.Ev
open Go Go.Sl Go.ChangeShapes Go.WideShapes Go.ChangeAt Go.RowKit Go.Joins Go.Deep
section
variable {P : Program} {w : World} {r : Reach} {base : Nat} {t : TypeId} {v : Value}

theorem okWide_one (h : Cell.okWide P w r base t v) : one v = true := by
  cases v <;> first | rfl | (exfalso; revert h; simp only [Cell.okWide]; split <;> rename_i a b <;> first | (cases b; done) | (simp only [Cell.ok]; split <;> rename_i c d <;> first | (cases d; done) | exact id))

theorem row_ones {cs : Array Value} (h : Row.okWide P w r base t cs) {i : Nat} {v : Value} (hi : cs[i]? = some v) : one v = true := by
  obtain ⟨ts, _, _, h3⟩ := h
  obtain ⟨u, _, hu⟩ := h3 i v hi
  exact okWide_one hu

/-- a struct's cells, as one names them -/
theorem agg_syms {M : Nm} : ∀ (cs : List Value) (k : Nat), (∀ i v, cs[i]? = some v → one v = true ∧ M.σ (k + i) = v) → VRs M ((List.range' k cs.length).map AV.sym) cs
  | [], _, _ => by simp [VRs]
  | c :: cs, k, h => by
    have h0 := h 0 c rfl
    simp only [List.length_cons, List.range'_succ, List.map_cons, VRs]
    refine ⟨c, cs, rfl, ?_, agg_syms cs (k + 1) (fun i v hi => ?_)⟩
    · simp only [VR]; exact ⟨h0.2.symm, h0.1⟩
    · have := h (i + 1) v (by simpa using hi)
      rwa [show k + (i + 1) = k + 1 + i by omega] at this

/-- a slice of rows of two numbers reads as such -/
theorem shp_rows2 {e i : TypeId} {f0 f1 : Field} (hT : P.underlying t = some (.slice e)) (hE : P.underlying e = some (.struct #[f0, f1])) (hc : P.cellsOf e = 2) (hi : P.underlying i = some (.int .i64)) (hf0 : f0.type = i) (hf1 : f1.type = i) (o0 : f0.offset = 0) (o1 : f1.offset = 1) (hci : P.cellsOf i = 1)
    {H : Type} {enc : TypeId × Value → H} {n : Nat} {y : DataW H × List MemPlace} (hv : Cell.okWide P w r base t v) (h : DataW.trod enc P w 0 (fun _ => true) true n t [v] = some y) : ShpOk w (.rows 2) v := by
  rcases open_slice hT h with ⟨h0, _⟩ | ⟨a, len, cap, m, n, D, Pl, h1, _, hl, _, hm, _, hel⟩
  · cases h0
    exact ⟨none, 0, 0, [], rfl, rfl, by simp, .inl ⟨rfl, rfl, rfl, rfl⟩⟩
  · cases h1
    have hm : m = cap := by simpa using hm
    subst hm
    simp only [Cell.okWide, hT, Cell.ok, World.has] at hv
    obtain ⟨_, _, _, hsp, row, cells, hsh, _⟩ := hv
    obtain ⟨b, ofs, sp⟩ := a
    simp only at hsp hsh
    subst hsp
    unfold World.shape? at hsh
    split at hsh
    rotate_left
    · cases hsh
    rename_i arr E fz hb
    have key : ∀ j, j < m * 2 → ∃ q, arr[ofs + j]? = some (.int .i64 q) := by
      intro j hj
      obtain ⟨cs', hcs, htr⟩ := hel (j / 2) (by omega)
      rw [hc] at hcs
      obtain ⟨_, hlen, hcell⟩ := World.cells?_some hcs
      obtain ⟨y0, y1, n', _, _, g0, g1⟩ := trod_struct2 hE htr
      rw [hf0, o0, hci] at g0
      rw [hf1, o1, hci] at g1
      match cs', hlen, g0, g1, hcell with
      | [c0, c1], _, g0, g1, hcell =>
        simp at g0 g1
        obtain ⟨q0, e0, _⟩ := DataW.trod_int hi g0
        obtain ⟨q1, e1, _⟩ := DataW.trod_int hi g1
        cases e0; cases e1
        have hj2 : j % 2 = 0 ∨ j % 2 = 1 := by omega
        have hc' := hcell (j % 2) (by omega)
        have ea : ((⟨b, ofs, none⟩ : Addr).add (j / 2 * 2)).add (j % 2) = ⟨b, ofs + j, none⟩ := by
          rw [add_at, add_at, show ofs + j / 2 * 2 + j % 2 = ofs + j by omega]
        rw [ea] at hc'
        simp only [World.cell?, hb] at hc'
        rcases hj2 with h' | h' <;> rw [h'] at hc' <;> simp at hc' <;> exact ⟨_, hc'⟩
    have hsz : m = 0 ∨ ofs + m * 2 ≤ arr.size := by
      rcases Nat.eq_zero_or_pos m with h' | h'
      · exact .inl h'
      · obtain ⟨q, hq⟩ := key (m * 2 - 1) (by omega)
        have := (Array.getElem?_eq_some_iff.1 hq).1
        right; omega
    have hlen : ((arr.toList.drop ofs).take (len * 2)).length = len * 2 := by
      rw [List.length_take, List.length_drop, Array.length_toList]
      rcases hsz with h' | h' <;> omega
    have hget : ∀ j x, ((arr.toList.drop ofs).take (len * 2))[j]? = some x → j < len * 2 ∧ arr[ofs + j]? = some x := by
      intro j x hj
      have hlt : j < len * 2 := by
        have := (List.getElem?_eq_some_iff.1 hj).1
        omega
      rw [List.getElem?_take, if_pos hlt, List.getElem?_drop, Array.getElem?_toList] at hj
      exact ⟨hlt, hj⟩
    refine ⟨some ⟨b, ofs, none⟩, len, m, _, rfl, hlen, ?_, .inr ⟨b, ofs, arr, E, fz, rfl, hb, hl, hsz, fun j x hj => (hget j x hj).2⟩⟩
    intro x hx
    obtain ⟨j, hj⟩ := List.getElem?_of_mem hx
    obtain ⟨h1, h2⟩ := hget j x hj
    obtain ⟨q, hq⟩ := key j (by omega)
    rw [hq] at h2
    cases h2
    exact ⟨q, rfl⟩

/-! the listed variables -/
/-- a datum that is a literal, as one names it -/
def litOf : DataW Unit → Option AV
  | .lit (.int k n) => some (.int k n)
  | .lit (.string s) => some (.str (s.map UInt8.toNat))
  | _ => none
theorem laid_tab {laid : List (String × DataW Unit)} {W : World} {ps : List MemPlace} (h : DataW.LaidVars P W laid ps) {name : String} {d : DataW Unit} {ds : List (DataW Unit)} (hm : (name, d) ∈ laid) (hd0 : d = .agg ds) {g : Nat} (hg : P.globalNamed name = some g) {t e : TypeId} {n : Nat}
    (ht : (P.globals[g]?).map (·.type) = some t) (hu : P.underlying t = some (.array n e)) (hc : P.cellsOf e = 1) (hct : P.cellsOf t = n) {c : List AV} (hl : ds.mapM litOf = some c) (hz : P.underlying e = some .string ∨ ∃ k, P.underlying e = some (.int k)) (M : Nm) :
    ∃ arr T fz, W.heap[g]? = some (.cells arr T fz) ∧ cellsR M c 0 arr := by
  subst hd0
  induction laid generalizing ps with
  | nil => cases hm
  | cons x laid ih =>
    obtain ⟨nm, d⟩ := x
    obtain ⟨g', t', cs, fuel, p, q, hg', ht', hv, hd, hr, _⟩ := h
    rcases List.mem_cons.1 hm with hx | hx
    · cases hx
      obtain rfl := Option.some.inj (hg.symm.trans hg')
      obtain rfl := Option.some.inj (ht.symm.trans ht')
      obtain ⟨xs, m, _, hx, hlen, hxs, hel⟩ := DataW.trod_array hu hd
      simp only [Prod.mk.injEq, DataW.agg.injEq] at hx
      have hcell : ∃ T fz, W.heap[g]? = some (.cells cs T fz) := by
        simp only [World.var?, hg, Option.bind_some] at hv
        split at hv
        · rename_i hb; cases hv; exact ⟨_, _, hb⟩
        · cases hv
      obtain ⟨T, fz, hb⟩ := hcell
      refine ⟨cs, T, fz, hb, ?_⟩
      intro j a hj
      have hjl : j < n := by
        have h1 := (List.getElem?_eq_some_iff.1 hj).1
        have h2 : c.length = ds.length := Go.Lib.mapM_length hl
        rw [hx.1, List.length_map, hxs] at h2
        omega
      have hel' := hel j hjl
      rw [hc, Nat.mul_one] at hel'
      have hcl : cs.toList.length = n := by rw [hlen, hct]
      have hjc : j < cs.size := by simpa using (hcl ▸ hjl : j < cs.toList.length)
      have e1 : (cs.toList.drop j).take 1 = [cs[j]] := by
        rw [List.drop_eq_getElem_cons (by simpa using hjc)]; simp
      rw [e1] at hel'
      obtain ⟨z, hz1⟩ : ∃ z, xs[j]? = some z := ⟨_, List.getElem?_eq_getElem (by omega)⟩
      rw [hz1] at hel'
      obtain ⟨b, hb1, hb2⟩ := Go.Lib.mapM_at hl j z.1 (by rw [hx.1, List.getElem?_map, hz1]; rfl)
      rw [hj] at hb1
      cases hb1
      refine ⟨cs[j], by rw [Nat.zero_add]; exact Array.getElem?_eq_getElem hjc, ?_⟩
      rcases hz with hz | ⟨k, hz⟩
      · obtain ⟨s, es, ez, _⟩ := DataW.trod_string hz hel'
        rw [ez] at hb2
        simp only [litOf, Option.some.injEq] at hb2
        subst hb2
        simp only [VR]
        have es' : cs[j] = .string s := (List.cons.inj es).1
        refine ⟨by rw [es']; show _ = Value.string (strOf (bytesOf s)); rw [strOf_bytes], ?_⟩
        simp only [List.all_eq_true, List.mem_map]
        rintro x ⟨u, _, rfl⟩
        rw [Nat.blt_eq]; exact u.toNat_lt
      · obtain ⟨q', es, ez, _⟩ := DataW.trod_int hz hel'
        rw [ez] at hb2
        simp only [litOf, Option.some.injEq] at hb2
        subst hb2
        have es' : cs[j] = .int k q' := (List.cons.inj es).1
        simp only [VR]
        exact es'
    · exact ih hr hx
end
end Go.Ev
