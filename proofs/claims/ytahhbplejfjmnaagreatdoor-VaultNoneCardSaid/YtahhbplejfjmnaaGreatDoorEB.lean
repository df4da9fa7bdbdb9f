/- General words for running code of which all is known: what is read. No program. -/
import Derived.Test.YtahhbplejfjmnaaGreatDoorEA
import Derived.Laws.BytesArg
namespace Go.Ev
open Go Go.Sl
noncomputable section

/-- what is known of an argument's cell: a number; a slice of rows of m numbers -/
inductive Shp where
  | int
  | rows (m : Nat)
def ShpOk (W : World) (s : Shp) (v : Value) : Prop :=
  match s with
  | .int => ∃ n, v = .int .i64 n
  | .rows m => ∃ (a : Option Addr) (n c : Nat) (xs : List Value), v = .slice a n c ∧ xs.length = n * m ∧ (∀ x ∈ xs, ∃ i, x = .int .i64 i) ∧
    ((a = none ∧ n = 0 ∧ c = 0 ∧ xs = []) ∨ ∃ r ofs arr E fz, a = some ⟨r, ofs, none⟩ ∧ W.heap[r]? = some (.cells arr E fz) ∧ n ≤ c ∧ (c = 0 ∨ ofs + c * m ≤ arr.size) ∧ ∀ j x, xs[j]? = some x → arr[ofs + j]? = some x)

/-- what never changes: the tables of the program, the world at the beginning, what the arguments hold -/
structure Kx where
  G : Tr (List AV)
  W : World
  σ : Nat → Value
  sl : List (Nat × Shp)
  hold : ∀ p ∈ sl, ShpOk W p.2 (σ p.1)
structure St where
  h : Tr AObj
  nx : Nat
  k : Kx
structure InvK (M : Nm) (nx : Nat) (k : Kx) : Prop where
  fresh : ∀ i, nx ≤ i → M.ρ i = none ∧ ¬ M.res i
  gl : ∀ g c, k.G.get g = some c → ∃ arr T fz, k.W.heap[g]? = some (.cells arr T fz) ∧ cellsR M c 0 arr
  sg : M.σ = k.σ
structure Inv (M : Nm) (s : St) (w : World) (L : List HP) : Prop where
  sat : Sat w (hp M s.h.get :: old s.k.W :: L)
  k : InvK M s.nx s.k

section
variable {P : Program} {X : Tr TI} {M : Nm} {ae : List (Nat × AV)} {e : Env} {o : Oper} {x y : Operand} {t u : TypeId} {w : World} {L : List HP} {s : St}

theorem Inv.blk (hI : Inv M s w L) {i : Nat} {ob : AObj} (hi : s.h.get i = some ob) : ∃ B q, M.ρ i = some B ∧ OR M ob B q ∧ w.heap[B.b]? = some q := by
  obtain ⟨B, q, h1, h2, h3⟩ := hp_out hI.sat hi
  exact ⟨B, q, h1, h2, h3.obj 0 rfl⟩

theorem Inv.oldb (hI : Inv M s w L) {b : Nat} (hb : b < s.k.W.heap.size) : w.heap[b]? = s.k.W.heap[b]? := by
  have h1 := hI.sat.perm (List.Perm.swap _ _ _)
  obtain ⟨R, F, _, _, F1, F2, _, _, ⟨_, h2, _⟩, _⟩ := h1
  exact (h2 b hb).2
def absZ (v : Value) : Option AV :=
  match v with
  | .agg c => match c.toList.mapM absV with
    | some l => some (.agg l)
    | none => none
  | v => absV v
theorem absVs_ok (M : Nm) : ∀ {l : List Value} {r : List AV}, l.mapM absV = some r → VRs M r l
  | [], r, h => by simp at h; subst h; exact VRs.nil
  | v :: l, r, h => by
    simp only [List.mapM_cons, Option.bind_eq_bind, Option.bind_eq_some_iff, Option.pure_def, Option.some.injEq] at h
    obtain ⟨a, h1, r', h2, rfl⟩ := h
    exact VRs.cons (absV_ok h1 M) (absVs_ok M h2)
theorem absZ_ok {v : Value} {a : AV} (h : absZ v = some a) (M : Nm) : VR M a v := by
  unfold absZ at h
  split at h
  · rename_i c
    split at h
    · rename_i l hl
      cases h
      simp only [VR]
      exact ⟨c.toList, absVs_ok M hl, by simp⟩
    · cases h
  · exact absV_ok h M

/-- cells that may be read -/
def rdC : AObj → Option (List AV)
  | .cells c _ => some c
  | .ro c => some c
  | _ => none
theorem rdC_ok {M : Nm} {ob : AObj} {c : List AV} {B : Blk} {q : Obj} (h : rdC ob = some c) (hO : OR M ob B q) : ∃ arr T fz, q = .cells arr T fz ∧ cellsR M c B.base arr := by
  cases ob <;> simp only [rdC, reduceCtorEq, Option.some.injEq] at h
  · subst h; obtain ⟨arr, h1, _, h3⟩ := hO; exact ⟨arr, _, _, h1, h3⟩
  · subst h; obtain ⟨arr, T, fz, h1, _, h3⟩ := hO; exact ⟨arr, T, fz, h1, h3⟩

/-- cells behind a pointer, and how far in -/
def addrA (s : St) (a : AV) : Option (List AV × Nat) :=
  match a with
  | .ptr i o => match s.h.get i with
    | some ob => match rdC ob with
      | some c => some (c, o)
      | none => none
    | none => none
  | .gptr g o => match s.k.G.get g with
    | some c => some (c, o)
    | none => none
  | _ => none
theorem addrA_ok (hI : Inv M s w L) {a : AV} {v : Value} {c : List AV} {ofs : Nat} (hv : VR M a v) (h : addrA s a = some (c, ofs)) :
    ∃ r base arr T fz, v = .pointer (some ⟨r, base + ofs, none⟩) ∧ w.heap[r]? = some (.cells arr T fz) ∧ cellsR M c base arr := by
  unfold addrA at h
  split at h
  · rename_i i o
    simp only [VR] at hv
    obtain ⟨B, hB, hv⟩ := hv
    split at h
    · rename_i ob hob
      split at h
      · rename_i c' hc
        cases h
        obtain ⟨B', q, hB', hO, hw⟩ := hI.blk hob
        rw [hB] at hB'; cases hB'
        obtain ⟨arr, T, fz, rfl, hcs⟩ := rdC_ok hc hO
        exact ⟨_, _, arr, T, fz, hv, hw, hcs⟩
      · cases h
    · cases h
  · rename_i g o
    simp only [VR] at hv
    split at h
    · rename_i c' hob
      cases h
      obtain ⟨arr, T, fz, h1, hcs⟩ := hI.k.gl g c hob
      have hlt : g < s.k.W.heap.size := (Array.getElem?_eq_some_iff.1 h1).1
      exact ⟨g, 0, arr, T, fz, by rw [hv, Nat.zero_add], by rw [hI.oldb hlt]; exact h1, hcs⟩
    · cases h
  · cases h

/-- what is read -/
def readA (X : Tr TI) (ae : List (Nat × AV)) (s : St) (op : Op) : Option AV :=
  match op with
  | .load t x => match opnd ae x with
    | some a => match addrA s a with
      | some co => match X.get t with
        | some ti => bif ti.agg then (bif Nat.ble (co.2 + ti.size) co.1.length then some (.agg ((co.1.drop co.2).take ti.size)) else none) else co.1[co.2]?
        | none => none
      | none => none
    | none => none
  | .call ⟨.builtin .len, xs, ts⟩ => match xs.toList with
    | [x] => match opnd ae x with
      | some (.map i) => match ts[0]? with
        | some t => match X.get t with
          | some ti => match ti.und with
            | .map _ _ => match s.h.get i with
              | some (.map _ m) => some (.int .i64 (.ofNat m.length))
              | _ => none
            | _ => none
          | none => none
        | none => none
      | _ => none
    | _ => none
  | .convert sT dT x => match opnd ae x with
    | some (.slice i o 1 n _) => match (s.h.get i).bind rdC with
      | some c => match bytesIn ((c.drop o).take n) with
        | some l => bif Nat.beq l.length n && Nat.ble (o + n) c.length then (match X.get sT with
          | some si => match X.get dT with
            | some di => match si.und, di.und with
              | .slice E, .string => match X.get E with
                | some ei => match ei.und with
                  | .int .u8 => some (.str l)
                  | _ => none
                | none => none
              | _, _ => none
            | none => none
          | none => none) else none
        | none => none
      | _ => none
    | _ => none
  | _ => none
 where
  bytesIn : List AV → Option (List Nat)
    | [] => some []
    | .int .u8 (.ofNat n) :: l => bif Nat.blt n 256 then (match bytesIn l with
      | some r => some (n :: r)
      | none => none) else none
    | _ => none

theorem bytesIn_ok {M : Nm} : ∀ {c : List AV} {l : List Nat}, readA.bytesIn c = some l → c = l.map (fun n => .int .u8 (.ofNat n)) ∧ l.all (Nat.blt · 256) = true
  | [], l, h => by simp only [readA.bytesIn, Option.some.injEq] at h; subst h; exact ⟨rfl, rfl⟩
  | a :: c, l, h => by
    unfold readA.bytesIn at h
    split at h
    · rename_i heq; cases heq
    · rename_i n c' heq
      cases heq
      cases hb : Nat.blt n 256 with
      | false => rw [hb] at h; cases h
      | true =>
        rw [hb] at h
        simp only [cond_true] at h
        split at h
        · rename_i r hr
          cases h
          obtain ⟨h1, h2⟩ := bytesIn_ok (M := M) hr
          subst h1
          exact ⟨rfl, by simp only [List.all_cons, hb, h2]; rfl⟩
        · cases h
    · cases h

theorem cells_row {c : List AV} {base o n : Nat} {arr : Array Value} (hc : cellsR M c base arr) (h : o + n ≤ c.length) : ∃ vs : List Value, VRs M ((c.drop o).take n) vs ∧ vs.length = n ∧ ∀ j v, vs[j]? = some v → arr[base + o + j]? = some v := by
  induction n generalizing o with
  | zero => exact ⟨[], by simp [VRs], rfl, by simp⟩
  | succ n ih =>
    obtain ⟨vs, h1, h2, h3⟩ := ih (o := o + 1) (by omega)
    have ho : o < c.length := by omega
    obtain ⟨v, e1, e2⟩ := hc o c[o] (List.getElem?_eq_getElem ho)
    refine ⟨v :: vs, ?_, by simp [h2], ?_⟩
    · rw [List.drop_eq_getElem_cons ho, List.take_succ_cons]
      exact VRs.cons e2 h1
    · intro j v' hj
      cases j with
      | zero => simp at hj; subst hj; simpa using e1
      | succ j =>
        simp at hj
        have := h3 j v' hj
        rw [← this]; congr 1; omega
end
end
end Go.Ev
/- General words for running code of which all is known: what is read, what it owes. No program. -/
namespace Go.Ev
open Go Go.Sl
section
variable {P : Program} {X : Tr TI} {M : Nm} {ae : List (Nat × AV)} {e : Env} {o : Oper} {x y : Operand} {t u : TypeId} {w : World} {L : List HP} {s : St}

theorem MR.len {M : Nm} : ∀ {m : List (AV × AV × Nat)} {es : List MapEntry}, MR M m es → es.length = m.length
  | [], _, h => by simp only [MR] at h; subst h; rfl
  | p :: m, _, h => by
    obtain ⟨e, l, rfl, _, _, _, h5⟩ := h
    simp [h5.len]
theorem vrs_bytes {M : Nm} : ∀ {l : List Nat} {vs : List Value}, VRs M (l.map (fun n => AV.int .u8 (.ofNat n))) vs → vs = l.map (fun n => Value.int .u8 (.ofNat n))
  | [], vs, h => by simpa [VRs] using h
  | n :: l, vs, h => by
    simp only [List.map_cons, VRs, VR] at h
    obtain ⟨v, us, rfl, rfl, h5⟩ := h
    rw [List.map_cons, vrs_bytes h5]

theorem readA_ok (hX : Types P X) (he : EnvR M ae e) (hI : Inv M s w L) {a : AV} (h : readA X ae s o.op = some a) : ∃ v, VR M a v ∧ (execOp (Sl.ev e) o).run P w = .ok (.value v) w := by
  unfold readA at h
  split at h
  · rename_i t x ho
    split at h
    · rename_i a0 hx
      have hx' := opnd_ok he hx
      split at h
      · rename_i co hco
        obtain ⟨c, ofs⟩ := co
        obtain ⟨r, base, arr, T, fz, hv, hw, hcs⟩ := addrA_ok hI hx' hco
        split at h
        · rename_i ti hti
          have hag := (hX _ _ hti).agg
          cases hz : ti.agg with
          | true =>
            rw [hz] at h hag
            simp only [cond_true] at h
            cases hb : Nat.ble (ofs + ti.size) c.length with
            | false => rw [hb] at h; cases h
            | true =>
              rw [hb] at h; cases h
              obtain ⟨vs, h1, h2, h3⟩ := cells_row hcs (Nat.le_of_ble_eq_true hb)
              refine ⟨.agg vs.toArray, by simp only [VR]; exact ⟨vs, h1, rfl⟩, ?_⟩
              refine r_loada vs ho hv hag (hX _ _ hti).size h2 (fun j v hj => cell_of hw (h3 j v hj))
          | false =>
            rw [hz] at h hag
            simp only [cond_false] at h
            obtain ⟨v, h1, h2⟩ := hcs _ _ h
            exact ⟨v, h2, r_load ho hv hag (cell_of hw h1)⟩
        · cases h
      · cases h
    · cases h
  · rename_i xs ts ho
    split at h
    · rename_i x hxs
      have ho' : o.op = .call ⟨.builtin .len, #[x], ts⟩ := by rw [ho]; congr 2; exact Array.ext' hxs
      split at h
      · rename_i i hx
        have hx' := opnd_ok he hx
        simp only [VR] at hx'
        obtain ⟨B, hB, hv⟩ := hx'
        split at h
        · rename_i t h0
          split at h
          · rename_i ti hti
            split at h
            · rename_i K E hKE
              have ht : P.underlying t = some (.map K E) := by rw [← hKE]; exact (hX _ _ hti).und
              split at h
              · rename_i ck m hm
                cases h
                obtain ⟨B', q, hB', hO, hw⟩ := hI.blk hm
                rw [hB] at hB'; cases hB'
                obtain ⟨es, rfl, hmr⟩ := hO
                have := r_lenm ho' h0 ht hv hw
                have hl : es.size = m.length := by rw [← hmr.len]; simp
                rw [hl] at this
                exact ⟨_, vri M _ _, this⟩
              · cases h
            · cases h
          · cases h
        · cases h
      · cases h
    · cases h
  · rename_i sT dT x ho
    split at h
    · rename_i i ofs n cp hx
      have hx' := opnd_ok he hx
      simp only [VR] at hx'
      obtain ⟨B, c', hB, hv, _⟩ := hx'
      split at h
      · rename_i c hc
        obtain ⟨ob, hob, hc⟩ := Option.bind_eq_some_iff.1 hc
        obtain ⟨B', q, hB', hO, hw⟩ := hI.blk hob
        rw [hB] at hB'; cases hB'
        obtain ⟨arr, T, fz, rfl, hcs⟩ := rdC_ok hc hO
        split at h
        · rename_i l hl
          obtain ⟨hl1, hl2⟩ := bytesIn_ok (M := M) hl
          generalize hcnd : (Nat.beq l.length n && Nat.ble (ofs + n) c.length) = cnd at h
          cases cnd with
          | false => cases h
          | true =>
            simp only [Bool.and_eq_true] at hcnd
            have hn := Nat.eq_of_beq_eq_true hcnd.1
            have hn2 := hcnd.2
            simp only [cond_true] at h
            split at h
            · rename_i si hsi
              split at h
              · rename_i di hdi
                split at h
                · rename_i E e1 e2
                  split at h
                  · rename_i ei hei
                    split at h
                    · rename_i e3
                      cases h
                      refine ⟨.string (strOf l), by simp only [VR]; exact ⟨trivial, hl2⟩, ?_⟩
                      have hlen : ofs + n ≤ c.length := Nat.le_of_ble_eq_true hn2
                      obtain ⟨vs, h1, h2, h3⟩ := cells_row hcs hlen
                      have hvs : vs = l.map (fun n => Value.int .u8 (.ofNat n)) := vrs_bytes (by rw [← hl1]; exact h1)
                      have hcv := run_convert_bytes_arg (P := P) w sT E (by rw [← e1]; exact (hX _ _ hsi).und) (by rw [← e3]; exact (hX _ _ hei).und) B.b (B.base + ofs) n c' (l.map Int.ofNat) (by simpa using hn) (fun j hj => by
                        have := h3 j (.int .u8 (.ofNat (l.getD j 0))) (by rw [hvs]; simp [List.getD, List.getElem?_eq_getElem (show j < l.length by omega)])
                        rw [cell_of hw this]
                        simp [List.getD, List.getElem?_eq_getElem (show j < l.length by omega)]) dT (by rw [← e2]; exact (hX _ _ hdi).und)
                      have hs2 : strOfNums (l.map Int.ofNat) = strOf l := by
                        simp [strOfNums, strOf, Function.comp_def]
                      rw [hs2] at hcv
                      simp only [execOp, ho, hv, Sem.run_bind, hcv, Result.andThen]; rfl
                    · cases h
                  · cases h
                · cases h
              · cases h
            · cases h
        · cases h
      · cases h
    · cases h
  · cases h
end
end Go.Ev
/- General words for running code of which all is known: new blocks and writes. No program. -/
namespace Go.Ev
open Go Go.Sl
noncomputable section
variable {P : Program} {X : Tr TI} {M : Nm} {ae : List (Nat × AV)} {e : Env} {o : Oper} {x y : Operand} {t u : TypeId} {w : World} {L : List HP} {s : St} {K : Value → World → Prop}

def cellsA : AV → List AV
  | .agg l => l
  | a => [a]
theorem cellsA_ok {M : Nm} {a : AV} {v : Value} (h : VR M a v) : VRs M (cellsA a) v.cells.toList := by
  cases a with
  | agg l =>
    simp only [VR] at h
    obtain ⟨vs, h1, rfl⟩ := h
    simpa [cellsA, Value.cells] using h1
  | sym i =>
    have h0 := h
    simp only [VR] at h
    obtain ⟨h1, h2⟩ := h
    have : v.cells = #[v] := by
      clear h0 h1
      cases v <;> first | (simp [one] at h2; done) | rfl
    rw [this]
    exact VRs.cons h0 VRs.nil
  | _ =>
    have h0 := h
    simp only [VR] at h
    have : v.cells = #[v] := by
      first
      | (subst h; rfl)
      | (obtain ⟨h1, _⟩ := h; subst h1; rfl)
      | (obtain ⟨_, _, h1⟩ := h; subst h1; rfl)
      | (obtain ⟨_, _, _, h1, _⟩ := h; subst h1; rfl)
      | (obtain ⟨_, _, _, _, h1⟩ := h; subst h1; rfl)
    rw [this]
    exact VRs.cons h0 VRs.nil
def oneA : AV → Bool
  | .agg _ => false
  | .tup _ => false
  | _ => true
theorem oneA_ok {M : Nm} {a : AV} {v : Value} (h : VR M a v) (ho : oneA a = true) : one v = true := by
  cases a with
  | agg l => cases ho
  | tup l => cases ho
  | sym i => simp only [VR] at h; rw [h.1]; exact h.1 ▸ h.2
  | _ =>
    simp only [VR] at h
    first
    | (subst h; rfl)
    | (obtain ⟨h1, _⟩ := h; subst h1; rfl)
    | (obtain ⟨_, _, h1⟩ := h; subst h1; rfl)
    | (obtain ⟨_, _, _, h1, _⟩ := h; subst h1; rfl)
    | (obtain ⟨_, _, _, _, h1⟩ := h; subst h1; rfl)
theorem onesA_ok {M : Nm} : ∀ {l : List AV} {vs : List Value}, VRs M l vs → l.all oneA = true → vs.all one = true
  | [], _, h, _ => by simp only [VRs] at h; subst h; rfl
  | a :: l, _, h, ho => by
    simp only [VRs] at h
    obtain ⟨v, us, rfl, h2, h3⟩ := h
    simp only [List.all_cons, Bool.and_eq_true] at ho ⊢
    exact ⟨oneA_ok h2 ho.1, onesA_ok h3 ho.2⟩

def wrA (c : List AV) (i : Nat) (l : List AV) : List AV := c.take i ++ (l ++ c.drop (i + l.length))

theorem writeAt_list (vs : List Value) (arr : Array Value) (i : Nat) (h : i + vs.length ≤ arr.size) : (writeAt arr i vs).toList = arr.toList.take i ++ (vs ++ arr.toList.drop (i + vs.length)) := by
  apply List.ext_getElem?
  intro j
  rw [Array.getElem?_toList, writeAt_get]
  by_cases h1 : j < i
  · rw [if_neg (by omega), List.getElem?_append_left (by simp; omega), List.getElem?_take, if_pos h1, Array.getElem?_toList]
  · have hl : (arr.toList.take i).length = i := by simp; omega
    rw [List.getElem?_append_right (by omega), hl]
    by_cases h2 : j < i + vs.length
    · rw [if_pos (by omega), List.getElem?_append_left (by omega)]
    · rw [if_neg (by omega), List.getElem?_append_right (by omega), List.getElem?_drop, Array.getElem?_toList]
      congr 1; omega

theorem cellsR_write {M : Nm} {c l : List AV} {base ofs : Nat} {arr : Array Value} {vs : List Value} (hc : cellsR M c base arr) (hl : VRs M l vs) (hle : ofs + l.length ≤ c.length) (hb : base + ofs + vs.length ≤ arr.size) :
    cellsR M (wrA c ofs l) base (writeAt arr (base + ofs) vs) := by
  have hlen := hl.length
  intro j a hj
  rw [writeAt_get]
  unfold wrA at hj
  have hcl : (c.take ofs).length = ofs := by simp; omega
  by_cases h1 : j < ofs
  · rw [List.getElem?_append_left (by omega), List.getElem?_take, if_pos h1] at hj
    rw [if_neg (by omega)]
    exact hc j a hj
  · rw [List.getElem?_append_right (by omega), hcl] at hj
    by_cases h2 : j < ofs + l.length
    · rw [List.getElem?_append_left (by omega)] at hj
      rw [if_pos (by omega)]
      obtain ⟨v, h3, h4⟩ := hl.get hj
      refine ⟨v, ?_, h4⟩
      rw [← h3]; congr 1; omega
    · rw [List.getElem?_append_right (by omega), List.getElem?_drop] at hj
      rw [if_neg (by omega)]
      exact hc j a (by rw [← hj]; congr 1; omega)

theorem VRs.write {M : Nm} {c l : List AV} {i : Nat} {cs vs : List Value} (hc : VRs M c cs) (hl : VRs M l vs) : VRs M (wrA c i l) (cs.take i ++ (vs ++ cs.drop (i + vs.length))) := by
  unfold wrA
  rw [hl.length]
  exact VRs.append (hc.take _) (VRs.append hl (hc.drop _))

def fillA (place : Nat → Option (Nat × Nat)) (cells : List AV) : List (Nat × AV) → Option (List AV)
  | [] => some cells
  | (i, a) :: rest => match place i with
    | none => none
    | some (off, size) => bif Nat.beq (cellsA a).length size && Nat.ble (off + size) cells.length then fillA place (wrA cells off (cellsA a)) rest else none
theorem wrA_length {c l : List AV} {i : Nat} (h : i + l.length ≤ c.length) : (wrA c i l).length = c.length := by
  simp [wrA]; omega
theorem fillA_ok {M : Nm} {place : Nat → Option (Nat × Nat)} : ∀ {ps : List (Nat × AV)} {qs : List (Nat × Value)} {c r : List AV} {zc : Array Value}, VRs M c zc.toList → qs.map (·.1) = ps.map (·.1) → VRs M (ps.map (·.2)) (qs.map (·.2)) → fillA place c ps = some r →
    ∃ rc, fillW place zc qs = some rc ∧ VRs M r rc.toList
  | [], qs, c, r, zc, hc, h1, _, h => by
    have : qs = [] := by simpa using h1
    subst this
    simp only [fillA, Option.some.injEq] at h
    subst h
    exact ⟨zc, rfl, hc⟩
  | (i, a) :: ps, [], _, _, _, _, h1, _, _ => by simp at h1
  | (i, a) :: ps, (j, v) :: qs, c, r, zc, hc, h1, h2, h => by
    simp only [List.map_cons, List.cons.injEq] at h1
    obtain ⟨rfl, h1⟩ := h1
    simp only [List.map_cons, VRs] at h2
    obtain ⟨v', us, e1, e2, e3⟩ := h2
    simp only [List.cons.injEq] at e1
    obtain ⟨rfl, rfl⟩ := e1
    simp only [fillA] at h
    simp only [fillW]
    cases hp : place j with
    | none => simp only [hp] at h; cases h
    | some os =>
      obtain ⟨off, size⟩ := os
      simp only [hp] at h ⊢
      have hca := cellsA_ok e2
      have hl := hca.length
      have hcl := hc.length
      rw [hl, show zc.size = c.length by simpa using hcl]
      cases hb : (Nat.beq (cellsA a).length size && Nat.ble (off + size) c.length) with
      | false => rw [hb] at h; cases h
      | true =>
        rw [hb] at h
        simp only [cond_true] at h ⊢
        simp only [Bool.and_eq_true] at hb
        have hs := Nat.eq_of_beq_eq_true hb.1
        have hle := Nat.le_of_ble_eq_true hb.2
        refine fillA_ok ?_ h1 e3 h
        rw [writeAt_list _ _ _ (by rw [hl]; have : zc.size = c.length := by simpa using hcl
                                   omega)]
        exact VRs.write hc hca

theorem fillA_len {place : Nat → Option (Nat × Nat)} : ∀ {ps : List (Nat × AV)} {c r : List AV}, fillA place c ps = some r → r.length = c.length
  | [], c, r, h => by simp only [fillA, Option.some.injEq] at h; rw [h]
  | (i, a) :: ps, c, r, h => by
    simp only [fillA] at h
    split at h
    · cases h
    · rename_i off size hp
      cases hb : (Nat.beq (cellsA a).length size && Nat.ble (off + size) c.length) with
      | false => rw [hb] at h; cases h
      | true =>
        rw [hb] at h
        simp only [Bool.and_eq_true] at hb
        have h1 := Nat.eq_of_beq_eq_true hb.1
        have h2 := Nat.le_of_ble_eq_true hb.2
        rw [fillA_len h, wrA_length (by omega)]

def partsA (ae : List (Nat × AV)) : List (Nat × Operand) → Option (List (Nat × AV))
  | [] => some []
  | p :: ps => match opnd ae p.2 with
    | some a => match partsA ae ps with
      | some l => some ((p.1, a) :: l)
      | none => none
    | none => none
theorem partsA_ok (he : EnvR M ae e) : ∀ {ps : List (Nat × Operand)} {l : List (Nat × AV)}, partsA ae ps = some l → (ps.map fun p => (p.1, Sl.ev e p.2)).map (·.1) = l.map (·.1) ∧ VRs M (l.map (·.2)) ((ps.map fun p => (p.1, Sl.ev e p.2)).map (·.2))
  | [], l, h => by simp only [partsA, Option.some.injEq] at h; subst h; exact ⟨rfl, VRs.nil⟩
  | p :: ps, l, h => by
    simp only [partsA] at h
    split at h
    · rename_i a ha
      split at h
      · rename_i l' hl
        cases h
        obtain ⟨h1, h2⟩ := partsA_ok he hl
        exact ⟨by simp only [List.map_cons, h1], by simp only [List.map_cons]; exact VRs.cons (opnd_ok he ha) h2⟩
      · cases h
    · cases h

/-- where a struct's parts lie -/
def placesA (X : Tr TI) : List Field → Option (List (Nat × Nat))
  | [] => some []
  | f :: fs => match X.get f.type with
    | some ti => match placesA X fs with
      | some l => some ((f.offset, ti.size) :: l)
      | none => none
    | none => none
theorem placesA_ok (hX : Types P X) : ∀ {fs : List Field} {pl : List (Nat × Nat)}, placesA X fs = some pl → ∀ w, (fs.mapM fun f => (do pure (f.offset, ← sizeOf f.type) : Sem (Nat × Nat))).run P w = .ok pl w
  | [], pl, h, w => by simp only [placesA, Option.some.injEq] at h; subst h; simp
  | f :: fs, pl, h, w => by
    simp only [placesA] at h
    split at h
    · rename_i ti hti
      split at h
      · rename_i l hl
        cases h
        simp only [List.mapM_cons, Sem.run_bind, (hX _ _ hti).size, Result.andThen, hpure, placesA_ok hX hl w]
      · cases h
    · cases h

def zeroA (v : Value) : Option (List AV) := match absZ v with
  | some a => some (cellsA a)
  | none => none
theorem zeroA_ok {v : Value} {l : List AV} (h : zeroA v = some l) (M : Nm) : VRs M l v.cells.toList := by
  unfold zeroA at h
  split at h
  · rename_i a ha; cases h; exact cellsA_ok (absZ_ok ha M)
  · cases h

/-- a struct out of its parts -/
def buildA (X : Tr TI) (ae : List (Nat × AV)) (op : Op) : Option AV :=
  match op with
  | .build t ps => match X.get t with
    | some ti => match ti.und with
      | .struct fs => match placesA X fs.toList with
        | some pl => match zeroA ti.zero with
          | some z => match partsA ae ps.toList with
            | some l => match fillA (fun i => pl[i]?) z l with
              | some c => some (.agg c)
              | none => none
            | none => none
          | none => none
        | none => none
      | .array _ E => match X.get E with
        | some ei => match zeroA ti.zero with
          | some z => match partsA ae ps.toList with
            | some l => match fillA (fun i => some (i * ei.size, ei.size)) z l with
              | some c => some (.agg c)
              | none => none
            | none => none
          | none => none
        | none => none
      | _ => none
    | none => none
  | _ => none
theorem r_buildArr {n : Nat} {E : TypeId} {m : Nat} {ps : Array (Nat × Operand)} {z : Value} {c : Array Value} {w : World} (ho : o.op = .build t ps) (ht : P.underlying t = some (.array n E))
    (hz : ∀ w, (zeroValue t).run P w = .ok z w) (hm : ∀ w, (sizeOf E).run P w = .ok m w)
    (hf : fillW (fun i => some (i * m, m)) z.cells (partsOf e ps) = some c) : (execOp (Sl.ev e) o).run P w = .ok (.value (.agg c)) w := by
  have hf' : Instr.fill (fun i => some (i * m, m)) z.cells (ps.map fun p => (p.1, Sl.ev e p.2)).toList = some c := by rw [Array.toList_map]; exact fill_eq _ hf
  simp only [execOp, ho, Instr.build, Sem.run_bind, hz, Result.andThen, run_underlying ht, hm, hf']
  simp [go_sem]
theorem buildA_ok (hX : Types P X) (he : EnvR M ae e) {a : AV} (h : buildA X ae o.op = some a) : ∃ v, VR M a v ∧ ∀ w, (execOp (Sl.ev e) o).run P w = .ok (.value v) w := by
  unfold buildA at h
  split at h
  · rename_i t ps ho
    split at h
    · rename_i ti hti
      split at h
      · rename_i fs hfs
        split at h
        · rename_i pl hpl
          split at h
          · rename_i z hz
            split at h
            · rename_i l hl
              split at h
              · rename_i c hc
                cases h
                obtain ⟨h1, h2⟩ := partsA_ok he hl
                obtain ⟨rc, h3, h4⟩ := fillA_ok (zeroA_ok hz M) h1 h2 hc
                refine ⟨.agg rc, by simp only [VR]; exact ⟨_, h4, by simp⟩, fun w => ?_⟩
                refine r_build (pl := pl.toArray) ho (by rw [← hfs]; exact (hX _ _ hti).und) (hX _ _ hti).zero rfl (fun w => ?_) (by rw [← h3]; simp [partsOf])
                have := placesA_ok hX hpl w
                rw [← Array.toArray_toList (xs := fs)]
                rw [List.mapM_toArray, map_bind, Sem.run_bind, this]
                rfl
              · cases h
            · cases h
          · cases h
        · cases h
      · rename_i n E hfs
        split at h
        · rename_i ei hei
          split at h
          · rename_i z hz
            split at h
            · rename_i l hl
              split at h
              · rename_i c hc
                cases h
                obtain ⟨h1, h2⟩ := partsA_ok he hl
                obtain ⟨rc, h3, h4⟩ := fillA_ok (zeroA_ok hz M) h1 h2 hc
                refine ⟨.agg rc, by simp only [VR]; exact ⟨_, h4, by simp⟩, fun w => ?_⟩
                exact r_buildArr ho (by rw [← hfs]; exact (hX _ _ hti).und) (hX _ _ hti).zero (hX _ _ hei).size (by rw [← h3]; simp [partsOf])
              · cases h
            · cases h
          · cases h
        · cases h
      · cases h
    · cases h
  · cases h
end
end Go.Ev
/- General words for running code of which all is known: new blocks and writes, continued. No program. -/
namespace Go.Ev
open Go Go.Sl
noncomputable section
variable {P : Program} {X : Tr TI} {M : Nm} {ae : List (Nat × AV)} {e : Env} {o : Oper} {x y : Operand} {t u : TypeId} {w : World} {L : List HP} {s : St} {K : Value → World → Prop}

theorem Inv.lack (hI : Inv M s w L) {i : Nat} (hi : s.nx ≤ i) : s.h.get i = none := by
  cases h : s.h.get i with
  | none => rfl
  | some o =>
    obtain ⟨B, q, h1, _⟩ := hI.blk h
    rw [(hI.k.fresh i hi).1] at h1; cases h1

theorem InvK.mono {M M' : Nm} {nx : Nat} {k : Kx} (h : InvK M nx k) (hle : M.le M') (hf : ∀ i, nx ≤ i → M'.ρ i = none) : InvK M' nx k :=
  ⟨fun i hi => ⟨hf i hi, by rw [hle.res]; exact (h.fresh i hi).2⟩, fun g c hg => by
    obtain ⟨arr, T, fz, h1, h2⟩ := h.gl g c hg
    exact ⟨arr, T, fz, h1, h2.mono hle⟩, hle.σ.trans h.sg⟩

theorem Inv.newb (hI : Inv M s w L) {h' : Tr AObj} {w' : World} {ob : Obj} {r : Nat} (hs : Sat w' (obj r ob :: hp M h'.get :: old s.k.W :: L)) (hn : h'.get s.nx = none) (aob : AObj) (B : Blk) (hB : B.b = r) (hO : ∀ M', M.le M' → M'.ρ s.nx = some B → OR M' aob B ob) :
    ∃ M', M.le M' ∧ M'.ρ s.nx = some B ∧ Inv M' ⟨h'.put s.nx (some aob), s.nx + 1, s.k⟩ w' L := by
  subst hB
  have hnr : ¬ M.res s.nx := (hI.k.fresh _ (Nat.le_refl _)).2
  have hle : M.le ⟨fun i => if i = s.nx then some B else M.ρ i, M.σ, M.res⟩ := by
    refine ⟨⟨fun i C hi => ?_, rfl⟩, rfl, fun i hi => ?_⟩
    · have : i ≠ s.nx := by rintro rfl; rw [(hI.k.fresh _ (Nat.le_refl _)).1] at hi; cases hi
      simp [this, hi]
    · have : i ≠ s.nx := by rintro rfl; exact hnr hi
      simp [this]
  refine ⟨_, hle, by simp, ⟨?_, ?_⟩⟩
  · have h1 : Sat w' (hp M h'.get :: obj B.b ob :: old s.k.W :: L) := hs.perm (List.Perm.swap _ _ _)
    have h2 := hp_mono hle h1
    have h3 := hp_in (i := s.nx) (o := aob) (B := B) (h2.perm (List.Perm.swap _ _ _)) hn (by simp) (hO _ hle (by simp))
    rw [← Tr.get_put] at h3
    exact h3
  · have hk : InvK M (s.nx + 1) s.k := ⟨fun i hi => hI.k.fresh i (by omega), hI.k.gl, hI.k.sg⟩
    exact hk.mono hle (fun i hi => by
      have : i ≠ s.nx := by omega
      simp only [this, if_false]
      exact (hI.k.fresh i (by omega)).1)
theorem Inv.updb (hI : Inv M s w L) {w' : World} {ob : Obj} {i : Nat} {B : Blk} {aob : AObj} (hB : M.ρ i = some B) (hs : Sat w' (obj B.b ob :: hp M (upd s.h.get i none) :: old s.k.W :: L)) (hO : OR M aob B ob) : Inv M ⟨s.h.put i (some aob), s.nx, s.k⟩ w' L := by
  refine ⟨?_, hI.k⟩
  have h3 := hp_in (i := i) (o := aob) (B := B) hs (upd_same _ _ _) hB hO
  rw [upd_upd, ← Tr.get_put] at h3
  exact h3
theorem Inv.outb (hI : Inv M s w L) {i : Nat} {ob : AObj} (hi : s.h.get i = some ob) : ∃ B q, M.ρ i = some B ∧ OR M ob B q ∧ Sat w (obj B.b q :: hp M (s.h.put i none).get :: old s.k.W :: L) := by
  obtain ⟨B, q, h1, h2, h3⟩ := hp_out hI.sat hi
  rw [← Tr.get_put] at h3
  exact ⟨B, q, h1, h2, h3⟩

theorem cells_new {M : Nm} {l : List AV} {c : Array Value} {T : TypeId} {r : Nat} (h : VRs M l c.toList) : OR M (.cells l T) ⟨r, 0, c.size⟩ (.cells c T) := by
  refine ⟨c, rfl, rfl, fun j a hj => ?_⟩
  obtain ⟨v, h1, h2⟩ := h.get hj
  exact ⟨v, by simpa using h1, h2⟩
theorem cellsR_bound {M : Nm} {c : List AV} {base : Nat} {arr : Array Value} (h : cellsR M c base arr) (h0 : 0 < c.length) : base + c.length ≤ arr.size := by
  obtain ⟨v, h1, _⟩ := h (c.length - 1) c[c.length - 1] (List.getElem?_eq_getElem (by omega))
  have := (Array.getElem?_eq_some_iff.1 h1).1
  omega

/-- a fresh block of cells -/
def newCells (s : St) (c : List AV) (T : TypeId) : St := ⟨s.h.put s.nx (some (.cells c T)), s.nx + 1, s.k⟩

def allocA (X : Tr TI) (ae : List (Nat × AV)) (s : St) (op : Op) : Option (AV × St) :=
  match op with
  | .alloc T => match X.get T with
    | some ti => match zeroA ti.zero with
      | some z => some (.ptr s.nx 0, newCells s z T)
      | none => none
    | none => none
  | .box T x => match opnd ae x with
    | some a => some (.ptr s.nx 0, newCells s (cellsA a) T)
    | none => none
  | .makeMap t none => match X.get t with
    | some ti => match ti.und with
      | .map _ _ => some (.map s.nx, ⟨s.h.put s.nx (some (.map 0 [])), s.nx + 1, s.k⟩)
      | _ => none
    | none => none
  | .store T x y => match opnd ae x with
    | some (.ptr i o) => match opnd ae y with
      | some a => match s.h.get i with
        | some (.cells c U) => match X.get T with
          | some ti => bif Nat.beq (cellsA a).length ti.size && (cellsA a).all oneA && Nat.ble (o + ti.size) c.length && Nat.blt 0 ti.size then some (.tup [], ⟨s.h.put i (some (.cells (wrA c o (cellsA a)) U)), s.nx, s.k⟩) else none
          | none => none
        | _ => none
      | none => none
    | _ => none
  | _ => none

def Eff (M : Nm) (r : AV × St) (L : List HP) (K : Value → World → Prop) : Prop := ∀ M' v w', M.le M' → VR M' r.1 v → Inv M' r.2 w' L → K v w'

theorem allocA_ok (hX : Types P X) (he : EnvR M ae e) (hI : Inv M s w L) {r : AV × St} (h : allocA X ae s o.op = some r) (hK : Eff M r L K) : Does P o e w K := by
  unfold allocA at h
  split at h
  · rename_i T ho
    split at h
    · rename_i ti hti
      split at h
      · rename_i z hz
        cases h
        refine d_alloc ho (hX _ _ hti).zero rfl hI.sat (fun q w' hs => ?_)
        obtain ⟨M', h1, h2, h3⟩ := hI.newb hs (hI.lack (Nat.le_refl _)) (.cells z T) ⟨q, 0, _⟩ rfl (fun M' _ _ => cells_new (zeroA_ok hz M'))
        exact hK M' _ w' h1 (by simp only [VR]; exact ⟨_, h2, rfl⟩) h3
      · cases h
    · cases h
  · rename_i T x ho
    split at h
    · rename_i a ha
      cases h
      have ha' := opnd_ok he ha
      refine d_box ho rfl rfl hI.sat (fun q w' hs => ?_)
      obtain ⟨M', h1, h2, h3⟩ := hI.newb hs (hI.lack (Nat.le_refl _)) (.cells (cellsA a) T) ⟨q, 0, _⟩ rfl (fun M' hle _ => cells_new ((cellsA_ok ha').mono hle))
      exact hK M' _ w' h1 (by simp only [VR]; exact ⟨_, h2, rfl⟩) h3
    · cases h
  · rename_i t ho
    split at h
    · rename_i ti hti
      split at h
      · rename_i kt et hm
        cases h
        refine d_map ho hI.sat (fun q w' hs => ?_)
        obtain ⟨M', h1, h2, h3⟩ := hI.newb hs (hI.lack (Nat.le_refl _)) (.map 0 []) ⟨q, 0, 0⟩ rfl (fun M' hle _ => ⟨#[], rfl, rfl⟩)
        exact hK M' _ w' h1 (by simp only [VR]; exact ⟨_, h2, rfl⟩) h3
      · cases h
    · cases h
  · rename_i T x y ho
    split at h
    · rename_i i ofs hx
      have hx' := opnd_ok he hx
      simp only [VR] at hx'
      obtain ⟨B, hB, hv⟩ := hx'
      split at h
      · rename_i a ha
        have ha' := opnd_ok he ha
        split at h
        · rename_i c U hc
          split at h
          · rename_i ti hti
            generalize hcnd : (Nat.beq (cellsA a).length ti.size && (cellsA a).all oneA && Nat.ble (ofs + ti.size) c.length && Nat.blt 0 ti.size) = cnd at h
            cases cnd with
            | false => cases h
            | true =>
              cases h
              simp only [Bool.and_eq_true] at hcnd
              obtain ⟨⟨⟨q1, q2⟩, q3⟩, q4⟩ := hcnd
              have q1 := Nat.eq_of_beq_eq_true q1
              have q3 := Nat.le_of_ble_eq_true q3
              have q4 : 0 < ti.size := Nat.le_of_ble_eq_true q4
              obtain ⟨B', q, hB', hO, hs⟩ := hp_out hI.sat hc
              rw [hB] at hB'; cases hB'
              obtain ⟨arr, rfl, hsz, hcs⟩ := hO
              have hca := cellsA_ok ha'
              have hb := cellsR_bound hcs (by omega)
              have hl := hca.length
              refine d_store (vs := (Sl.ev e y).cells.toList) (k := 0) ho hv rfl (by simp) (hX _ _ hti).size (by omega) (onesA_ok hca q2) hs rfl (by omega) rfl (fun w' hs' => ?_)
              simp only [List.set_cons_zero] at hs'
              refine hK M undef w' (Nm.le.refl M) (by simp only [VR]; exact ⟨[], VRs.nil, rfl⟩) (hI.updb hB hs' ⟨_, rfl, by rw [writeAt_size]; exact hsz, ?_⟩)
              exact cellsR_write hcs hca (by omega) (by omega)
          · cases h
        · cases h
      · cases h
    · cases h
  · cases h
end
end Go.Ev
