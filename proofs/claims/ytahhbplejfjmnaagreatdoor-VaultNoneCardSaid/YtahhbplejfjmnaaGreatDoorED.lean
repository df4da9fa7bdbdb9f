/- General words for running code of which all is known: slices grow. No program. -/
import Derived.Test.YtahhbplejfjmnaaGreatDoorEC
import Derived.IntWalk
namespace Go.Ev
open Go Go.Sl
noncomputable section
variable {P : Program} {X : Tr TI} {M : Nm} {ae : List (Nat × AV)} {e : Env} {o : Oper} {x y z : Operand} {t u : TypeId} {w : World} {L : List HP} {s : St} {K : Value → World → Prop}

theorem sl_new (hI : Inv M s w L) {h' : Tr AObj} {w' : World} {m E n c : Nat} {a : Option Addr} {ws : List AV} {zs : List Value} (hs : Sat w' (Sl.sl m E a n c zs :: hp M h'.get :: old s.k.W :: L)) (hn : h'.get s.nx = none) (hz : VRs M ws zs) (hne : 0 < n ∨ 0 < c) {cap : Option Nat} (hcap : ∀ k, cap = some k → c = k) :
    ∃ M', M.le M' ∧ VR M' (.slice s.nx 0 m n cap) (.slice a n c) ∧ Inv M' ⟨h'.put s.nx (some (.cells ws E)), s.nx + 1, s.k⟩ w' L := by
  rcases hs.sl (k := 0) rfl with ⟨_, h1, h2, _⟩ | ⟨r, ofs, arr, rfl, h2, h3, h4, h5, h6⟩
  · omega
  · simp only [List.set_cons_zero] at h6
    obtain ⟨M', q1, q2, q3⟩ := hI.newb h6 hn (.cells ws E) ⟨r, ofs, arr.size⟩ rfl (fun M' hle _ => ⟨arr, rfl, rfl, fun j b hj => by
      obtain ⟨v, e1, e2⟩ := hz.get hj
      exact ⟨v, h5 j v e1, VR.mono hle _ e2⟩⟩)
    refine ⟨M', q1, ?_, q3⟩
    simp only [VR]
    exact ⟨_, c, q2, rfl, h3, by simpa using h4, hcap⟩

def lendA (h : Tr AObj) (m : Nat) (a : AV) : Option (List AV × Nat) :=
  match a with
  | .nils => some ([], 0)
  | .emp => some ([], 0)
  | .str l => bif Nat.beq m 1 then some (l.map (fun n => .int .u8 (.ofNat n)), l.length) else none
  | .slice j o m' n _ => bif Nat.beq m' m then (match (h.get j).bind rdC with
    | some cs => bif Nat.ble (o + n * m) cs.length then some ((cs.drop o).take (n * m), n) else none
    | none => none) else none
  | _ => none
theorem vrs_ofbytes (M : Nm) : ∀ (l : List Nat), VRs M (l.map (fun n => AV.int .u8 (.ofNat n))) (l.map (fun n => Value.int .u8 (.ofNat n)))
  | [] => VRs.nil
  | n :: l => by simp only [List.map_cons]; exact VRs.cons (vri M _ _) (vrs_ofbytes M l)
theorem lendA_ok {h : Tr AObj} {m : Nat} {a : AV} {v : Value} {ys : List AV} {n : Nat} (hs : Sat w (hp M h.get :: L)) (hv : VR M a v) (hl : lendA h m a = some (ys, n)) :
    ∃ vs, VRs M ys vs ∧ vs.length = n * m ∧ Lends P w m v n vs := by
  unfold lendA at hl
  split at hl
  · cases hl
    simp only [VR] at hv
    subst hv
    exact ⟨[], VRs.nil, by simp, lends_nil⟩
  · cases hl
    simp only [VR] at hv
    obtain ⟨⟨r, ofs, sp⟩, c, rfl⟩ := hv
    refine ⟨[], VRs.nil, by simp, fun d => ⟨by simp [Builtin.lenOf], ?_⟩⟩
    simp [Builtin.firstCells, loadCells, loadCellsFrom]
  · rename_i l
    cases hm : Nat.beq m 1 with
    | false => rw [hm] at hl; cases hl
    | true =>
      rw [hm] at hl; cases hl
      obtain rfl := Nat.eq_of_beq_eq_true hm
      simp only [VR] at hv
      obtain ⟨rfl, hb⟩ := hv
      refine ⟨l.map (fun n => Value.int .u8 (.ofNat n)), vrs_ofbytes M l, by simp, ?_⟩
      rw [← strOf_size l]
      refine lends_string _ _ ?_
      simp only [strOf, List.map_map]
      apply List.map_congr_left
      intro x hx
      simp [Nat.mod_eq_of_lt (blt256 hb x hx)]
  · rename_i j ofs m' n' cp
    cases hm : Nat.beq m' m with
    | false => rw [hm] at hl; cases hl
    | true =>
      rw [hm] at hl
      obtain rfl := Nat.eq_of_beq_eq_true hm
      simp only [cond_true] at hl
      split at hl
      · rename_i cs hc
        obtain ⟨ob, hob, hc⟩ := Option.bind_eq_some_iff.1 hc
        cases hb : Nat.ble (ofs + n' * m') cs.length with
        | false => rw [hb] at hl; cases hl
        | true =>
          rw [hb] at hl; cases hl
          simp only [VR] at hv
          obtain ⟨B, c', hB, rfl, _⟩ := hv
          obtain ⟨B', q, hB', hO, hs'⟩ := hp_out hs hob
          rw [hB] at hB'; cases hB'
          obtain ⟨arr, T, fz, rfl, hcs⟩ := rdC_ok hc hO
          obtain ⟨vs, h1, h2, h3⟩ := cells_row hcs (Nat.le_of_ble_eq_true hb)
          exact ⟨vs, h1, h2, lends_row h2 (fun j v hj => cell_of (hs'.obj 0 rfl) (h3 j v hj))⟩
      · cases hl
  · cases hl

def isSS : TypeDesc → Bool
  | .slice _ => true
  | .string => true
  | _ => false
theorem isSS_ok {d : TypeDesc} (h : isSS d = true) : (∃ E, d = .slice E) ∨ d = .string := by
  cases d <;> simp [isSS] at h ⊢

/-- nothing is appended -/
theorem d_append0 {E : TypeId} {ts : Array TypeId} {t1 m na ca : Nat} {a : Option Addr} {yv : Value} {u1 : TypeDesc}
    (hl : Lends P w m yv 0 []) (ho : o.op = .call ⟨.builtin .append, #[x, y], ts⟩) (hxv : Sl.ev e x = .slice a na ca) (hyv : Sl.ev e y = yv) (hle : na ≤ ca)
    (h0 : ts[0]? = some t) (ht : P.underlying t = some (.slice E)) (h1 : ts[1]? = some t1) (ht1 : P.underlying t1 = some u1) (hu : (∃ E1, u1 = .slice E1) ∨ u1 = .string) (hm : ∀ w, (sizeOf E).run P w = .ok m w)
    (h : K (.slice a na ca) w) : Does P o e w K := by
  have hp : ∀ {α : Type} (x : α) (w : World), Sem.run P (pure x) w = .ok x w := fun _ _ => rfl
  have hF : ¬ (false = true) := by simp
  have hr : (Builtin.append_ ts o.type #[.slice a na ca, yv]).run P w = .ok (.slice a na ca) w := by
    rcases hu with ⟨E1, rfl⟩ | rfl
    all_goals
      unfold Builtin.append_
      simp only [h0, h1, List.getElem?_toArray, List.getElem?_cons_zero, List.getElem?_cons_succ, Sem.run_bind, run_underlying ht, run_underlying ht1, hm, Result.andThen, hp, if_neg hF, (hl w.drawn).1, Nat.add_zero, if_pos hle, Bool.not_false, if_true, (hl w.drawn).2]
      cases a with
      | none => simp only [hp]
      | some ad => simp only [storeCells, Sem.run_bind, hp, Result.andThen]
  refine d_val ?_ h
  have hm2 : Array.map (Sl.ev e) #[x, y] = #[.slice a na ca, yv] := by simp [hxv, hyv]
  simp only [execOp, ho, resolve, Sem.run_bind, hp, Result.andThen, invoke, builtin, hm2, hr]

def bigOk (n b : Nat) : Bool := Nat.ble (n * b) 1099511627776 && Nat.blt n 4611686018427387904

def appA (X : Tr TI) (ae : List (Nat × AV)) (s : St) (op : Op) : Option (AV × St) :=
  match op with
  | .call ⟨.builtin .append, xs, ts⟩ => match xs.toList with
    | [x, y] => match opnd ae x with
      | some a => match opnd ae y with
        | some b => match ts[0]? with
          | some t => match ts[1]? with
            | some t1 => match X.get t with
              | some ti => match X.get t1 with
                | some ti1 => match ti.und with
                  | .slice E => match X.get E with
                    | some ei => bif isSS ti1.und then (match lendA s.h ei.size b with
                      | some (_, 0) => (match a with
                        | .nils => some (a, s)
                        | .slice _ _ _ _ _ => some (a, s)
                        | _ => none)
                      | some (_, _ + 1) => (match a with
                        | .nils => (match lendA s.h ei.size b with
                          | some (ys, n) => bif bigOk n ei.bytes && ys.all oneA then some (.slice s.nx 0 ei.size n none, newCells s ys E) else none
                          | none => none)
                        | .slice i o m k _ => (match s.h.get i with
                          | some (.cells cs T) => (match lendA (s.h.put i none) ei.size b with
                            | some (ys, n) => bif Nat.beq T E && Nat.beq m ei.size && Nat.ble (o + k * m) cs.length && bigOk (k + n) ei.bytes && ys.all oneA && Nat.blt 0 n then
                                some (.slice s.nx 0 m (k + n) none, ⟨(s.h.put i none).put s.nx (some (.cells ((cs.drop o).take (k * m) ++ ys) E)), s.nx + 1, s.k⟩) else none
                            | none => none)
                          | _ => none)
                        | _ => none)
                      | none => none) else none
                    | none => none
                  | _ => none
                | none => none
              | none => none
            | none => none
          | none => none
        | none => none
      | none => none
    | _ => none
  | _ => none

theorem appA_ok (hX : Types P X) (hXz : ∀ t ti, X.get t = some ti → ti.zero.cells.size = ti.size) (he : EnvR M ae e) (hI : Inv M s w L) {r : AV × St} (h : appA X ae s o.op = some r) (hK : Eff M r L K) : Does P o e w K := by
  unfold appA at h
  split at h
  · rename_i xs ts ho
    split at h
    · rename_i x y hxs
      have ho' : o.op = .call ⟨.builtin .append, #[x, y], ts⟩ := by rw [ho]; congr 2; exact Array.ext' hxs
      split at h
      · rename_i a ha
        have ha' := opnd_ok he ha
        split at h
        · rename_i b hb
          have hb' := opnd_ok he hb
          split at h
          · rename_i t h0
            split at h
            · rename_i t1 h1
              split at h
              · rename_i ti hti
                split at h
                · rename_i ti1 hti1
                  split at h
                  · rename_i E hE
                    have ht : P.underlying t = some (.slice E) := by rw [← hE]; exact (hX _ _ hti).und
                    split at h
                    · rename_i ei hei
                      have hT := hX _ _ hei
                      obtain ⟨tinf, hi1, hi2⟩ := hT.info
                      cases hss : isSS ti1.und with
                      | false => rw [hss] at h; cases h
                      | true =>
                        rw [hss] at h
                        simp only [cond_true] at h
                        have hu := isSS_ok hss
                        split at h
                        · rename_i ys hl
                          obtain ⟨vs, v1, v2, v3⟩ := lendA_ok (P := P) hI.sat hb' hl
                          obtain rfl : vs = [] := by simpa using v2
                          split at h
                          · cases h
                            have ha2 := ha'
                            simp only [VR] at ha2
                            exact d_append0 v3 ho' ha2 rfl (Nat.le_refl _) h0 ht h1 (hX _ _ hti1).und hu hT.size (hK M _ w (Nm.le.refl M) (by rw [← ha2]; exact ha') hI)
                          · cases h
                            have ha2 := ha'
                            simp only [VR] at ha2
                            obtain ⟨B, c', _, hv, hle, _⟩ := ha2
                            exact d_append0 v3 ho' hv rfl hle h0 ht h1 (hX _ _ hti1).und hu hT.size (hK M _ w (Nm.le.refl M) (by rw [← hv]; exact ha') hI)
                          · cases h
                        · rename_i ys0 n0 hl0
                          split at h
                          · split at h
                            · rename_i ys n hl
                              rw [hl0] at hl
                              generalize hcnd : (bigOk n ei.bytes && ys.all oneA) = cnd at h
                              cases cnd with
                              | false => cases h
                              | true =>
                                cases h
                                cases hl
                                simp only [Bool.and_eq_true, bigOk] at hcnd
                                obtain ⟨⟨q1, q2⟩, q3⟩ := hcnd
                                have q1 := Nat.le_of_ble_eq_true q1
                                have q2 : n0 + 1 < 4611686018427387904 := Nat.le_of_ble_eq_true q2
                                obtain ⟨vs, v1, v2, v3⟩ := lendA_ok (P := P) hI.sat hb' hl0
                                simp only [VR] at ha'
                                have hs0 : Sat w (Sl.sl ei.size E none 0 0 [] :: hp M s.h.get :: old s.k.W :: L) := sat_pur.2 ⟨⟨rfl, rfl, rfl⟩, hI.sat⟩
                                refine d_append (k := 0) (n := n0 + 1) (n' := n0 + 1) (zs := vs) v3 v2 hs0 rfl ho' ha' rfl h0 ht h1 (hX _ _ hti1).und hu hT.size hi1 hi2 hT.zero (hXz _ _ hei) (by rw [Nat.zero_add]; exact Nat.le_trans q1 (by decide)) (by omega) (onesA_ok v1 q3) (by omega) (by simp) (fun a' c' w' hs' => ?_)
                                simp only [List.set_cons_zero] at hs'
                                obtain ⟨M', p1, p2, p3⟩ := sl_new hI hs' (hI.lack (Nat.le_refl _)) v1 (.inl (by omega)) (cap := none) (by simp)
                                exact hK M' _ w' p1 p2 p3
                            · cases h
                          · rename_i i ofs m k cp
                            split at h
                            · rename_i cs T hc
                              split at h
                              · rename_i ys n hl
                                generalize hcnd : (Nat.beq T E && Nat.beq m ei.size && Nat.ble (ofs + k * m) cs.length && bigOk (k + n) ei.bytes && ys.all oneA && Nat.blt 0 n) = cnd at h
                                cases cnd with
                                | false => cases h
                                | true =>
                                  cases h
                                  simp only [Bool.and_eq_true, bigOk] at hcnd
                                  obtain ⟨⟨⟨⟨⟨q1, q2⟩, q3⟩, q4, q5⟩, q6⟩, q7⟩ := hcnd
                                  obtain rfl := Nat.eq_of_beq_eq_true q1
                                  have q2 := Nat.eq_of_beq_eq_true q2
                                  subst q2
                                  have q3 := Nat.le_of_ble_eq_true q3
                                  have q4 := Nat.le_of_ble_eq_true q4
                                  have q5 : k + n < 4611686018427387904 := Nat.le_of_ble_eq_true q5
                                  have q7 : 0 < n := Nat.le_of_ble_eq_true q7
                                  simp only [VR] at ha'
                                  obtain ⟨B, c', hB, hv, hle, hsz, _⟩ := ha'
                                  obtain ⟨B', q, hB', hO, hs⟩ := hI.outb hc
                                  rw [hB] at hB'; cases hB'
                                  obtain ⟨arr, rfl, hasz, hcs⟩ := hO
                                  obtain ⟨us, u1, u2, u3⟩ := cells_row hcs q3
                                  obtain ⟨vs, v1, v2, v3⟩ := lendA_ok (P := P) (L := obj B.b (.cells arr T (0, 0)) :: old s.k.W :: L) (hs.perm (List.Perm.swap _ _ _)) hb' hl
                                  have hs1 := hs.mkSl (k := 0) (m := ei.size) (E := T) (n := k) (c := c') (ofs := B.base + ofs) (xs := us) (arr := arr) rfl u2 hle (by rw [hasz]; exact hsz) u3
                                  simp only [List.set_cons_zero] at hs1
                                  refine d_append (k := 0) (n := n) (n' := k + n) (zs := us ++ vs) v3 v2 hs1 rfl ho' hv rfl h0 ht h1 (hX _ _ hti1).und hu hT.size hi1 hi2 hT.zero (hXz _ _ hei) (by omega) (by omega) (onesA_ok v1 q6) rfl rfl (fun a' c'' w' hs' => ?_)
                                  simp only [List.set_cons_zero] at hs'
                                  have hln : (s.h.put i none).get s.nx = none := by
                                    rw [Tr.get_put]
                                    unfold upd
                                    split
                                    · rfl
                                    · exact hI.lack (Nat.le_refl _)
                                  obtain ⟨M', p1, p2, p3⟩ := sl_new hI hs' hln (VRs.append u1 v1) (.inl (by omega)) (cap := none) (by simp)
                                  exact hK M' _ w' p1 p2 p3
                              · cases h
                            · cases h
                          · cases h
                        · cases h
                    · cases h
                  · cases h
                · cases h
              · cases h
            · cases h
          · cases h
        · cases h
      · cases h
    · cases h
  · cases h
end
end Go.Ev
/- General words for running code of which all is known: more operations. No program. -/
namespace Go.Ev
open Go Go.Sl
noncomputable section
variable {P : Program} {X : Tr TI} {M : Nm} {ae : List (Nat × AV)} {e : Env} {o : Oper} {x y z : Operand} {t u : TypeId} {w : World} {L : List HP} {s : St} {K : Value → World → Prop}

theorem vrs_map {α : Type} {f : α → AV} {g : α → Value} (h : ∀ x, VR M (f x) (g x)) : ∀ (l : List α), VRs M (l.map f) (l.map g)
  | [] => VRs.nil
  | x :: l => by simp only [List.map_cons]; exact VRs.cons (h x) (vrs_map h l)

def zeroAt (z : List AV) (i : Nat) : AV := z.getD (i % z.length) (.tup [])

theorem run_bs0 {E : TypeId} {m n : Nat} (ho : o.op = .buildSlice t n #[]) (ht : P.underlying t = some (.slice E)) (hm : ∀ w, (sizeOf E).run P w = .ok m w) (h0 : n * m = 0) (hs : Sat w L)
    (h : ∀ r w', Sat w' (obj r (.cells #[] E) :: L) → K (.slice (some ⟨r, 0, none⟩) n n) w') : Does P o e w K := by
  refine d_val (w' := { w with heap := w.heap.push (.cells #[] E) }) (v := .slice (some ⟨w.heap.size, 0, none⟩) n n) ?_ (h _ _ (hs.new _))
  have hp : ∀ (a : Array Value) (w : World), Sem.run P (pure a) w = .ok a w := fun _ _ => rfl
  simp only [execOp, ho, Instr.buildSlice, Sem.run_bind, hm, Result.andThen, run_underlying ht, h0]
  simp [newRow, newObj, Sem.run, Result.andThen, go_sem, Instr.fill]

def makeA (X : Tr TI) (ae : List (Nat × AV)) (s : St) (op : Op) : Option (AV × St) :=
  match op with
  | .buildSlice t n ps => match X.get t with
    | some ti => match ti.und with
      | .slice E => match X.get E with
        | some ei => match ps.toList with
          | [] => bif Nat.beq n 0 then some (.slice s.nx 0 ei.size 0 (some 0), newCells s [] E) else none
          | p :: pl => match zeroA ei.zero with
            | some z => match partsA ae (p :: pl) with
              | some l => bif Nat.ble (n * ei.size) (2 ^ 24) && Nat.blt 0 (n * ei.size) then (match fillA (fun i => some (i * ei.size, ei.size)) ((List.range (n * ei.size)).map (zeroAt z)) l with
                | some c => some (.slice s.nx 0 ei.size n (some n), newCells s c E)
                | none => none) else none
              | none => none
            | none => none
        | none => none
      | _ => none
    | none => none
  | .makeSlice t x y => match opnd ae x with
    | some (.int _ (.ofNat l)) => match opnd ae y with
      | some (.int _ (.ofNat c)) => match X.get t with
        | some ti => match ti.und with
          | .slice E => match X.get E with
            | some ei => match zeroA ei.zero with
              | some z => bif Nat.ble l c && bigOk c ei.bytes && Nat.blt 0 ei.size && Nat.blt 0 c then some (.slice s.nx 0 ei.size l (some c), newCells s ((List.range l).flatMap fun _ => z) E) else none
              | none => none
            | none => none
          | _ => none
        | none => none
      | _ => none
    | _ => none
  | .call ⟨.builtin .copy, xs, ts⟩ => match xs.toList with
    | [x, y] => match opnd ae x with
      | some (.slice i o m k _cp) => match opnd ae y with
        | some b => match ts[0]? with
          | some t => match X.get t with
            | some ti => match ti.und with
              | .slice E => match X.get E with
                | some ei => match s.h.get i with
                  | some (.cells cs T) => match lendA (s.h.put i none) m b with
                    | some (ys, n) => bif Nat.beq m ei.size && Nat.ble n k && Nat.ble (o + k * m) cs.length && ys.all oneA && Nat.blt 0 (k * m) then some (.int .i64 (.ofNat n), ⟨s.h.put i (some (.cells (wrA cs o ys) T)), s.nx, s.k⟩) else none
                    | none => none
                  | _ => none
                | none => none
              | _ => none
            | none => none
          | none => none
        | none => none
      | _ => none
    | _ => none
  | .convert sT dT x => match opnd ae x with
    | some (.str l) => match X.get sT with
      | some si => match X.get dT with
        | some di => match si.und, di.und with
          | .string, .slice E => match X.get E with
            | some ei => match ei.und with
              | .int .u8 => some (.slice s.nx 0 1 l.length none, ⟨s.h.put s.nx (some (.ro (l.map (fun n => .int .u8 (.ofNat n))))), s.nx + 1, s.k⟩)
              | _ => none
            | none => none
          | _, _ => none
        | none => none
      | none => none
    | _ => none
  | _ => none

theorem d_copyA {E : TypeId} {B : Blk} {T : TypeId} {arr : Array Value} {ofs nd c m n : Nat} {yv : Value} {ys : List Value} {ts : Array TypeId} {L' : List HP} (hl : Lends P w m yv n ys) (_hyl : ys.length = n * m) (hs : Sat w (obj B.b (.cells arr T (0, 0)) :: L'))
    (ho : o.op = .call ⟨.builtin .copy, #[x, y], ts⟩) (hx : Sl.ev e x = .slice (some ⟨B.b, ofs, none⟩) nd c) (hy : Sl.ev e y = yv) (h0 : ts[0]? = some t) (ht : P.underlying t = some (.slice E)) (hm : ∀ w, (sizeOf E).run P w = .ok m w) (hle : n ≤ nd) (hone : ys.all one = true)
    (hfit : ofs + ys.length ≤ arr.size) (h : ∀ w', Sat w' (obj B.b (.cells (writeAt arr ofs ys) T (0, 0)) :: L') → K (.int .i64 n) w') : Does P o e w K := by
  have hlen := (hl w.drawn).1
  have hcell := (hl w.drawn).2
  have hmin : n.min nd = n := Nat.min_eq_left hle
  have hm2 : Array.map (Sl.ev e) #[x, y] = #[.slice (some ⟨B.b, ofs, none⟩) nd c, yv] := by simp [hx, hy]
  obtain ⟨w', q1, q2, q3, q4, q5, q6⟩ := run_storeCells (P := P) ys (w := w) (r := B.b) (c := arr) (U := T) (ofs := ofs) (i := 0) (hs.obj 0 rfl) (by omega) (fun v hv => List.all_eq_true.1 hone v hv)
  refine d_val (w' := w') ?_ (h w' ?_)
  · simp only [execOp, ho, resolve, Sem.run_bind, hpure, Result.andThen, invoke, builtin, hm2, Builtin.copy_, h0, List.getElem?_toArray, List.getElem?_cons_zero, List.getElem?_cons_succ, run_underlying ht, hlen, hmin, hm, hcell, goInt, q1]
  · have hw := hs.write 0 rfl q2 q3 q4 q5 q6
    simpa only [List.set_cons_zero, Nat.add_zero] using hw

theorem ba_size (b : ByteArray) : b.size = b.data.size := rfl
theorem d_bytes {sT dT E : TypeId} {b : ByteArray} (ho : o.op = .convert sT dT x) (hs : P.underlying sT = some .string) (hd : P.underlying dT = some (.slice E)) (hE : P.underlying E = some (.int .u8)) (hx : Sl.ev e x = .string b) (hS : Sat w L)
    (h : ∀ r arr w' fz, Sat w' (obj r (.cells arr E fz) :: L) → arr.toList.take b.size = b.data.toList.map (fun b => Value.int .u8 b.toNat) → b.size ≤ arr.size → K (.slice (some ⟨r, 0, none⟩) b.size arr.size) w') : Does P o e w K := by
  generalize hnc : (Question.appendCap b.size 0 E).cut (w.tape w.drawn (.appendCap b.size 0 E)) = c
  have hge : b.size ≤ c := by rw [← hnc]; simp only [Question.cut]; omega
  have hch : Sem.run P (choose (.appendCap b.size 0 E)) w = .ok c { w with drawn := w.drawn + 1 } := by
    simp [choose, Sem.run, Question.forced, hnc]
  have harr : ∃ arr : Array Value, arr = ((b.data.map fun b => .int .u8 b.toNat) ++ Array.replicate (c - b.size) (.int .u8 0)) ∧ arr.size = c ∧ arr.toList.take b.size = b.data.toList.map (fun b => Value.int .u8 b.toNat) := by
    refine ⟨_, rfl, ?_, ?_⟩
    · have := ba_size b; simp; omega
    · rw [Array.toList_append, List.take_append_of_le_length (by rw [ba_size]; simp)]
      rw [List.take_of_length_le (by rw [ba_size]; simp)]
      simp
  obtain ⟨arr, harr, hsz, htk⟩ := harr
  have h1 := (hS.drawn (w.drawn + 1)).new (.cells arr E)
  have h2 := h1.write (w' := ({ w with drawn := w.drawn + 1, heap := w.heap.push (.cells arr E) } : World).freeze ⟨w.heap.size, arr.size, none⟩ 1) (k := 0) (r := w.heap.size) (o' := .cells arr E (arr.size, arr.size + 1)) rfl
    (by simp [World.freeze, Array.getElem_modify]) (fun b hb => by simp [World.freeze, Array.getElem?_modify, Ne.symm hb]) rfl rfl (by simp [World.freeze])
  simp only [List.set_cons_zero] at h2
  have := h _ arr _ _ h2 htk (by rw [hsz]; exact hge)
  refine d_val ?_ this
  rw [hsz]
  simp only [execOp, ho, hx, convert, Sem.run_bind, run_underlying hs, run_underlying hd, run_underlying hE, Result.andThen, Conv.stringToBytes, hch, ← harr]
  simp only [newRow, newObj, Sem.run, Sem.run_bind, Result.andThen, markStringish, shape, World.shape?, Array.getElem?_push_size, freeze, hpure]
  rw [hsz]

theorem makeA_ok (hX : Types P X) (hXz : ∀ t ti, X.get t = some ti → ti.zero.cells.size = ti.size) (he : EnvR M ae e) (hI : Inv M s w L) {r : AV × St} (h : makeA X ae s o.op = some r) (hK : Eff M r L K) : Does P o e w K := by
  unfold makeA at h
  split at h
  · rename_i t n ps ho
    split at h
    · rename_i ti hti
      split at h
      · rename_i E hE
        have ht : P.underlying t = some (.slice E) := by rw [← hE]; exact (hX _ _ hti).und
        split at h
        · rename_i ei hei
          split at h
          · rename_i hps
            cases hn : Nat.beq n 0 with
            | false => rw [hn] at h; cases h
            | true =>
             rw [hn] at h
             cases h
             obtain rfl := Nat.eq_of_beq_eq_true hn
             have hps' : ps = #[] := Array.ext' hps
             subst hps'
             refine run_bs0 ho ht (hX _ _ hei).size (by simp) hI.sat (fun q w' hs => ?_)
             obtain ⟨M', h1, h2, h3⟩ := hI.newb hs (hI.lack (Nat.le_refl _)) (.cells [] E) ⟨q, 0, 0⟩ rfl (fun M' _ _ => ⟨#[], rfl, rfl, fun j a hj => by simp at hj⟩)
             exact hK M' _ w' h1 (by simp only [VR]; exact ⟨_, 0, h2, rfl, Nat.le_refl _, by simp, by simp⟩) h3
          · rename_i p pl hps
            rw [← hps] at h
            split at h
            · rename_i z hz
              split at h
              · rename_i l hl
                generalize hcnd : (Nat.ble (n * ei.size) (2 ^ 24) && Nat.blt 0 (n * ei.size)) = cnd at h
                cases cnd with
                | false => cases h
                | true =>
                  simp only [cond_true] at h
                  simp only [Bool.and_eq_true] at hcnd
                  split at h
                  · rename_i c hc
                    cases h
                    have hpos : 0 < n * ei.size := Nat.le_of_ble_eq_true hcnd.2
                    obtain ⟨p1, p2⟩ := partsA_ok he hl
                    have hz' := zeroA_ok hz M
                    have hzl : z.length = ei.size := by rw [← hz'.length, ← hXz _ _ hei]; simp
                    have hzr : VRs M ((List.range (n * ei.size)).map (zeroAt z)) ((List.range (n * ei.size)).map (fun i => ei.zero.cells.toList.getD (i % ei.zero.cells.toList.length) default)) := by
                      refine vrs_map (fun i => ?_) _
                      unfold zeroAt
                      have hm : ei.zero.cells.toList.length = z.length := hz'.length
                      rw [hm]
                      have hpm : 0 < ei.size := by rcases Nat.eq_zero_or_pos ei.size with h0 | h0; · rw [h0] at hpos; simp at hpos
                                                   · exact h0
                      have hlt : i % z.length < z.length := Nat.mod_lt _ (by omega)
                      obtain ⟨v, v1, v2⟩ := hz'.get (List.getElem?_eq_getElem hlt)
                      rw [List.getD_eq_getElem?_getD, List.getD_eq_getElem?_getD, v1, List.getElem?_eq_getElem hlt]
                      exact v2
                    obtain ⟨rc, r1, r2⟩ := fillA_ok (zc := ((List.range (n * ei.size)).map (fun i => ei.zero.cells.toList.getD (i % ei.zero.cells.toList.length) default)).toArray) hzr p1 p2 hc
                    refine d_buildSlice ho ht (hX _ _ hei).size (hX _ _ hei).zero rfl hcnd.1 (by
                      cases hq : Nat.beq (n * ei.size) 0 with
                      | false => rfl
                      | true => have := Nat.eq_of_beq_eq_true hq; omega) r1 hI.sat (fun q w' hs => ?_)
                    obtain ⟨M', h1, h2, h3⟩ := hI.newb hs (hI.lack (Nat.le_refl _)) (.cells c E) ⟨q, 0, _⟩ rfl (fun M' hle _ => cells_new (r2.mono hle))
                    have hrs : rc.size = n * ei.size := by
                      have a1 := r2.length
                      have : c.length = n * ei.size := by
                        have := fillA_len hc
                        rw [this]; simp
                      simpa [this] using a1
                    exact hK M' _ w' h1 (by simp only [VR]; exact ⟨_, n, h2, rfl, Nat.le_refl _, by simp [hrs], by simp⟩) h3
                  · cases h
              · cases h
            · cases h
        · cases h
      · cases h
    · cases h
  · rename_i t x y ho
    split at h
    · rename_i kx l hx
      have hx' := opnd_ok he hx
      simp only [VR] at hx'
      split at h
      · rename_i ky c hy
        have hy' := opnd_ok he hy
        simp only [VR] at hy'
        split at h
        · rename_i ti hti
          split at h
          · rename_i E hE
            split at h
            · rename_i ei hei
              split at h
              · rename_i z hz
                generalize hcnd : (Nat.ble l c && bigOk c ei.bytes && Nat.blt 0 ei.size && Nat.blt 0 c) = cnd at h
                cases cnd with
                | false => cases h
                | true =>
                  cases h
                  simp only [Bool.and_eq_true, bigOk] at hcnd
                  obtain ⟨⟨⟨q1, q2, q3⟩, q4⟩, q5⟩ := hcnd
                  have q1 := Nat.le_of_ble_eq_true q1
                  have q2 := Nat.le_of_ble_eq_true q2
                  have q3 : c < 4611686018427387904 := Nat.le_of_ble_eq_true q3
                  have q4 : 0 < ei.size := Nat.le_of_ble_eq_true q4
                  have q5 : 0 < c := Nat.le_of_ble_eq_true q5
                  obtain ⟨tinf, hi1, hi2⟩ := (hX _ _ hei).info
                  have hz' := zeroA_ok hz M
                  refine d_make ho (by rw [← hE]; exact (hX _ _ hti).und) hx' hy' (hX _ _ hei).size hi1 hi2 (hX _ _ hei).zero (hXz _ _ hei) q1 (Nat.le_trans q2 (by decide)) (by omega) q4 hI.sat (fun a w' hs => ?_)
                  have hfl : VRs M ((List.range l).flatMap fun _ => z) ((List.range l).flatMap fun _ => ei.zero.cells.toList) := by
                    generalize List.range l = rl
                    induction rl with
                    | nil => exact VRs.nil
                    | cons i rl ih => simp only [List.flatMap_cons]; exact VRs.append hz' ih
                  obtain ⟨M', p1, p2, p3⟩ := sl_new hI hs (hI.lack (Nat.le_refl _)) hfl (.inr q5) (cap := some c) (by simp)
                  exact hK M' _ w' p1 p2 p3
              · cases h
            · cases h
          · cases h
        · cases h
      · cases h
    · cases h
  · rename_i xs ts ho
    split at h
    · rename_i x y hxs
      have ho' : o.op = .call ⟨.builtin .copy, #[x, y], ts⟩ := by rw [ho]; congr 2; exact Array.ext' hxs
      split at h
      · rename_i i ofs m k cp hx
        have hx' := opnd_ok he hx
        simp only [VR] at hx'
        obtain ⟨B, c', hB, hv, hle, hsz, _⟩ := hx'
        split at h
        · rename_i b hb
          have hb' := opnd_ok he hb
          split at h
          · rename_i t h0
            split at h
            · rename_i ti hti
              split at h
              · rename_i E hE
                split at h
                · rename_i ei hei
                  split at h
                  · rename_i cs T hc
                    split at h
                    · rename_i ys n hl
                      generalize hcnd : (Nat.beq m ei.size && Nat.ble n k && Nat.ble (ofs + k * m) cs.length && ys.all oneA && Nat.blt 0 (k * m)) = cnd at h
                      cases cnd with
                      | false => cases h
                      | true =>
                        cases h
                        simp only [Bool.and_eq_true] at hcnd
                        obtain ⟨⟨⟨⟨q1, q2⟩, q3⟩, q4⟩, q5⟩ := hcnd
                        have q1 := Nat.eq_of_beq_eq_true q1
                        subst q1
                        have q2 := Nat.le_of_ble_eq_true q2
                        have q3 := Nat.le_of_ble_eq_true q3
                        have q5 : 0 < k * ei.size := Nat.le_of_ble_eq_true q5
                        obtain ⟨B', q, hB', hO, hs⟩ := hI.outb hc
                        rw [hB] at hB'; cases hB'
                        obtain ⟨arr, rfl, hasz, hcs⟩ := hO
                        obtain ⟨vs, v1, v2, v3⟩ := lendA_ok (P := P) (L := obj B.b (.cells arr T (0, 0)) :: old s.k.W :: L) (hs.perm (List.Perm.swap _ _ _)) hb' hl
                        have hnk : n * ei.size ≤ k * ei.size := Nat.mul_le_mul_right _ q2
                        have hbd := cellsR_bound hcs (by omega)
                        have hvl := v1.length
                        refine d_copyA (K := K) v3 v2 hs ho' hv rfl h0 (by rw [← hE]; exact (hX _ _ hti).und) (hX _ _ hei).size q2 (onesA_ok v1 q4) (by omega) (fun w' hs' => ?_)
                        rw [Tr.get_put] at hs'
                        exact hK M _ w' (Nm.le.refl M) (vri M _ _) (hI.updb hB hs' ⟨_, rfl, by rw [writeAt_size]; exact hasz, cellsR_write hcs v1 (by omega) (by omega)⟩)
                    · cases h
                  · cases h
                · cases h
              · cases h
            · cases h
          · cases h
        · cases h
      · cases h
    · cases h
  · rename_i sT dT x ho
    split at h
    · rename_i l hx
      have hx' := opnd_ok he hx
      simp only [VR] at hx'
      split at h
      · rename_i si hsi
        split at h
        · rename_i di hdi
          split at h
          · rename_i E e1 e2
            split at h
            · rename_i ei hei
              split at h
              · rename_i e3
                cases h
                refine d_bytes ho (by rw [← e1]; exact (hX _ _ hsi).und) (by rw [← e2]; exact (hX _ _ hdi).und) (by rw [← e3]; exact (hX _ _ hei).und) hx'.1 hI.sat (fun q arr w' fz hs h1 h2 => ?_)
                have hsz : (strOf l).size = l.length := strOf_size l
                obtain ⟨M', p1, p2, p3⟩ := hI.newb hs (hI.lack (Nat.le_refl _)) (.ro (l.map (fun n => .int .u8 (.ofNat n)))) ⟨q, 0, arr.size⟩ rfl (fun M' _ _ => ⟨arr, _, _, rfl, rfl, fun j a hj => by
                  have hv := (vrs_ofbytes M' l).get hj
                  obtain ⟨v, v1, v2⟩ := hv
                  refine ⟨v, ?_, v2⟩
                  have hjl : j < l.length := by
                    rcases Nat.lt_or_ge j l.length with h' | h'
                    · exact h'
                    · rw [List.getElem?_eq_none (by simpa using h')] at hj; cases hj
                  have h3 := congrArg (fun l => l[j]?) h1
                  simp only [List.getElem?_take, hsz, if_pos hjl, Array.getElem?_toList] at h3
                  rw [Nat.zero_add, h3, ← v1]
                  simp only [strOf, List.getElem?_map, List.getElem?_eq_getElem hjl, Option.map_some]
                  simp [Nat.mod_eq_of_lt (blt256 hx'.2 _ (List.getElem_mem hjl))]⟩)
                refine hK M' _ w' p1 ?_ p3
                rw [hsz]
                simp only [VR]
                exact ⟨_, arr.size, p2, rfl, by rw [← hsz]; exact h2, by simp, by simp⟩
              · cases h
            · cases h
          · cases h
        · cases h
      · cases h
    · cases h
  · cases h
end
end Go.Ev
/- General words for running code of which all is known: operations that only reckon, the rest. No program. -/
namespace Go.Ev
open Go Go.Sl
noncomputable section
variable {P : Program} {X : Tr TI} {M : Nm} {ae : List (Nat × AV)} {e : Env} {o : Oper} {x y : Operand} {t u : TypeId}

def isIface : TypeDesc → Bool
  | .interface _ => true
  | _ => false

/-- what only reckons, the rest -/
def pure2A (X : Tr TI) (ae : List (Nat × AV)) (op : Op) : Option AV :=
  match op with
  | .indexAddr t x y => match opnd ae x with
    | some (.ptr i o) => match opnd ae y with
      | some (.int _ (.ofNat j)) => match X.get t with
        | some ti => match ti.und with
          | .array n E => match X.get E with
            | some ei => bif Nat.blt j n then some (.ptr i (o + j * ei.size)) else none
            | none => none
          | _ => none
        | none => none
      | _ => none
    | some (.gptr i o) => match opnd ae y with
      | some (.int _ (.ofNat j)) => match X.get t with
        | some ti => match ti.und with
          | .array n E => match X.get E with
            | some ei => bif Nat.blt j n then some (.gptr i (o + j * ei.size)) else none
            | none => none
          | _ => none
        | none => none
      | _ => none
    | _ => none
  | .index t x y => match opnd ae x with
    | some (.agg l) => match opnd ae y with
      | some (.int _ (.ofNat j)) => match X.get t with
        | some ti => match ti.und with
          | .array n E => match X.get E with
            | some ei => bif Nat.blt j n then (bif ei.agg then (bif Nat.ble (j * ei.size + ei.size) l.length then some (.agg ((l.drop (j * ei.size)).take ei.size)) else none) else l[j * ei.size]?) else none
            | none => none
          | _ => none
        | none => none
      | _ => none
    | _ => none
  | .makeInterface t x => match opnd ae x with
    | some a => match X.get t with
      | some ti => bif isIface ti.und then none else some (.iface t a)
      | none => none
    | none => none
  | .typeAssert x _ u ok => match opnd ae x with
    | some (.iface t a) => match X.get u with
      | some ti => bif Nat.beq t u && !isIface ti.und then some (bif ok then .tup [a, .bool true] else a) else none
      | none => none
    | _ => none
  | .call ⟨.builtin .min, xs, _⟩ => match xs.toList with
    | [x, y] => match opnd ae x with
      | some (.int k m) => match opnd ae y with
        | some (.int _ n) => some (.int k (bif decide (n < m) then n else m))
        | _ => none
      | _ => none
    | _ => none
  | .call ⟨.builtin .max, xs, _⟩ => match xs.toList with
    | [x, y] => match opnd ae x with
      | some (.int k m) => match opnd ae y with
        | some (.int _ n) => some (.int k (bif decide (m < n) then n else m))
        | _ => none
      | _ => none
    | _ => none
  | _ => none

theorem pure2A_ok (hX : Types P X) (he : EnvR M ae e) {a : AV} (h : pure2A X ae o.op = some a) : ∃ v, VR M a v ∧ ∀ w, (execOp (Sl.ev e) o).run P w = .ok (.value v) w := by
  unfold pure2A at h
  split at h
  · rename_i t x y ho
    split at h
    · rename_i i ofs hx
      have hx' := opnd_ok he hx
      simp only [VR] at hx'
      obtain ⟨B, hB, hv⟩ := hx'
      split at h
      · rename_i k j hy
        have hy' := opnd_ok he hy
        simp only [VR] at hy'
        split at h
        · rename_i ti hti
          split at h
          · rename_i n E hE
            have ht : P.underlying t = some (.array n E) := by rw [← hE]; exact (hX _ _ hti).und
            split at h
            · rename_i ei hei
              cases hb : Nat.blt j n with
              | false => rw [hb] at h; cases h
              | true =>
                rw [hb] at h; cases h
                have hjn : j < n := Nat.le_of_ble_eq_true hb
                refine ⟨.pointer (some ⟨B.b, B.base + (ofs + j * ei.size), none⟩), by simp only [VR]; exact ⟨B, hB, rfl⟩, fun w => ?_⟩
                have h1 : (0 : Int) ≤ (j : Int) ∧ (j : Int) < (n : Int) := ⟨Int.natCast_nonneg j, Int.ofNat_lt.2 hjn⟩
                simp only [execOp, ho, hv, hy', Instr.indexAt, asIntOf, Sem.run_bind, hpure, Result.andThen, run_underlying ht, Instr.sureAddr, if_pos h1, (hX _ _ hei).size, add_at, Int.toNat_natCast, Int.ofNat_eq_natCast]
                rw [show B.base + ofs + j * ei.size = B.base + (ofs + j * ei.size) by omega]
            · cases h
          · cases h
        · cases h
      · cases h
    · rename_i i ofs hx
      have hx' := opnd_ok he hx
      simp only [VR] at hx'
      split at h
      · rename_i k j hy
        have hy' := opnd_ok he hy
        simp only [VR] at hy'
        split at h
        · rename_i ti hti
          split at h
          · rename_i n E hE
            have ht : P.underlying t = some (.array n E) := by rw [← hE]; exact (hX _ _ hti).und
            split at h
            · rename_i ei hei
              cases hb : Nat.blt j n with
              | false => rw [hb] at h; cases h
              | true =>
                rw [hb] at h; cases h
                have hjn : j < n := Nat.le_of_ble_eq_true hb
                refine ⟨.pointer (some ⟨i, ofs + j * ei.size, none⟩), by simp only [VR], fun w => ?_⟩
                have h1 : (0 : Int) ≤ (j : Int) ∧ (j : Int) < (n : Int) := ⟨Int.natCast_nonneg j, Int.ofNat_lt.2 hjn⟩
                simp only [execOp, ho, hx', hy', Instr.indexAt, asIntOf, Sem.run_bind, hpure, Result.andThen, run_underlying ht, Instr.sureAddr, if_pos h1, (hX _ _ hei).size, add_at, Int.toNat_natCast, Int.ofNat_eq_natCast]
            · cases h
          · cases h
        · cases h
      · cases h
    · cases h
  · rename_i t x y ho
    split at h
    · rename_i l hx
      have hx' := opnd_ok he hx
      simp only [VR] at hx'
      obtain ⟨vs, hvs, hv⟩ := hx'
      split at h
      · rename_i k j hy
        have hy' := opnd_ok he hy
        simp only [VR] at hy'
        split at h
        · rename_i ti hti
          split at h
          · rename_i n E hE
            have ht : P.underlying t = some (.array n E) := by rw [← hE]; exact (hX _ _ hti).und
            split at h
            · rename_i ei hei
              have hag := (hX _ _ hei).agg
              cases hb : Nat.blt j n with
              | false => rw [hb] at h; cases h
              | true =>
                rw [hb] at h
                simp only [cond_true] at h
                have hjn : j < n := Nat.le_of_ble_eq_true hb
                have h1 : (0 : Int) ≤ (j : Int) ∧ (j : Int) < (n : Int) := ⟨Int.natCast_nonneg j, Int.ofNat_lt.2 hjn⟩
                cases hz : ei.agg with
                | true =>
                  rw [hz] at h hag
                  cases hl : Nat.ble (j * ei.size + ei.size) l.length with
                  | false => rw [hl] at h; cases h
                  | true =>
                    rw [hl] at h; cases h
                    refine ⟨.agg ((vs.drop (j * ei.size)).take ei.size).toArray, by simp only [VR]; exact ⟨_, (hvs.drop _).take _, rfl⟩, fun w => ?_⟩
                    simp only [execOp, ho, hv, hy', Instr.index, asIntOf, Sem.run_bind, hpure, Result.andThen, run_underlying ht, if_pos h1, (hX _ _ hei).size, part, hag, if_true, Int.toNat_natCast, Int.ofNat_eq_natCast]
                    congr 4
                    apply Array.ext'
                    simp
                | false =>
                  rw [hz] at h hag
                  obtain ⟨v, h3, h4⟩ := hvs.get h
                  refine ⟨v, h4, fun w => ?_⟩
                  simp only [execOp, ho, hv, hy', Instr.index, asIntOf, Sem.run_bind, hpure, Result.andThen, run_underlying ht, if_pos h1, (hX _ _ hei).size, part, hag, Bool.false_eq_true, if_false, Int.toNat_natCast, List.getElem?_toArray, h3, Int.ofNat_eq_natCast]
            · cases h
          · cases h
        · cases h
      · cases h
    · cases h
  · rename_i t x ho
    split at h
    · rename_i a' ha
      split at h
      · rename_i ti hti
        cases hi : isIface ti.und with
        | true => rw [hi] at h; cases h
        | false =>
          rw [hi] at h; cases h
          refine ⟨.iface t (Sl.ev e x), by simp only [VR]; exact ⟨_, opnd_ok he ha, rfl⟩, fun w => ?_⟩
          have hu := (hX _ _ hti).und
          simp only [execOp, ho, Instr.makeInterface, Sem.run_bind, run_underlying hu, Result.andThen]
          cases hd : ti.und <;> simp [hd, isIface] at hi <;> simp
      · cases h
    · cases h
  · rename_i x xT u ok ho
    split at h
    · rename_i t a' hx
      have hx' := opnd_ok he hx
      simp only [VR] at hx'
      obtain ⟨v, hva, hv⟩ := hx'
      split at h
      · rename_i ti hti
        generalize hcnd : (Nat.beq t u && !isIface ti.und) = cnd at h
        cases cnd with
        | false => cases h
        | true =>
          simp only [Bool.and_eq_true, Bool.not_eq_true'] at hcnd
          obtain ⟨q1, q2⟩ := hcnd
          obtain rfl := Nat.eq_of_beq_eq_true q1
          have hu := (hX _ _ hti).und
          cases ok with
          | true =>
            cases h
            refine ⟨.tuple #[v, .bool true], by simp only [VR, cond_true]; exact ⟨[v, .bool true], VRs.cons hva (VRs.cons (vrb M true) VRs.nil), rfl⟩, fun w => ?_⟩
            simp only [execOp, ho, hv, Instr.typeAssert, Sem.run_bind, run_underlying hu, Result.andThen]
            cases hd : ti.und <;> simp [hd, isIface] at q2 <;> simp
          | false =>
            cases h
            refine ⟨v, hva, fun w => ?_⟩
            simp only [execOp, ho, hv, Instr.typeAssert, Sem.run_bind, run_underlying hu, Result.andThen]
            cases hd : ti.und <;> simp [hd, isIface] at q2 <;> simp
      · cases h
    · cases h
  · rename_i xs ts ho
    split at h
    · rename_i x y hxs
      have ho' : o.op = .call ⟨.builtin .min, #[x, y], ts⟩ := by rw [ho]; congr 2; exact Array.ext' hxs
      split at h
      · rename_i k m hx
        have hx' := opnd_ok he hx
        simp only [VR] at hx'
        split at h
        · rename_i k' n hy
          have hy' := opnd_ok he hy
          simp only [VR] at hy'
          cases h
          refine ⟨_, vri M _ _, fun w => ?_⟩
          have hm2 : Array.map (Sl.ev e) #[x, y] = #[.int k m, .int k' n] := by simp [hx', hy']
          simp only [execOp, ho', resolve, Sem.run_bind, hpure, Result.andThen, invoke, builtin, hm2, Builtin.min_, List.foldlM_cons, List.foldlM_nil, Builtin.min2]
          by_cases hlt : n < m <;> simp [hlt]
        · cases h
      · cases h
    · cases h
  · rename_i xs ts ho
    split at h
    · rename_i x y hxs
      have ho' : o.op = .call ⟨.builtin .max, #[x, y], ts⟩ := by rw [ho]; congr 2; exact Array.ext' hxs
      split at h
      · rename_i k m hx
        have hx' := opnd_ok he hx
        simp only [VR] at hx'
        split at h
        · rename_i k' n hy
          have hy' := opnd_ok he hy
          simp only [VR] at hy'
          cases h
          refine ⟨_, vri M _ _, fun w => ?_⟩
          have hm2 : Array.map (Sl.ev e) #[x, y] = #[.int k m, .int k' n] := by simp [hx', hy']
          simp only [execOp, ho', resolve, Sem.run_bind, hpure, Result.andThen, invoke, builtin, hm2, Builtin.max_, List.foldlM_cons, List.foldlM_nil, Builtin.max2]
          by_cases hlt : m < n <;> simp [hlt]
        · cases h
      · cases h
    · cases h
  · cases h

/-- what is read, the rest -/
def read2A (X : Tr TI) (ae : List (Nat × AV)) (h : Tr AObj) (op : Op) : Option AV :=
  match op with
  | .call ⟨.builtin .copy, xs, ts⟩ => match xs.toList with
    | [x, y] => match opnd ae x with
      | some a => match opnd ae y with
        | some b => match ts[0]? with
          | some t => match X.get t with
            | some ti => match ti.und with
              | .slice E => match X.get E with
                | some ei => match lendA h ei.size b with
                  | some (_, 0) => (match a with
                    | .nils => some (.int .i64 (.ofNat 0))
                    | .slice _ _ _ _ _ => some (.int .i64 (.ofNat 0))
                    | _ => none)
                  | _ => none
                | none => none
              | _ => none
            | none => none
          | none => none
        | none => none
      | none => none
    | _ => none
  | _ => none

theorem read2A_ok {w : World} {L : List HP} {s : St} (hX : Types P X) (he : EnvR M ae e) (hI : Inv M s w L) {a : AV} (h : read2A X ae s.h o.op = some a) : ∃ v, VR M a v ∧ (execOp (Sl.ev e) o).run P w = .ok (.value v) w := by
  unfold read2A at h
  split at h
  · rename_i xs ts ho
    split at h
    · rename_i x y hxs
      have ho' : o.op = .call ⟨.builtin .copy, #[x, y], ts⟩ := by rw [ho]; congr 2; exact Array.ext' hxs
      split at h
      · rename_i a0 hx
        have hx' := opnd_ok he hx
        split at h
        · rename_i b hb
          have hb' := opnd_ok he hb
          split at h
          · rename_i t h0
            split at h
            · rename_i ti hti
              split at h
              · rename_i E hE
                have ht : P.underlying t = some (.slice E) := by rw [← hE]; exact (hX _ _ hti).und
                split at h
                · rename_i ei hei
                  split at h
                  · rename_i ys hl
                    obtain ⟨vs, v1, v2, v3⟩ := lendA_ok (P := P) hI.sat hb' hl
                    obtain rfl : vs = [] := by simpa using v2
                    have hlw : Lends P w ei.size (Sl.ev e y) 0 [] → (Builtin.lenOf (Sl.ev e y)).run P w = .ok 0 w ∧ (Builtin.firstCells ei.size 0 (Sl.ev e y)).run P w = .ok #[] w := fun h => h w.drawn
                    have key : ∀ (base : Option Addr) (n c : Nat), Sl.ev e x = .slice base n c → (execOp (Sl.ev e) o).run P w = .ok (.value (.int .i64 (.ofNat 0))) w := by
                      intro base n c hv
                      have hm2 : Array.map (Sl.ev e) #[x, y] = #[.slice base n c, Sl.ev e y] := by simp [hv]
                      have hmin : Nat.min 0 n = 0 := Nat.min_eq_left (Nat.zero_le _)
                      simp only [execOp, ho', resolve, Sem.run_bind, hpure, Result.andThen, invoke, builtin, hm2, Builtin.copy_, h0, List.getElem?_toArray, List.getElem?_cons_zero, List.getElem?_cons_succ, run_underlying ht, (hlw v3).1, hmin, (hX _ _ hei).size, (hlw v3).2, goInt]
                      cases base with
                      | none => simp only [hpure]; rfl
                      | some ad => simp only [storeCells, Sem.run_bind, hpure, Result.andThen]; rfl
                    split at h
                    · cases h
                      simp only [VR] at hx'
                      exact ⟨_, vri M _ _, key _ _ _ hx'⟩
                    · cases h
                      simp only [VR] at hx'
                      obtain ⟨B, c', _, hv, _⟩ := hx'
                      exact ⟨_, vri M _ _, key _ _ _ hv⟩
                    · cases h
                  · cases h
                · cases h
              · cases h
            · cases h
          · cases h
        · cases h
      · cases h
    · cases h
  · cases h

/-- noughts behind nothing -/
def appZA (X : Tr TI) (ae : List (Nat × AV)) (s : St) (op : Op) : Option (AV × St) :=
  match op with
  | .call ⟨.builtin .append, xs, ts⟩ => match xs.toList with
    | [x, y] => match opnd ae x with
      | some .nils => match opnd ae y with
        | some (.int .i64 (.ofNat n)) => match ts[0]? with
          | some t => match ts[1]? with
            | some t1 => match X.get t with
              | some ti => match X.get t1 with
                | some ti1 => match ti.und, ti1.und with
                  | .slice E, .int _ => match X.get E with
                    | some ei => match zeroA ei.zero with
                      | some z => bif bigOk n ei.bytes && Nat.blt 0 n && Nat.blt 0 ei.size then some (.slice s.nx 0 ei.size n none, newCells s ((List.range (n * ei.size)).map (zeroAt z)) E) else none
                      | none => none
                    | none => none
                  | _, _ => none
                | none => none
              | none => none
            | none => none
          | none => none
        | _ => none
      | _ => none
    | _ => none
  | _ => none

theorem vrs_map2 {α : Type} {f : α → AV} {g : α → Value} : ∀ (l : List α), (∀ x ∈ l, VR M (f x) (g x)) → VRs M (l.map f) (l.map g)
  | [], _ => VRs.nil
  | x :: l, h => by simp only [List.map_cons]; exact VRs.cons (h x (by simp)) (vrs_map2 l (fun y hy => h y (List.mem_cons_of_mem _ hy)))

theorem appZA_ok {w : World} {L : List HP} {s : St} {K : Value → World → Prop} (hX : Types P X) (hXz : ∀ t ti, X.get t = some ti → ti.zero.cells.size = ti.size) (he : EnvR M ae e) (hI : Inv M s w L) {r : AV × St} (h : appZA X ae s o.op = some r) (hK : Eff M r L K) : Does P o e w K := by
  unfold appZA at h
  split at h
  · rename_i xs ts ho
    split at h
    · rename_i x y hxs
      have ho' : o.op = .call ⟨.builtin .append, #[x, y], ts⟩ := by rw [ho]; congr 2; exact Array.ext' hxs
      split at h
      · rename_i hx
        have hx' := opnd_ok he hx
        simp only [VR] at hx'
        split at h
        · rename_i n hy
          have hy' := opnd_ok he hy
          simp only [VR] at hy'
          split at h
          · rename_i t h0
            split at h
            · rename_i t1 h1
              split at h
              · rename_i ti hti
                split at h
                · rename_i ti1 hti1
                  split at h
                  · rename_i E kk hd hd1
                    have ht : P.underlying t = some (.slice E) := by rw [← hd]; exact (hX _ _ hti).und
                    have ht1 : P.underlying t1 = some (.int kk) := by rw [← hd1]; exact (hX _ _ hti1).und
                    split at h
                    · rename_i ei hei
                      have hT := hX _ _ hei
                      obtain ⟨tinf, hi1, hi2⟩ := hT.info
                      split at h
                      · rename_i z hz
                        generalize hcnd : (bigOk n ei.bytes && Nat.blt 0 n && Nat.blt 0 ei.size) = cnd at h
                        cases cnd with
                        | false => cases h
                        | true =>
                          cases h
                          simp only [Bool.and_eq_true, bigOk] at hcnd
                          obtain ⟨⟨⟨q1, q2⟩, q3⟩, q4⟩ := hcnd
                          have q1 := Nat.le_of_ble_eq_true q1
                          have q2 : n < 4611686018427387904 := Nat.le_of_ble_eq_true q2
                          have q3 : 0 < n := Nat.le_of_ble_eq_true q3
                          have q4 : 0 < ei.size := Nat.le_of_ble_eq_true q4
                          have hz' := zeroA_ok hz M
                          have hzs := hXz _ _ hei
                          have hzl : z.length = ei.size := by rw [← hz'.length, ← hzs]; simp
                          generalize hnc : (Question.appendCap n 0 E).cut (w.tape w.drawn (.appendCap n 0 E)) = c
                          have hge : n ≤ c := by rw [← hnc]; simp only [Question.cut]; omega
                          have hch : Sem.run P (choose (.appendCap n 0 E)) w = .ok c { w with drawn := w.drawn + 1 } := by simp [choose, Sem.run, Question.forced, hnc]
                          generalize harr : (Builtin.zeroCells ei.zero.cells n ++ Builtin.zeroCells ei.zero.cells (c - n)) = arr
                          have hsz : arr.size = c * ei.size := by
                            rw [← harr]
                            simp only [Builtin.zeroCells, Array.size_append, Array.size_map, Array.size_range, hzs]
                            rw [← Nat.add_mul]; congr 1; omega
                          have hrun : (execOp (Sl.ev e) o).run P w = .ok (.value (.slice (some ⟨w.heap.size, 0, none⟩) n c)) { w with drawn := w.drawn + 1, heap := w.heap.push (.cells arr E) } := by
                            have hm2 : Array.map (Sl.ev e) #[x, y] = #[.slice none 0 0, .int .i64 (n : Int)] := by simp [hx', hy']
                            have hwr : IntKind.i64.wrap (n : Int) = n := by
                              exact IntWalk.i64_in _ (by omega)
                            have hb0 : ¬ ((n : Int) < 0) := by omega
                            have hb1 : ¬ ((n : Int) * (tinf.bytes : Int) > 2 ^ 48) := by
                              rw [hi2]
                              have : ((n * ei.bytes : Nat) : Int) ≤ 1099511627776 := Int.ofNat_le.2 q1
                              rw [Int.natCast_mul] at this
                              omega
                            have hb2 : ¬ (((n : Int) > IntKind.i64.max) ∧ (True ∨ tinf.bytes = 0)) := by
                              rintro ⟨h9, _⟩
                              have : IntKind.i64.max = 9223372036854775807 := by decide
                              rw [this] at h9; omega
                            have hcapn : Builtin.nextslicecap n 0 = n := by unfold Builtin.nextslicecap; rw [if_pos (by omega)]
                            have hb3 : ¬ (Builtin.nextslicecap n 0 * tinf.bytes > 2 ^ 48) := by rw [hcapn, hi2]; omega
                            have hroom : ∀ w : World, Sem.run P (askRoom (c * tinf.bytes)) w = .ok () w := by
                              intro w; unfold askRoom; split
                              · simp [mark, Sem.run]
                              · rfl
                            have hn0 : ¬ (n ≤ 0) := by omega
                            have hnm : ¬ (n * ei.size = 0) := by intro h9; rcases Nat.mul_eq_zero.1 h9 with h9 | h9 <;> omega
                            simp only [execOp, ho', resolve, Sem.run_bind, hpure, Result.andThen, invoke, builtin, hm2]
                            unfold Builtin.append_
                            have hai : ∀ w : World, (asInt (.int .i64 (n : Int))).run P w = .ok (n : Int) w := fun w => by simp [asInt, asIntOf]
                            have hb2t : ¬ (((n : Int) > IntKind.i64.max) ∧ (true = true ∨ tinf.bytes = 0)) := by simpa using hb2
                            have hnt : (!true) = false := rfl
                            have hF : ¬ (false = true) := by simp
                            simp only [h0, h1, List.getElem?_toArray, List.getElem?_cons_zero, List.getElem?_cons_succ, Sem.run_bind, run_underlying ht, run_underlying ht1, hT.size, Result.andThen, hpure, if_true, hai, hwr, if_neg hb0, hi1, if_neg hb1, Int.toNat_natCast, Nat.zero_add, if_neg hn0, if_neg hb2, if_neg hb3, hch, hroom, if_neg hnm, hT.zero, hnt, if_neg hF, Builtin.firstCells, Array.empty_append, harr]
                            rfl
                          have hs0 := (hI.sat.drawn (w.drawn + 1)).new (.cells arr E)
                          have hrow : VRs M ((List.range (n * ei.size)).map (zeroAt z)) (Builtin.zeroCells ei.zero.cells n).toList := by
                            have : (Builtin.zeroCells ei.zero.cells n).toList = (List.range (n * ei.size)).map (fun i => ei.zero.cells[i % ei.zero.cells.size]!) := by
                              simp [Builtin.zeroCells, hzs, Array.toList_map, Array.toList_range]
                            rw [this]
                            refine vrs_map2 _ (fun i hi => ?_)
                            have hlt : i % z.length < z.length := Nat.mod_lt _ (by omega)
                            obtain ⟨v, v1, v2⟩ := hz'.get (List.getElem?_eq_getElem hlt)
                            unfold zeroAt
                            rw [hzs, ← hzl, List.getD_eq_getElem?_getD, List.getElem?_eq_getElem hlt]
                            have v3 : ei.zero.cells[i % z.length]? = some v := by simpa using v1
                            rw [getElem!_def, v3]
                            exact v2
                          have hs1 := hs0.mkSl (k := 0) (m := ei.size) (E := E) (n := n) (c := c) (ofs := 0) (xs := (Builtin.zeroCells ei.zero.cells n).toList) (arr := arr) rfl (by simp [Builtin.zeroCells, hzs]) hge (by rw [hsz]; omega) (by
                            intro j v hj
                            rw [Nat.zero_add, ← harr]
                            have hjl : j < (Builtin.zeroCells ei.zero.cells n).size := by
                              have := (List.getElem?_eq_some_iff.1 hj).1
                              simpa using this
                            rw [Array.getElem?_append_left hjl]
                            simpa using hj)
                          simp only [List.set_cons_zero] at hs1
                          obtain ⟨M', p1, p2, p3⟩ := sl_new hI hs1 (hI.lack (Nat.le_refl _)) hrow (.inl q3) (cap := none) (by simp)
                          exact d_val hrun (hK M' _ _ p1 p2 p3)
                      · cases h
                    · cases h
                  · cases h
                · cases h
              · cases h
            · cases h
          · cases h
        · cases h
      · cases h
    · cases h
  · cases h
end
end Go.Ev
