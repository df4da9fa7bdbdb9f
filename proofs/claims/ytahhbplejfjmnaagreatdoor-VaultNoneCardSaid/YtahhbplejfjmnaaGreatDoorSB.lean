/- General words for slices that own their block, and for maps that own theirs. No program. -/
import Derived.Test.YtahhbplejfjmnaaGreatDoorSA
import Derived.RangeFuncLeaves
import Derived.TacticsIn
namespace Go.Sl
open Go

def rowIn (c : Array Value) (ofs : Nat) (xs : List Value) : Prop := ∀ j x, xs[j]? = some x → c[ofs + j]? = some x

/-- a slice of n elements of m cells, whose block is owned: it reads as xs -/
def sl (m E : Nat) (a : Option Addr) (n c : Nat) (xs : List Value) : HP :=
  match a with
  | none => pur (n = 0 ∧ c = 0 ∧ xs = [])
  | some ad => ex fun (arr : Array Value) => star (pur (ad.spot = none ∧ xs.length = n * m ∧ n ≤ c ∧ ad.off + c * m ≤ arr.size ∧ rowIn arr ad.off xs)) (obj ad.block (.cells arr E (0, 0)))

/-- a slice whose block nobody writes any more -/
def rs (m : Nat) (a : Option Addr) (n c : Nat) (xs : List Value) : HP :=
  match a with
  | none => pur (n = 0 ∧ c = 0 ∧ xs = [])
  | some ad => ex fun (q : Array Value × Nat × (Nat × Nat)) => star (pur (ad.spot = none ∧ xs.length = n * m ∧ n ≤ c ∧ (c = 0 ∨ ad.off + c * m ≤ q.1.size) ∧ rowIn q.1 ad.off xs)) (ro ad.block (.cells q.1 q.2.1 q.2.2))

section
variable {P : Program} {o : Oper} {e : Env} {w : World} {x y : Operand} {t T : TypeId} {K : Value → World → Prop} {L : List HP}

theorem Sat.sl {m E n c k : Nat} {a : Option Addr} {xs : List Value} (hs : Sat w L) (hk : L[k]? = some (Sl.sl m E a n c xs)) :
    (a = none ∧ n = 0 ∧ c = 0 ∧ xs = []) ∨ ∃ r ofs arr, a = some ⟨r, ofs, none⟩ ∧ xs.length = n * m ∧ n ≤ c ∧ ofs + c * m ≤ arr.size ∧ rowIn arr ofs xs ∧ Sat w (L.set k (Sl.obj r (.cells arr E (0, 0)))) := by
  have h := hs.perm (perm_eraseIdx hk)
  cases a with
  | none => left; have := (sat_pur.1 h).1; exact ⟨rfl, this⟩
  | some ad =>
    right
    obtain ⟨arr, h⟩ := sat_ex.1 h
    obtain ⟨⟨h1, h2, h3, h4, h5⟩, h6⟩ := sat_pur.1 (sat_star.1 h)
    obtain ⟨r, ofs, sp⟩ := ad
    simp at h1
    subst h1
    exact ⟨r, ofs, arr, rfl, h2, h3, h4, h5, h6.perm (perm_set hk)⟩

theorem set_get {α : Type} {l : List α} {k : Nat} {x y : α} (h : l[k]? = some x) : (l.set k y)[k]? = some y := by
  have : k < l.length := by
    rcases Nat.lt_or_ge k l.length with h' | h'
    · exact h'
    · rw [List.getElem?_eq_none h'] at h; cases h
  simp [this]

theorem Sat.mkSl {m E n c k r ofs : Nat} {xs : List Value} {arr : Array Value} (hs : Sat w L) (hk : L[k]? = some (Sl.obj r (.cells arr E (0, 0)))) (h1 : xs.length = n * m) (h2 : n ≤ c) (h3 : ofs + c * m ≤ arr.size)
    (h4 : rowIn arr ofs xs) : Sat w (L.set k (Sl.sl m E (some ⟨r, ofs, none⟩) n c xs)) := by
  refine Sat.perm ?_ (perm_set hk)
  exact sat_ex.2 ⟨arr, sat_star.2 (sat_pur.2 ⟨⟨rfl, h1, h2, h3, h4⟩, hs.perm (perm_eraseIdx hk)⟩)⟩

/-- a cell of an owned slice -/
theorem Sat.slcell {m E n c k : Nat} {a : Option Addr} {xs : List Value} (hs : Sat w L) (hk : L[k]? = some (Sl.sl m E a n c xs)) {r ofs j : Nat} {v : Value} (ha : a = some ⟨r, ofs, none⟩) (hj : xs[j]? = some v) :
    w.cell? ⟨r, ofs + j, none⟩ = some v := by
  rcases hs.sl hk with ⟨h, _⟩ | ⟨r', ofs', arr, h1, _, _, _, h5, h6⟩
  · rw [ha] at h; cases h
  · rw [ha] at h1; cases h1
    exact cell_of (h6.obj k (set_get hk)) (h5 j v hj)

theorem Sat.slsome {m E n c k : Nat} {a : Option Addr} {xs : List Value} (hs : Sat w L) (hk : L[k]? = some (Sl.sl m E a n c xs)) (hn : 0 < n) : ∃ r ofs, a = some ⟨r, ofs, none⟩ := by
  rcases hs.sl hk with ⟨_, h, _⟩ | ⟨r', ofs', arr, h1, _⟩
  · omega
  · exact ⟨_, _, h1⟩

theorem Sat.sllen {m E n c k : Nat} {a : Option Addr} {xs : List Value} (hs : Sat w L) (hk : L[k]? = some (Sl.sl m E a n c xs)) : xs.length = n * m ∧ n ≤ c := by
  rcases hs.sl hk with ⟨_, h1, h2, h3⟩ | ⟨r', ofs', arr, h1, h2, h3, _⟩
  · subst h1; subst h2; subst h3; simp
  · exact ⟨h2, h3⟩

/-! ### append -/
theorem growBy_le (newLen : Nat) : ∀ k c, 256 ≤ c → Builtin.growBy newLen k c ≤ 2 ^ k * c := by
  intro k
  induction k with
  | zero => intro c _; simp [Builtin.growBy]
  | succ k ih =>
    intro c hc
    simp only [Builtin.growBy]
    split
    · exact Nat.le_mul_of_pos_left c (by exact Nat.two_pow_pos _)
    · have h1 := ih (c + (c + 768) / 4) (by omega)
      have h2 : 2 ^ k * (c + (c + 768) / 4) ≤ 2 ^ k * (2 * c) := Nat.mul_le_mul_left _ (by omega)
      have h3 : 2 ^ k * (2 * c) = 2 ^ (k + 1) * c := by rw [Nat.pow_succ]; rw [Nat.mul_assoc]
      omega

theorem nextcap_le {need cap : Nat} (h : cap < need) : Builtin.nextslicecap need cap ≤ 16 * need := by
  unfold Builtin.nextslicecap
  split
  · omega
  · split
    · omega
    · have := growBy_le need 4 cap (by omega)
      omega

/-- what a slice or a text lends to an append -/
def Lends (P : Program) (w : World) (m : Nat) (v : Value) (n : Nat) (ys : List Value) : Prop :=
  ∀ d, (Builtin.lenOf v).run P { w with drawn := d } = .ok n { w with drawn := d } ∧ (Builtin.firstCells m n v).run P { w with drawn := d } = .ok ys.toArray { w with drawn := d }

theorem lends_string (s : ByteArray) (ys : List Value) (h : ys = s.data.toList.map fun b => .int .u8 b.toNat) : Lends P w 1 (.string s) s.size ys := by
  subst h
  intro d
  refine ⟨by simp [Builtin.lenOf, go_sem], ?_⟩
  have : s.extract 0 s.size = s := by
    apply ByteArray.ext
    rw [ByteArray.data_extract]
    exact Array.extract_size
  simp only [Builtin.firstCells, this]
  refine congrArg (fun z => Result.ok z ({ w with drawn := d } : World)) ?_
  apply Array.ext'
  simp

theorem lends_nil {m c : Nat} : Lends P w m (.slice none 0 c) 0 [] := fun _ => ⟨by simp [Builtin.lenOf, go_sem], by simp [Builtin.firstCells, go_sem]⟩

theorem lends_row {m n c r ofs : Nat} {ys : List Value} (hl : ys.length = n * m) (hc : ∀ j v, ys[j]? = some v → w.cell? ⟨r, ofs + j, none⟩ = some v) : Lends P w m (.slice (some ⟨r, ofs, none⟩) n c) n ys := by
  intro d
  refine ⟨by simp [Builtin.lenOf, go_sem], ?_⟩
  have := run_cells (P := P) (w := { w with drawn := d }) (r := r) ys (ofs := ofs) (i := 0) (acc := #[]) (by intro j v hj; simp only [Nat.add_zero]; exact hc j v hj)
  simp only [Builtin.firstCells, loadCells, ← hl, this]
  simp

theorem lends_sl {m E n c k : Nat} {a : Option Addr} {xs : List Value} (hs : Sat w L) (hk : L[k]? = some (Sl.sl m E a n c xs)) : Lends P w m (.slice a n c) n xs := by
  rcases hs.sl hk with ⟨rfl, rfl, rfl, rfl⟩ | ⟨r, ofs, arr, rfl, h2, h3, h4, h5, h6⟩
  · exact lends_nil
  · exact lends_row h2 fun j v hj => cell_of (h6.obj k (set_get hk)) (h5 j v hj)

theorem run_append {E : TypeId} {ts : Array TypeId} {t1 m by_ na ca n : Nat} {a : Option Addr} {yv : Value} {u1 : TypeDesc} {z : Value} {xs ys : List Value}
    (h0 : ts[0]? = some t) (ht : P.underlying t = some (.slice E)) (h1 : ts[1]? = some t1) (ht1 : P.underlying t1 = some u1) (hu : (∃ E1, u1 = .slice E1) ∨ u1 = .string) (hm : ∀ w, (sizeOf E).run P w = .ok m w)
    {ti : TypeInfo} (hi : ∀ w, (typeInfo E).run P w = .ok ti w) (hib : ti.bytes = by_) (hz : ∀ w, (zeroValue E).run P w = .ok z w) (hzm : z.cells.size = m) (hl : Lends P w m yv n ys) (_hyl : ys.length = n * m)
    (hx : Lends P w m (.slice a na ca) na xs) (_hxl : xs.length = na * m) (hbig : (na + n) * by_ ≤ 2 ^ 40) (hint : na + n < 2 ^ 62) (_hone : ys.all one = true) :
    (na + n ≤ ca → ∀ w', (match a with | some ad => storeCells (ad.add (na * m)) ys | none => pure ()).run P w = .ok () w' →
      (Builtin.append_ ts T #[.slice a na ca, yv]).run P w = .ok (.slice a (na + n) ca) w') ∧
    (ca < na + n → ∃ newCap rest d, (Builtin.append_ ts T #[.slice a na ca, yv]).run P w = .ok (.slice (some ⟨w.heap.size, 0, none⟩) (na + n) newCap)
        { w with drawn := d, heap := w.heap.push (.cells (xs ++ ys ++ rest).toArray E) } ∧ na + n ≤ newCap ∧ rest.length = (newCap - (na + n)) * m) := by
  have hp : ∀ {α : Type} (x : α) (w : World), Sem.run P (pure x) w = .ok x w := fun _ _ => rfl
  have hF : ¬ (false = true) := by simp
  constructor
  · intro hle w' hst
    have hfin : (Builtin.append_ ts T #[.slice a na ca, yv]).run P w = .ok (.slice a (na + n) ca) w' := by
      rcases hu with ⟨E1, rfl⟩ | rfl
      all_goals
        unfold Builtin.append_
        simp only [h0, h1, List.getElem?_toArray, List.getElem?_cons_zero, List.getElem?_cons_succ, Sem.run_bind, run_underlying ht, run_underlying ht1, hm, Result.andThen, hp, if_neg hF, (hl w.drawn).1, if_pos hle, Bool.not_false, if_true, (hl w.drawn).2]
        cases a with
        | none => simp only [hp] at hst ⊢; cases hst; rfl
        | some ad => simp only [Sem.run_bind, hst, Result.andThen, hp]
    exact hfin
  · intro hgt
    have hnle : ¬ na + n ≤ ca := by omega
    have hcap := nextcap_le hgt
    have hb0 : ¬ (((na + n : Nat) : Int) > IntKind.i64.max ∧ (false = true ∨ ti.bytes = 0)) := by
      rintro ⟨h, _⟩
      have : IntKind.i64.max = 9223372036854775807 := by decide
      rw [this] at h; omega
    have hb1 : ¬ (Builtin.nextslicecap (na + n) ca * ti.bytes > 2 ^ 48) := by
      have : Builtin.nextslicecap (na + n) ca * ti.bytes ≤ 16 * (na + n) * ti.bytes := Nat.mul_le_mul_right _ hcap
      rw [hib] at this ⊢
      have h2 : 16 * (na + n) * by_ = 16 * ((na + n) * by_) := Nat.mul_assoc _ _ _
      omega
    have hch : ∀ w : World, Sem.run P (choose (.appendCap (na + n) ca E)) w = .ok ((Question.appendCap (na + n) ca E).cut (w.tape w.drawn (.appendCap (na + n) ca E))) { w with drawn := w.drawn + 1 } := by
      intro w; simp [choose, Sem.run, Question.forced]
    generalize hnc : (Question.appendCap (na + n) ca E).cut (w.tape w.drawn (.appendCap (na + n) ca E)) = newCap at *
    have hge : na + n ≤ newCap := by rw [← hnc]; simp only [Question.cut]; omega
    have hroom : ∀ w : World, Sem.run P (askRoom (newCap * ti.bytes)) w = .ok () w := by
      intro w; unfold askRoom; split
      · simp [mark, Sem.run]
      · rfl
    refine ⟨newCap, (Builtin.zeroCells z.cells (newCap - (na + n))).toList, w.drawn + 1, ?_, hge, by simp [Builtin.zeroCells, hzm]⟩
    rcases hu with ⟨E1, rfl⟩ | rfl
    all_goals
      unfold Builtin.append_
      simp only [h0, h1, List.getElem?_toArray, List.getElem?_cons_zero, List.getElem?_cons_succ, Sem.run_bind, run_underlying ht, run_underlying ht1, hm, Result.andThen, hp, if_neg hF, (hl w.drawn).1, if_neg hnle, hi, if_neg hb0, if_neg hb1, hch, hnc, hroom,
        (hx (w.drawn + 1)).2, (hl (w.drawn + 1)).2, Bool.not_false, if_true, hz]
      rw [show (xs ++ ys ++ (Builtin.zeroCells z.cells (newCap - (na + n))).toList).toArray = xs.toArray ++ ys.toArray ++ Builtin.zeroCells z.cells (newCap - (na + n)) from by simp]
      rfl

/-- append to a slice that owns its block: it owns one behind it, too -/
theorem d_append {E : TypeId} {ts : Array TypeId} {t1 m by_ na ca n k : Nat} {a : Option Addr} {yv : Value} {u1 : TypeDesc} {z : Value} {xs ys : List Value} {ti : TypeInfo}
    (hl : Lends P w m yv n ys) (hyl : ys.length = n * m) (hs : Sat w L) (hk : L[k]? = some (Sl.sl m E a na ca xs)) (ho : o.op = .call ⟨.builtin .append, #[x, y], ts⟩) (hxv : ev e x = .slice a na ca) (hyv : ev e y = yv)
    (h0 : ts[0]? = some t) (ht : P.underlying t = some (.slice E)) (h1 : ts[1]? = some t1) (ht1 : P.underlying t1 = some u1) (hu : (∃ E1, u1 = .slice E1) ∨ u1 = .string) (hm : ∀ w, (sizeOf E).run P w = .ok m w)
    (hi : ∀ w, (typeInfo E).run P w = .ok ti w) (hib : ti.bytes = by_) (hz : ∀ w, (zeroValue E).run P w = .ok z w) (hzm : z.cells.size = m)
    (hbig : (na + n) * by_ ≤ 2 ^ 40) (hint : na + n < 2 ^ 62) (hone : ys.all one = true)
    {n' : Nat} {zs : List Value} (hn : n' = na + n) (hzs : zs = xs ++ ys)
    (h : ∀ a' c' w', Sat w' (L.set k (Sl.sl m E a' n' c' zs)) → K (.slice a' n' c') w') : Does P o e w K := by
  subst hn; subst hzs
  have hx := lends_sl (P := P) hs hk
  obtain ⟨hxl, hcap⟩ := hs.sllen hk
  obtain ⟨hA, hB⟩ := run_append (P := P) (T := o.type) (ca := ca) h0 ht h1 ht1 hu hm hi hib hz hzm hl hyl hx hxl hbig hint hone
  have hop : ∀ v w', (Builtin.append_ ts o.type #[.slice a na ca, yv]).run P w = .ok v w' → (execOp (ev e) o).run P w = .ok (.value v) w' := by
    intro v w' hr
    have hp : ∀ {α : Type} (x : α) (w : World), Sem.run P (pure x) w = .ok x w := fun _ _ => rfl
    have hm2 : Array.map (ev e) #[x, y] = #[.slice a na ca, yv] := by simp [hxv, hyv]
    simp only [execOp, ho, resolve, Sem.run_bind, hp, Result.andThen, invoke, builtin, hm2, hr]
  by_cases hle : na + n ≤ ca
  · rcases hs.sl hk with ⟨rfl, rfl, rfl, rfl⟩ | ⟨r, ofs, arr, rfl, h2, h3, h4, h5, h6⟩
    · obtain rfl : n = 0 := by omega
      obtain rfl : ys = [] := by simpa using hyl
      refine d_val (hop _ _ (hA hle w rfl)) (h none 0 w ?_)
      exact hs.perm ((perm_eraseIdx hk).trans (perm_set hk))
    · have hfit : ofs + na * m + ys.length ≤ arr.size := by
        have : (na + n) * m ≤ ca * m := Nat.mul_le_mul_right _ hle
        rw [Nat.add_mul] at this
        omega
      obtain ⟨w', q1, q2, q3, q4, q5, q6⟩ := run_storeCells (P := P) ys (w := w) (r := r) (c := arr) (U := E) (ofs := ofs + na * m) (i := 0) (h6.obj k (set_get hk)) (by omega) (fun v hv => List.all_eq_true.1 hone v hv)
      have hst : (storeCells ((⟨r, ofs, none⟩ : Addr).add (na * m)) ys).run P w = .ok () w' := by rw [add_at]; exact q1
      refine d_val (hop _ _ (hA hle w' hst)) (h (some ⟨r, ofs, none⟩) ca w' ?_)
      have hw := h6.write k (set_get hk) q2 q3 q4 q5 q6
      simp only [List.set_set, Nat.add_zero] at hw
      have hw' := hw.mkSl (m := m) (E := E) (n := na + n) (c := ca) (k := k) (ofs := ofs) (xs := xs ++ ys) (arr := writeAt arr (ofs + na * m) ys) (set_get hk)
        (by simp [h2, hyl, Nat.add_mul]) hle (by rw [writeAt_size]; exact h4) (by
          intro j v hj
          rw [writeAt_get]
          by_cases hj2 : j < xs.length
          · rw [List.getElem?_append_left hj2] at hj
            rw [if_neg (by omega)]; exact h5 j v hj
          · have hj' := hj
            rw [List.getElem?_append_right (by omega)] at hj
            have hlt : j - xs.length < ys.length := by
              rcases Nat.lt_or_ge (j - xs.length) ys.length with h' | h'
              · exact h'
              · rw [List.getElem?_eq_none h'] at hj; cases hj
            rw [if_pos (by omega), ← hj]; congr 1; omega)
      simp only [List.set_set] at hw'
      exact hw'
  · obtain ⟨nc, rest, d, hr, hge, hrest⟩ := hB (by omega)
    refine d_val (hop _ _ hr) (h (some ⟨w.heap.size, 0, none⟩) nc _ ?_)
    have hdr : Sat ({ w with drawn := d } : World) L := hs.drawn d
    have hnew := hdr.new (.cells (xs ++ ys ++ rest).toArray E)
    have hsl := hnew.mkSl (m := m) (E := E) (n := na + n) (c := nc) (k := 0) (r := w.heap.size) (ofs := 0) (xs := xs ++ ys) (arr := (xs ++ ys ++ rest).toArray) rfl
      (by simp [hxl, hyl, Nat.add_mul]) hge (by
        have : (nc - (na + n)) * m + (na + n) * m = nc * m := by rw [← Nat.add_mul]; congr 1; omega
        rw [Nat.add_mul] at this
        simp [hxl, hyl, hrest]; omega) (by
        intro j v hj
        have hlt : j < (xs ++ ys).length := by
          rcases Nat.lt_or_ge j (xs ++ ys).length with h' | h'
          · exact h'
          · rw [List.getElem?_eq_none h'] at hj; cases hj
        simp only [Nat.zero_add, List.getElem?_toArray]
        rw [List.getElem?_append_left hlt]; exact hj)
    simp only [List.set_cons_zero] at hsl
    exact (hsl.perm ((perm_eraseIdx hk).cons _) |>.perm (List.Perm.swap _ _ _)).drop.perm (perm_set hk)
end
end Go.Sl
/- General words for maps that own their block. No program. -/
namespace Go.Sl
open Go

/-- a key's type: how keys are found -/
structure KeyT {κ : Type} [DecidableEq κ] (P : Program) (T : TypeId) (ek : κ → Value) : Prop where
  chk : ∀ (b : Bool) (k : κ) (w : World), (Instr.checkKey b 10000 T (ek k)).run P w = .ok () w
  find : ∀ (k : κ) (es : List MapEntry) (ks : List κ) (w : World), es.map (·.key) = ks.map ek →
    (Instr.findKey T (ek k) es).run P w = .ok (match ks.findIdx? (· = k) with | some i => (es[i]?).map fun e => (i, e.val) | none => none) w
  same : ∀ k : κ, Instr.sameBits 10000 (ek k) (ek k) = true

section keys
variable {P : Program} {T : TypeId}
theorem findNow_walk {κ : Type} [DecidableEq κ] {ek : κ → Value} {D : TypeDesc} (hsame : ∀ a b, Instr.sameNow D (ek a) (ek b) = some (decide (a = b))) (k : κ) : ∀ (es : List MapEntry) (ks : List κ) (j : Nat), es.map (·.key) = ks.map ek →
    Instr.findNow D (ek k) es j = some (match ks.findIdx? (· = k) with | some i => (es[i]?).map fun e => (j + i, e.val) | none => none) := by
  intro es
  induction es with
  | nil => intro ks j h; cases ks <;> simp_all [Instr.findNow]
  | cons e es ih =>
    intro ks j h
    cases ks with
    | nil => simp at h
    | cons k' ks =>
      simp only [List.map_cons, List.cons.injEq] at h
      simp only [Instr.findNow, h.1, hsame, List.findIdx?_cons]
      by_cases hk : k = k'
      · subst hk; simp
      · have hk' : ¬ k' = k := fun h => hk h.symm
        simp only [hk, hk', decide_false]
        rw [ih ks (j + 1) h.2]
        cases hf : ks.findIdx? (· = k) with
        | none => simp
        | some i => simp only [Option.map_some, Bool.false_eq_true, if_false, List.getElem?_cons_succ]; congr 2; funext e; congr 1; omega

theorem key_now {κ : Type} [DecidableEq κ] {ek : κ → Value} {D : TypeDesc} (hT : P.underlying T = some D) (hD : D = .string ∨ D = .bool ∨ ∃ k, D = .int k) (hsame : ∀ a b, Instr.sameNow D (ek a) (ek b) = some (decide (a = b)))
    (hbits : ∀ k : κ, Instr.sameBits 10000 (ek k) (ek k) = true) : KeyT P T ek where
  chk := fun b k w => by
    have h1 : ∀ n, (Instr.checkKey b (n + 1) T (ek k)).run P w = .ok () w := fun n => by
      have hs := hsame k k
      rcases hD with rfl | rfl | ⟨q, rfl⟩ <;> simp [Instr.checkKey, underlying, hT, go_sem]
    exact h1 9999
  find := fun k es ks w h => by
    simp only [Instr.findKey, Sem.run_bind, run_underlying hT, Result.andThen, findNow_walk hsame k es ks 0 h]
    simp only [Nat.zero_add]
    rfl
  same := hbits

theorem key_string (hT : P.underlying T = some .string) : KeyT P T (fun s : ByteArray => .string s) :=
  key_now hT (.inl rfl) (fun a b => by simp only [Instr.sameNow]; congr 1; exact ba_beq a b) (fun k => by
    have : ∀ n, Instr.sameBits n (.string k) (.string k) = true := fun n => by cases n <;> simp [Instr.sameBits, ba_beq]
    exact this _)
theorem key_int {q : IntKind} (hT : P.underlying T = some (.int q)) : KeyT P T (fun s : Int => .int q s) :=
  key_now hT (.inr (.inr ⟨q, rfl⟩)) (fun a b => by simp [Instr.sameNow]; rfl) (fun k => by
    have : ∀ n, Instr.sameBits n (.int q k) (.int q k) = true := fun n => by cases n <;> simp [Instr.sameBits]
    exact this _)
end keys

/-! ### maps as lists -/
def mget {κ α : Type} [DecidableEq κ] (m : List (κ × α)) (k : κ) : Option α := (m.find? (fun p => decide (p.1 = k))).map (·.2)
def mput {κ α : Type} [DecidableEq κ] (m : List (κ × α)) (k : κ) (v : α) : List (κ × α) :=
  if (mget m k).isSome then m.map (fun p => if p.1 = k then (k, v) else p) else m ++ [(k, v)]
def mdel {κ α : Type} [DecidableEq κ] (m : List (κ × α)) (k : κ) : List (κ × α) := m.filter fun p => !decide (p.1 = k)

def MapOk {κ α : Type} (ek : κ → Value) (ea : α → Value) (es : Array MapEntry) (ck : Nat) (m : List (κ × α)) : Prop :=
  es.toList.map (fun e => (e.key, e.val)) = m.map (fun p => (ek p.1, ea p.2)) ∧ (es.toList.map (·.born)).Nodup ∧ (∀ e ∈ es.toList, e.born < ck) ∧ (m.map (·.1)).Nodup

def mapR {κ α : Type} (ek : κ → Value) (ea : α → Value) (r : Nat) (m : List (κ × α)) : HP :=
  ex fun (q : Array MapEntry × Nat) => star (pur (MapOk ek ea q.1 q.2 m)) (obj r (.map q.1 q.2))

section
variable {κ α : Type} {ek : κ → Value} {ea : α → Value}
theorem Sat.mapR {w : World} {L : List HP} (hs : Sat w L) {k r : Nat} {m : List (κ × α)} (hk : L[k]? = some (Sl.mapR ek ea r m)) :
    ∃ es ck, MapOk ek ea es ck m ∧ Sat w (L.set k (Sl.obj r (.map es ck))) := by
  obtain ⟨⟨es, ck⟩, h⟩ := sat_ex.1 (hs.perm (perm_eraseIdx hk))
  obtain ⟨h1, h2⟩ := sat_pur.1 (sat_star.1 h)
  exact ⟨es, ck, h1, h2.perm (perm_set hk)⟩
theorem Sat.mkMap {w : World} {L : List HP} {k r : Nat} {m : List (κ × α)} {es : Array MapEntry} {ck : Nat} (hs : Sat w L) (hk : L[k]? = some (Sl.obj r (.map es ck))) (h : MapOk ek ea es ck m) : Sat w (L.set k (Sl.mapR ek ea r m)) :=
  (sat_ex.2 ⟨(es, ck), sat_star.2 (sat_pur.2 ⟨h, hs.perm (perm_eraseIdx hk)⟩)⟩ : Sat w (Sl.mapR ek ea r m :: L.eraseIdx k)).perm (perm_set hk)
theorem mapOk_nil : MapOk ek ea #[] 0 ([] : List (κ × α)) := ⟨rfl, by simp, by simp, by simp⟩

theorem MapOk.keys {es : Array MapEntry} {ck : Nat} {m : List (κ × α)} (h : MapOk ek ea es ck m) : es.toList.map (·.key) = (m.map (·.1)).map ek := by
  have := congrArg (List.map Prod.fst) h.1
  simpa [List.map_map, Function.comp_def] using this
theorem MapOk.size {es : Array MapEntry} {ck : Nat} {m : List (κ × α)} (h : MapOk ek ea es ck m) : es.size = m.length := by
  have := congrArg List.length h.1
  simpa using this
theorem MapOk.at {es : Array MapEntry} {ck : Nat} {m : List (κ × α)} (h : MapOk ek ea es ck m) {i : Nat} {p : κ × α} (hi : m[i]? = some p) : ∃ b, es.toList[i]? = some ⟨ek p.1, ea p.2, b⟩ := by
  have h1 := congrArg (fun l => l[i]?) h.1
  simp only [List.getElem?_map, hi, Option.map_some] at h1
  cases he : es.toList[i]? with
  | none => simp [he] at h1
  | some e =>
    simp only [he, Option.map_some, Option.some.injEq, Prod.mk.injEq] at h1
    exact ⟨e.born, by rw [← h1.1, ← h1.2]⟩
variable [DecidableEq κ]

theorem idx_get {m : List (κ × α)} {k : κ} : mget m k = ((m.map (·.1)).findIdx? (· = k)).bind fun i => (m[i]?).map (·.2) := by
  unfold mget
  induction m with
  | nil => rfl
  | cons p m ih =>
    simp only [List.find?_cons, List.map_cons, List.findIdx?_cons]
    by_cases hp : p.1 = k
    · simp [hp]
    · simp only [hp, decide_false, Bool.false_eq_true, if_false]
      rw [ih]
      cases (m.map (·.1)).findIdx? (· = k) <;> simp

theorem idx_some {m : List (κ × α)} {k : κ} {i : Nat} (h : (m.map (·.1)).findIdx? (· = k) = some i) : ∃ v, m[i]? = some (k, v) ∧ mget m k = some v ∧ i < m.length := by
  have h1 := List.findIdx?_eq_some_iff_getElem.1 h
  obtain ⟨hlt, hk, _⟩ := h1
  simp at hlt hk
  refine ⟨m[i].2, by rw [List.getElem?_eq_getElem hlt, ← hk], ?_, hlt⟩
  rw [idx_get, h]; simp [List.getElem?_eq_getElem hlt]
theorem idx_none {m : List (κ × α)} {k : κ} (h : (m.map (·.1)).findIdx? (· = k) = none) : mget m k = none ∧ k ∉ m.map (·.1) := by
  refine ⟨by rw [idx_get, h]; rfl, fun hk => ?_⟩
  rw [List.findIdx?_eq_none_iff] at h
  have := h k hk
  simp at this
theorem mget_none {m : List (κ × α)} {k : κ} : mget m k = none ↔ k ∉ m.map (·.1) := by
  constructor
  · intro h hk
    cases hf : (m.map (·.1)).findIdx? (· = k) with
    | none => exact (idx_none hf).2 hk
    | some i => obtain ⟨v, _, h2, _⟩ := idx_some hf; rw [h] at h2; cases h2
  · intro h
    cases hf : (m.map (·.1)).findIdx? (· = k) with
    | none => exact (idx_none hf).1
    | some i =>
      obtain ⟨v, h1, _, _⟩ := idx_some hf
      exact (h (List.mem_map.2 ⟨(k, v), List.mem_of_getElem? h1, rfl⟩)).elim

theorem mput_at {m : List (κ × α)} {k : κ} {v : α} {i : Nat} (hnd : (m.map (·.1)).Nodup) (h : (m.map (·.1)).findIdx? (· = k) = some i) : mput m k v = m.set i (k, v) := by
  obtain ⟨v0, h1, h2, hlt⟩ := idx_some h
  unfold mput
  rw [h2]
  simp only [Option.isSome_some, if_true]
  apply List.ext_getElem?
  intro j
  simp only [List.getElem?_map, List.getElem?_set]
  by_cases hj : i = j
  · subst hj; rw [h1]; simp [hlt]
  · rw [if_neg hj]
    cases hm : m[j]? with
    | none => rfl
    | some p =>
      simp only [Option.map_some]
      rw [if_neg]
      intro hp
      have ha : (m.map (·.1))[i]? = some k := by simp [h1]
      have hb : (m.map (·.1))[j]? = some k := by simp [hm, hp]
      have hlt2 : i < (m.map (·.1)).length := by simpa using hlt
      exact hj ((List.getElem?_inj hlt2 hnd).1 (by rw [ha, hb]))

theorem mdel_at {m : List (κ × α)} {k : κ} {i : Nat} (hnd : (m.map (·.1)).Nodup) (h : (m.map (·.1)).findIdx? (· = k) = some i) : mdel m k = m.eraseIdx i := by
  unfold mdel
  induction m generalizing i with
  | nil => simp at h
  | cons p m ih =>
    simp only [List.map_cons, List.findIdx?_cons] at h
    simp only [List.map_cons, List.nodup_cons] at hnd
    by_cases hp : p.1 = k
    · simp [hp] at h
      subst h
      simp only [List.filter_cons, hp, decide_true, Bool.not_true, Bool.false_eq_true, if_false, List.eraseIdx_cons_zero]
      rw [List.filter_eq_self]
      intro q hq
      have : q.1 ≠ k := fun e => hnd.1 (by rw [hp, ← e]; exact List.mem_map_of_mem hq)
      simp [this]
    · simp only [hp, decide_false, Bool.false_eq_true, if_false, Option.map_eq_some_iff] at h
      obtain ⟨j, hj, rfl⟩ := h
      simp only [List.filter_cons, hp, decide_false, Bool.not_false, if_true, List.eraseIdx_cons_succ]
      rw [ih hnd.2 hj]
theorem mdel_none {m : List (κ × α)} {k : κ} (h : k ∉ m.map (·.1)) : mdel m k = m := by
  unfold mdel
  rw [List.filter_eq_self]
  intro q hq
  have : q.1 ≠ k := fun e => h (by rw [← e]; exact List.mem_map_of_mem hq)
  simp [this]

/-! ### the operations -/
variable {P : Program} {o : Oper} {e : Env} {w : World} {x y z : Operand} {t K E : TypeId} {N : Value → World → Prop} {L : List HP}
theorem run_getObj {r : Nat} {es : Array MapEntry} {ck : Nat} (h : w.heap[r]? = some (.map es ck)) : (getObj r).run P w = .ok (.map es ck) w := by simp [getObj, Sem.run, h]
theorem run_setObj {r : Nat} {es : Array MapEntry} {ck : Nat} {o' : Obj} (h : w.heap[r]? = some (.map es ck)) : (setObj r o').run P w = .ok () { w with heap := w.heap.setIfInBounds r o' } := by simp [setObj, Sem.run, h]

theorem run_lookup {b : Bool} {r : Nat} {m : List (κ × α)} {key : κ} {zv : Value} {es : Array MapEntry} {ck : Nat} (hm : w.heap[r]? = some (.map es ck)) (hok : MapOk ek ea es ck m) (hk : KeyT P K ek) (ht : P.underlying t = some (.map K E))
    (hz : ∀ w, (zeroValue E).run P w = .ok zv w) : (Instr.lookup t (.map (some r)) (ek key) b).run P w =
      .ok (if b then .tuple #[((mget m key).map ea).getD zv, .bool (mget m key).isSome] else ((mget m key).map ea).getD zv) w := by
  have hp : ∀ {α : Type} (x : α) (w : World), Sem.run P (pure x) w = .ok x w := fun _ _ => rfl
  have hf := hk.find key es.toList (m.map (·.1)) w hok.keys
  unfold Instr.lookup
  simp only [Sem.run_bind, run_underlying ht, Result.andThen, run_getObj hm, hp, hk.chk, hf]
  cases hi : (m.map (·.1)).findIdx? (· = key) with
  | none =>
    have hz' := hz w
    simp only [(idx_none hi).1, Option.map_none, Option.getD_none, Option.isSome_none, Sem.run_bind, hz', Result.andThen, hp]
  | some i =>
    obtain ⟨v, h1, h2, h3⟩ := idx_some hi
    obtain ⟨bn, h4⟩ := hok.at h1
    simp only [h2, h4, Option.map_some, Option.getD_some, Option.isSome_some, Sem.run_bind, Result.andThen, hp]

theorem r_look {k r : Nat} {m : List (κ × α)} {key : κ} {zv : Value} (hs : Sat w L) (hL : L[k]? = some (mapR ek ea r m)) (hk : KeyT P K ek) (ho : o.op = .lookup t x y false) (ht : P.underlying t = some (.map K E))
    (hz : ∀ w, (zeroValue E).run P w = .ok zv w) (hx : ev e x = .map (some r)) (hy : ev e y = ek key) : (execOp (ev e) o).run P w = .ok (.value (((mget m key).map ea).getD zv)) w := by
  obtain ⟨es, ck, hok, h⟩ := hs.mapR hL
  have := run_lookup (b := false) (h.obj k (set_get hL)) hok hk ht hz (key := key)
  simp only [execOp, ho, hx, hy, Sem.run_bind, this, Result.andThen]; rfl
theorem r_look2 {k r : Nat} {m : List (κ × α)} {key : κ} {zv : Value} (hs : Sat w L) (hL : L[k]? = some (mapR ek ea r m)) (hk : KeyT P K ek) (ho : o.op = .lookup t x y true) (ht : P.underlying t = some (.map K E))
    (hz : ∀ w, (zeroValue E).run P w = .ok zv w) (hx : ev e x = .map (some r)) (hy : ev e y = ek key) : (execOp (ev e) o).run P w = .ok (.value (.tuple #[((mget m key).map ea).getD zv, .bool (mget m key).isSome])) w := by
  obtain ⟨es, ck, hok, h⟩ := hs.mapR hL
  have := run_lookup (b := true) (h.obj k (set_get hL)) hok hk ht hz (key := key)
  simp only [execOp, ho, hx, hy, Sem.run_bind, this, Result.andThen]; rfl
omit [DecidableEq κ] in
theorem r_lenR {k r : Nat} {m : List (κ × α)} {ts : Array TypeId} (hs : Sat w L) (hL : L[k]? = some (mapR ek ea r m)) (ho : o.op = .call ⟨.builtin .len, #[x], ts⟩) (h0 : ts[0]? = some t) (ht : P.underlying t = some (.map K E)) (hx : ev e x = .map (some r)) :
    (execOp (ev e) o).run P w = .ok (.value (.int .i64 m.length)) w := by
  obtain ⟨es, ck, hok, h⟩ := hs.mapR hL
  rw [← hok.size]
  exact r_lenm ho h0 ht hx (h.obj k (set_get hL))

theorem getElem?_modify_eq {α : Type} (l : List α) (i : Nat) (f : α → α) {x : α} (h : l[i]? = some x) : l.modify i f = l.set i (f x) := by
  apply List.ext_getElem?
  intro j
  rw [List.getElem?_modify, List.getElem?_set]
  have hlt : i < l.length := by
    rcases Nat.lt_or_ge i l.length with h' | h'
    · exact h'
    · rw [List.getElem?_eq_none h'] at h; cases h
  by_cases hj : i = j
  · subst hj; rw [h]; simp [hlt]
  · simp [hj]

theorem mapOk_put {es : Array MapEntry} {ck : Nat} {m : List (κ × α)} {key : κ} {v : α} (hok : MapOk ek ea es ck m) :
    MapOk ek ea (match (m.map (·.1)).findIdx? (· = key) with | some i => es.modify i fun e => { e with key := ek key, val := ea v } | none => es.push ⟨ek key, ea v, ck⟩)
      (match (m.map (·.1)).findIdx? (· = key) with | some _ => ck | none => ck + 1) (mput m key v) := by
  obtain ⟨h1, h2, h3, h4⟩ := hok
  cases hi : (m.map (·.1)).findIdx? (· = key) with
  | none =>
    obtain ⟨hn, hnm⟩ := idx_none hi
    simp only [mput, hn, Option.isSome_none, Bool.false_eq_true, if_false]
    refine ⟨by simp [h1], ?_, ?_, ?_⟩
    · simp only [Array.toList_push, List.map_append, List.map_cons, List.map_nil]
      rw [List.nodup_append]
      refine ⟨h2, by simp, ?_⟩
      intro a ha b hb hab
      simp at hb
      obtain ⟨e0, he0, rfl⟩ := List.mem_map.1 ha
      have := h3 e0 he0
      omega
    · intro e0 he0
      simp only [Array.toList_push, List.mem_append, List.mem_singleton] at he0
      rcases he0 with he0 | rfl
      · have := h3 e0 he0; omega
      · simp
    · simp only [List.map_append, List.map_cons, List.map_nil]
      rw [List.nodup_append]
      refine ⟨h4, by simp, ?_⟩
      intro a ha b hb hab
      simp at hb
      subst hb; subst hab
      exact hnm ha
  | some i =>
    obtain ⟨v0, g1, g2, g3⟩ := idx_some hi
    rw [mput_at h4 hi]
    obtain ⟨bn, g4⟩ := MapOk.at ⟨h1, h2, h3, h4⟩ g1
    have hmod : (es.modify i fun e => { e with key := ek key, val := ea v }).toList = es.toList.set i ⟨ek key, ea v, bn⟩ := by
      rw [Array.toList_modify, getElem?_modify_eq _ _ _ g4]
    refine ⟨?_, ?_, ?_, ?_⟩
    · rw [hmod, List.map_set, h1, List.map_set]
    · rw [hmod, List.map_set]
      have : (es.toList.map (·.born)).set i bn = es.toList.map (·.born) := by
        apply List.ext_getElem?; intro j; rw [List.getElem?_set]
        by_cases hj : i = j
        · subst hj
          have hlt : i < (es.toList.map (·.born)).length := by
            rcases Nat.lt_or_ge i es.toList.length with h' | h'
            · simpa using h'
            · rw [List.getElem?_eq_none h'] at g4; cases g4
          rw [if_pos rfl, if_pos hlt, List.getElem?_map, g4]; rfl
        · rw [if_neg hj]
      rw [this]; exact h2
    · intro e0 he0
      rw [hmod] at he0
      rcases List.mem_or_eq_of_mem_set he0 with he0 | rfl
      · exact h3 e0 he0
      · have hb : bn < ck := h3 ⟨ek key, ea v0, bn⟩ (List.mem_of_getElem? g4)
        exact hb
    · rw [List.map_set]
      have : (m.map (·.1)).set i key = m.map (·.1) := by
        apply List.ext_getElem?; intro j; rw [List.getElem?_set]
        by_cases hj : i = j
        · subst hj; rw [if_pos rfl, if_pos (by simpa using g3), List.getElem?_map, g1]; rfl
        · rw [if_neg hj]
      rw [this]; exact h4

theorem map_eraseIdx' {β γ : Type} (f : β → γ) : ∀ (l : List β) (i : Nat), (l.eraseIdx i).map f = (l.map f).eraseIdx i
  | [], _ => by simp
  | _ :: _, 0 => by simp
  | _ :: l, i + 1 => by simp [map_eraseIdx' f l i]

theorem mapOk_del {es : Array MapEntry} {ck : Nat} {m : List (κ × α)} {key : κ} (hok : MapOk ek ea es ck m) :
    MapOk ek ea (match (m.map (·.1)).findIdx? (· = key) with | some i => es.eraseIdxIfInBounds i | none => es) ck (mdel m key) := by
  obtain ⟨h1, h2, h3, h4⟩ := hok
  cases hi : (m.map (·.1)).findIdx? (· = key) with
  | none => rw [mdel_none (idx_none hi).2]; exact ⟨h1, h2, h3, h4⟩
  | some i =>
    rw [mdel_at h4 hi]
    have he : (es.eraseIdxIfInBounds i).toList = es.toList.eraseIdx i := by
      unfold Array.eraseIdxIfInBounds
      split
      · simp
      · rw [List.eraseIdx_of_length_le (by simp; omega)]
    have hsub : ∀ {β : Type} (l : List β), (l.eraseIdx i).Sublist l := fun l => List.eraseIdx_sublist l i
    refine ⟨?_, ?_, ?_, ?_⟩
    · simp only [he, map_eraseIdx', h1]
    · simp only [he]; exact ((hsub es.toList).map _).nodup h2
    · intro e0 he0; simp only [he] at he0; exact h3 e0 ((hsub _).subset he0)
    · exact ((hsub m).map _).nodup h4

theorem d_put {k r : Nat} {m : List (κ × α)} {key : κ} {v : α} (hs : Sat w L) (hL : L[k]? = some (mapR ek ea r m)) (hk : KeyT P K ek) (ho : o.op = .mapUpdate t x y z) (ht : P.underlying t = some (.map K E))
    (hx : ev e x = .map (some r)) (hy : ev e y = ek key) (hz : ev e z = ea v) (h : ∀ w', Sat w' (L.set k (mapR ek ea r (mput m key v))) → N undef w') : Does P o e w N := by
  obtain ⟨es, ck, hok, h'⟩ := hs.mapR hL
  have hm := h'.obj k (set_get hL)
  have hp : ∀ {α : Type} (x : α) (w : World), Sem.run P (pure x) w = .ok x w := fun _ _ => rfl
  have hf := hk.find key es.toList (m.map (·.1)) w hok.keys
  have hput := mapOk_put (key := key) (v := v) hok
  have hlt : r < w.heap.size := by
    rcases Nat.lt_or_ge r w.heap.size with h' | h'
    · exact h'
    · rw [Array.getElem?_eq_none h'] at hm; cases hm
  have fin : ∀ es' ck', MapOk ek ea es' ck' (mput m key v) → Sat { w with heap := w.heap.setIfInBounds r (.map es' ck') } (L.set k (mapR ek ea r (mput m key v))) := by
    intro es' ck' hok'
    have hw := h'.write (w' := { w with heap := w.heap.setIfInBounds r (.map es' ck') }) (o' := .map es' ck') k (set_get hL) (by simp [hlt]) (fun b hb => by simp [Array.getElem?_setIfInBounds_ne (Ne.symm hb)]) rfl rfl (by simp)
    simp only [List.set_set] at hw
    have := hw.mkMap (ek := ek) (ea := ea) (set_get hL) hok'
    simpa only [List.set_set] using this
  cases hi : (m.map (·.1)).findIdx? (· = key) with
  | none =>
    simp only [hi] at hput
    refine d_skip (w' := { w with heap := w.heap.setIfInBounds r (.map (es.push ⟨ek key, ea v, ck⟩) (ck + 1)) }) ?_ (h _ (fin _ _ hput))
    simp only [execOp, ho, hx, hy, hz, Instr.mapUpdate, Sem.run_bind, run_underlying ht, Result.andThen, run_getObj hm, hk.chk, hf, hi, run_setObj hm]; rfl
  | some i =>
    simp only [hi] at hput
    obtain ⟨v0, h1, h2, h3⟩ := idx_some hi
    obtain ⟨bn, h4⟩ := hok.at h1
    have h4' : es[i]? = some ⟨ek key, ea v0, bn⟩ := by simpa using h4
    have hstay : (Instr.keyThatStays (ek key) (ek key)).run P w = .ok (ek key) w := by simp only [Instr.keyThatStays, hk.same, if_true]; rfl
    refine d_skip (w' := { w with heap := w.heap.setIfInBounds r (.map (es.modify i fun e => { e with key := ek key, val := ea v }) ck) }) ?_ (h _ (fin _ _ hput))
    simp only [execOp, ho, hx, hy, hz, Instr.mapUpdate, Sem.run_bind, run_underlying ht, Result.andThen, run_getObj hm, hk.chk, hf, hi, h4, h4', Option.map_some, Option.getD_some, hstay, run_setObj hm]; rfl

theorem d_del {k r : Nat} {m : List (κ × α)} {key : κ} {ts : Array TypeId} (hs : Sat w L) (hL : L[k]? = some (mapR ek ea r m)) (hk : KeyT P K ek) (ho : o.op = .call ⟨.builtin .delete, #[x, y], ts⟩) (h0 : ts[0]? = some t) (ht : P.underlying t = some (.map K E))
    (hx : ev e x = .map (some r)) (hy : ev e y = ek key) (h : ∀ w', Sat w' (L.set k (mapR ek ea r (mdel m key))) → N (.tuple #[]) w') : Does P o e w N := by
  obtain ⟨es, ck, hok, h'⟩ := hs.mapR hL
  have hm := h'.obj k (set_get hL)
  have hp : ∀ {α : Type} (x : α) (w : World), Sem.run P (pure x) w = .ok x w := fun _ _ => rfl
  have hf := hk.find key es.toList (m.map (·.1)) w hok.keys
  have hdel := mapOk_del (key := key) hok
  have hlt : r < w.heap.size := by
    rcases Nat.lt_or_ge r w.heap.size with h' | h'
    · exact h'
    · rw [Array.getElem?_eq_none h'] at hm; cases hm
  have hm2 : Array.map (ev e) #[x, y] = #[.map (some r), ek key] := by simp [hx, hy]
  have fin : ∀ es', MapOk ek ea es' ck (mdel m key) → Sat { w with heap := w.heap.setIfInBounds r (.map es' ck) } (L.set k (mapR ek ea r (mdel m key))) := by
    intro es' hok'
    have hw := h'.write (w' := { w with heap := w.heap.setIfInBounds r (.map es' ck) }) (o' := .map es' ck) k (set_get hL) (by simp [hlt]) (fun b hb => by simp [Array.getElem?_setIfInBounds_ne (Ne.symm hb)]) rfl rfl (by simp)
    simp only [List.set_set] at hw
    have := hw.mkMap (ek := ek) (ea := ea) (set_get hL) hok'
    simpa only [List.set_set] using this
  cases hi : (m.map (·.1)).findIdx? (· = key) with
  | none =>
    simp only [hi] at hdel
    refine d_val (w' := { w with heap := w.heap.setIfInBounds r (.map es ck) }) ?_ (h _ (fin _ hdel))
    simp only [execOp, ho, resolve, Sem.run_bind, hp, Result.andThen, invoke, builtin, hm2, Builtin.delete_, h0, List.getElem?_toArray, List.getElem?_cons_zero, List.getElem?_cons_succ, run_underlying ht, run_getObj hm, hk.chk, hf, hi, run_setObj hm]
  | some i =>
    simp only [hi] at hdel
    obtain ⟨v0, h1, h2, h3⟩ := idx_some hi
    obtain ⟨bn, h4⟩ := hok.at h1
    refine d_val (w' := { w with heap := w.heap.setIfInBounds r (.map (es.eraseIdxIfInBounds i) ck) }) ?_ (h _ (fin _ hdel))
    simp only [execOp, ho, resolve, Sem.run_bind, hp, Result.andThen, invoke, builtin, hm2, Builtin.delete_, h0, List.getElem?_toArray, List.getElem?_cons_zero, List.getElem?_cons_succ, run_underlying ht, run_getObj hm, hk.chk, hf, hi, h4, Option.map_some, run_setObj hm]
end
end Go.Sl
/- General words: reading through slices and maps, case by case. No program. -/
namespace Go.Sl
open Go
section
variable {P : Program} {o : Oper} {e : Env} {w : World} {x y z : Operand} {t K E : TypeId} {N : Value → World → Prop} {L : List HP}

theorem flat_len {α : Type} {f : α → List Value} {m : Nat} (hf : ∀ x, (f x).length = m) (l : List α) : (l.flatMap f).length = l.length * m := by
  induction l with
  | nil => simp
  | cons a l ih => simp [hf, ih, Nat.add_mul]; omega
theorem flat_get {α : Type} {f : α → List Value} {m : Nat} (hf : ∀ x, (f x).length = m) : ∀ (l : List α) {i j : Nat} {x : α}, l[i]? = some x → j < m → (l.flatMap f)[i * m + j]? = (f x)[j]? := by
  intro l
  induction l with
  | nil => intro i j x h; simp at h
  | cons a l ih =>
    intro i j x h hj
    cases i with
    | zero => simp at h; subst h; simp only [List.flatMap_cons, Nat.zero_mul, Nat.zero_add]; rw [List.getElem?_append_left (by rw [hf]; exact hj)]
    | succ i =>
      simp at h
      simp only [List.flatMap_cons]
      rw [List.getElem?_append_right (by rw [hf, Nat.add_mul]; omega), hf, ← ih h hj]
      congr 1; rw [Nat.add_mul]; omega

/-- the cells of element i of an owned slice -/
theorem Sat.slrow {α : Type} {f : α → List Value} {m E n c k r ofs i : Nat} {l : List α} {x : α} (hs : Sat w L) (hk : L[k]? = some (Sl.sl m E (some ⟨r, ofs, none⟩) n c (l.flatMap f))) (hf : ∀ x, (f x).length = m)
    (hi : l[i]? = some x) : ∀ j v, (f x)[j]? = some v → w.cell? ⟨r, ofs + i * m + j, none⟩ = some v := by
  intro j v hj
  have hlt : j < m := by
    rw [← hf x]
    rcases Nat.lt_or_ge j (f x).length with h' | h'
    · exact h'
    · rw [List.getElem?_eq_none h'] at hj; cases hj
  rw [Nat.add_assoc]
  exact hs.slcell hk rfl (by rw [flat_get hf l hi hlt]; exact hj)

theorem r_idx {n c m r ofs : Nat} {i : Int} {k : IntKind} (ho : o.op = .indexAddr t x y) (ht : P.underlying t = some (.slice E)) (hm : ∀ w, (sizeOf E).run P w = .ok m w) (hx : ev e x = .slice (some ⟨r, ofs, none⟩) n c) (hy : ev e y = .int k i)
    (h0 : 0 ≤ i) (h1 : i < n) {j : Nat} (hj : ofs + i.toNat * m = j) : (execOp (ev e) o).run P w = .ok (.value (.pointer (some ⟨r, j, none⟩))) w := by
  subst hj
  have hp : ∀ {α : Type} (x : α) (w : World), Sem.run P (pure x) w = .ok x w := fun _ _ => rfl
  simp only [execOp, ho, hx, hy, Instr.indexAt, asIntOf, Sem.run_bind, run_underlying ht, Result.andThen, hp, hm, add_at, if_pos (And.intro h0 h1)]

theorem r_look_some {α κ : Type} [DecidableEq κ] {ek : κ → Value} {ea : α → Value} {k r : Nat} {m : List (κ × α)} {key : κ} {zv val : Value} {v : α} (hs : Sat w L) (hL : L[k]? = some (mapR ek ea r m)) (h : mget m key = some v) (hv : ea v = val) (hk : KeyT P K ek)
    (ho : o.op = .lookup t x y false) (ht : P.underlying t = some (.map K E)) (hz : ∀ w, (zeroValue E).run P w = .ok zv w) (hx : ev e x = .map (some r)) (hy : ev e y = ek key) : (execOp (ev e) o).run P w = .ok (.value val) w := by
  rw [r_look hs hL hk ho ht hz hx hy, h]; simp [hv]
theorem r_look_none {α κ : Type} [DecidableEq κ] {ek : κ → Value} {ea : α → Value} {k r : Nat} {m : List (κ × α)} {key : κ} {zv : Value} (hs : Sat w L) (hL : L[k]? = some (mapR ek ea r m)) (h : mget m key = none) (hk : KeyT P K ek)
    (ho : o.op = .lookup t x y false) (ht : P.underlying t = some (.map K E)) (hz : ∀ w, (zeroValue E).run P w = .ok zv w) (hx : ev e x = .map (some r)) (hy : ev e y = ek key) : (execOp (ev e) o).run P w = .ok (.value zv) w := by
  rw [r_look hs hL hk ho ht hz hx hy, h]; rfl
theorem r_look2_some {α κ : Type} [DecidableEq κ] {ek : κ → Value} {ea : α → Value} {k r : Nat} {m : List (κ × α)} {key : κ} {zv val : Value} {v : α} (hs : Sat w L) (hL : L[k]? = some (mapR ek ea r m)) (h : mget m key = some v) (hv : ea v = val) (hk : KeyT P K ek)
    (ho : o.op = .lookup t x y true) (ht : P.underlying t = some (.map K E)) (hz : ∀ w, (zeroValue E).run P w = .ok zv w) (hx : ev e x = .map (some r)) (hy : ev e y = ek key) : (execOp (ev e) o).run P w = .ok (.value (.tuple #[val, .bool true])) w := by
  rw [r_look2 hs hL hk ho ht hz hx hy, h]; simp [hv]
theorem r_look2_none {α κ : Type} [DecidableEq κ] {ek : κ → Value} {ea : α → Value} {k r : Nat} {m : List (κ × α)} {key : κ} {zv : Value} (hs : Sat w L) (hL : L[k]? = some (mapR ek ea r m)) (h : mget m key = none) (hk : KeyT P K ek)
    (ho : o.op = .lookup t x y true) (ht : P.underlying t = some (.map K E)) (hz : ∀ w, (zeroValue E).run P w = .ok zv w) (hx : ev e x = .map (some r)) (hy : ev e y = ek key) : (execOp (ev e) o).run P w = .ok (.value (.tuple #[zv, .bool false])) w := by
  rw [r_look2 hs hL hk ho ht hz hx hy, h]; rfl

/-- s[l:h] of a slice -/
theorem r_slice {a : Option Addr} {n c m : Nat} {lo hi : Option Operand} {l h : Nat} {a' : Option Addr} (ho : o.op = .slice t x lo hi none) (ht : P.underlying t = some (.slice E)) (hm : ∀ w, (sizeOf E).run P w = .ok m w) (hx : ev e x = .slice a n c)
    (hlo : match lo with | none => l = 0 | some q => ∃ k, ev e q = .int k (l : Int)) (hhi : match hi with | none => h = n | some q => ∃ k, ev e q = .int k (h : Int)) (h1 : l ≤ h) (h2 : h ≤ c)
    (ha : (if c = l then a else a.map (·.add (l * m))) = a') : (execOp (ev e) o).run P w = .ok (.value (.slice a' (h - l) (c - l))) w := by
  subst ha
  have hp : ∀ {α : Type} (x : α) (w : World), Sem.run P (pure x) w = .ok x w := fun _ _ => rfl
  have hb : ∀ (q : Value) (k : IntKind) (i y : Nat) (cd : BoundsCode), q = .int k (i : Int) → i ≤ y → ∀ w, (Instr.sliceBound q y cd).run P w = .ok i w := by
    intro q k i y cd hq hle w
    subst hq
    have : (0 : Int) ≤ (i : Int) ∧ (i : Int) ≤ (y : Int) := ⟨by omega, by omega⟩
    simp only [Instr.sliceBound, asIntOf, Sem.run_bind, hp, Result.andThen, if_pos this, Int.toNat_natCast]
  have hmain : (Instr.slice t (.slice a n c) (lo.map (ev e)) (hi.map (ev e)) none).run P w = .ok (.slice (if c = l then a else a.map (·.add (l * m))) (h - l) (c - l)) w := by
    cases lo with
    | none =>
      subst hlo
      cases hi with
      | none => subst hhi; simp only [Instr.slice, Option.map_none, Sem.run_bind, run_underlying ht, Result.andThen, Instr.sliceBounds, hp, hm]
      | some q =>
        obtain ⟨k, hq⟩ := hhi
        simp only [Instr.slice, Option.map_none, Option.map_some, Sem.run_bind, run_underlying ht, Result.andThen, Instr.sliceBounds, hp, hm, if_true, hb _ k h c .sliceAcap hq h2]
    | some p =>
      obtain ⟨kp, hpq⟩ := hlo
      cases hi with
      | none => subst hhi; simp only [Instr.slice, Option.map_none, Option.map_some, Sem.run_bind, run_underlying ht, Result.andThen, Instr.sliceBounds, hp, hm, Option.isSome_none, Bool.false_eq_true, if_false, hb _ kp l h .sliceB hpq h1]
      | some q =>
        obtain ⟨k, hq⟩ := hhi
        simp only [Instr.slice, Option.map_some, Sem.run_bind, run_underlying ht, Result.andThen, Instr.sliceBounds, hp, hm, if_true, Option.isSome_none, Bool.false_eq_true, if_false, hb _ k h c .sliceAcap hq h2, hb _ kp l h .sliceB hpq h1]
  simp only [execOp, ho, hx, Option.map_none, Sem.run_bind, Result.andThen, Instr.sliceAt, run_underlying ht, hmain, hp]
end
end Go.Sl
/- General words: globals, texts walked rune by rune, new slices, copies. No program. -/
namespace Go.Sl
open Go

/-- cells that all may read and nobody writes -/
def gcell (r : Nat) (vs : List Value) : HP := ⟨fun w R F => (∀ b, ¬ F b) ∧ R r ∧ ∀ j v, vs[j]? = some v → w.cell? ⟨r, j, none⟩ = some v, by
  rintro w w' R R' F ⟨h1, h2, h3⟩ hag hR
  refine ⟨h1, hR r h2, fun j v hj => ?_⟩
  have := h3 j v hj
  simp only [World.cell?, hag.blk r (.inr h2)] at this ⊢
  exact this⟩
theorem Sat.gcell {w : World} {L : List HP} (h : Sat w L) (k : Nat) {r : Nat} {vs : List Value} (hk : L[k]? = some (Sl.gcell r vs)) : ∀ j v, vs[j]? = some v → w.cell? ⟨r, j, none⟩ = some v := by
  obtain ⟨R, F, _, h2⟩ := (h.perm (perm_eraseIdx hk)).head
  exact h2.2.2
theorem gdrop {vs : List Value} {w : World} {r ofs : Nat} (h : ∀ j v, vs[j]? = some v → w.cell? ⟨r, j, none⟩ = some v) {us : List Value} (hu : (vs.drop ofs).take us.length = us) : ∀ j v, us[j]? = some v → w.cell? ⟨r, ofs + j, none⟩ = some v := by
  intro j v hj
  refine h _ _ ?_
  have hlt : j < us.length := by
    rcases Nat.lt_or_ge j us.length with h' | h'
    · exact h'
    · rw [List.getElem?_eq_none h'] at hj; cases hj
  rw [← hu, List.getElem?_take, if_pos hlt, List.getElem?_drop] at hj
  exact hj

section
variable {P : Program} {o : Oper} {e : Env} {w : World} {x y z : Operand} {t K E T : TypeId} {N : Value → World → Prop} {L : List HP}

theorem Sat.push {w' : World} (hs : Sat w L) {ob : Obj} (hr : w' = { w with heap := w.heap.push ob }) : Sat w' (Sl.obj w.heap.size ob :: L) := by subst hr; exact hs.new ob

/-! slices that are only read -/
theorem Sat.rs {m n c k : Nat} {a : Option Addr} {xs : List Value} (hs : Sat w L) (hk : L[k]? = some (Sl.rs m a n c xs)) :
    (a = none ∧ n = 0 ∧ c = 0 ∧ xs = []) ∨ ∃ r ofs, a = some ⟨r, ofs, none⟩ ∧ xs.length = n * m ∧ n ≤ c ∧ ∀ (j : Nat) (v : Value), xs[j]? = some v → w.cell? ⟨r, ofs + j, none⟩ = some v := by
  have h := hs.perm (perm_eraseIdx hk)
  cases a with
  | none => left; have := (sat_pur.1 h).1; exact ⟨rfl, this⟩
  | some ad =>
    right
    obtain ⟨⟨arr, T, fz⟩, h⟩ := sat_ex.1 h
    obtain ⟨⟨h1, h2, h3, h4, h5⟩, h6⟩ := sat_pur.1 (sat_star.1 h)
    obtain ⟨r, ofs, sp⟩ := ad
    simp at h1
    subst h1
    exact ⟨r, ofs, rfl, h2, h3, fun j v hj => cell_of (h6.ro 0 rfl) (h5 j v hj)⟩
theorem Sat.rscell {m n c k : Nat} {a : Option Addr} {xs : List Value} (hs : Sat w L) (hk : L[k]? = some (Sl.rs m a n c xs)) {r ofs j : Nat} {v : Value} (ha : a = some ⟨r, ofs, none⟩) (hj : xs[j]? = some v) : w.cell? ⟨r, ofs + j, none⟩ = some v := by
  rcases hs.rs hk with ⟨h, _⟩ | ⟨r', ofs', h1, _, _, h5⟩
  · rw [ha] at h; cases h
  · rw [ha] at h1; cases h1; exact h5 j v hj
theorem Sat.rssome {m n c k : Nat} {a : Option Addr} {xs : List Value} (hs : Sat w L) (hk : L[k]? = some (Sl.rs m a n c xs)) (hn : 0 < n) : ∃ r ofs, a = some ⟨r, ofs, none⟩ := by
  rcases hs.rs hk with ⟨_, h, _⟩ | ⟨r', ofs', h1, _⟩
  · omega
  · exact ⟨_, _, h1⟩
theorem Sat.rslen {m n c k : Nat} {a : Option Addr} {xs : List Value} (hs : Sat w L) (hk : L[k]? = some (Sl.rs m a n c xs)) : xs.length = n * m ∧ n ≤ c := by
  rcases hs.rs hk with ⟨_, h1, h2, h3⟩ | ⟨r', ofs', h1, h2, h3, _⟩
  · subst h1; subst h2; subst h3; simp
  · exact ⟨h2, h3⟩
theorem Sat.rsrow {α : Type} {f : α → List Value} {m n c k r ofs i : Nat} {l : List α} {x : α} (hs : Sat w L) (hk : L[k]? = some (Sl.rs m (some ⟨r, ofs, none⟩) n c (l.flatMap f))) (hf : ∀ x, (f x).length = m)
    (hi : l[i]? = some x) : ∀ j v, (f x)[j]? = some v → w.cell? ⟨r, ofs + i * m + j, none⟩ = some v := by
  intro j v hj
  have hlt : j < m := by
    rw [← hf x]
    rcases Nat.lt_or_ge j (f x).length with h' | h'
    · exact h'
    · rw [List.getElem?_eq_none h'] at hj; cases hj
  rw [Nat.add_assoc]
  exact hs.rscell hk rfl (by rw [flat_get hf l hi hlt]; exact hj)
/-- a part of it, once more -/
theorem Sat.rscut {m n c k l h : Nat} {a : Option Addr} {xs ys : List Value} (hs : Sat w L) (hk : L[k]? = some (Sl.rs m a n c xs)) (h1 : l ≤ h) (h2 : h ≤ n) (hys : ys = (xs.drop (l * m)).take ((h - l) * m)) :
    Sat w (Sl.rs m (if c = l then a else a.map (·.add (l * m))) (h - l) (c - l) ys :: L) := by
  subst hys
  obtain ⟨R, F, g1, g2, g3⟩ := hs
  obtain ⟨F1, F2, g5, g6, g7, g9⟩ := stars_perm (perm_eraseIdx hk) g3
  cases a with
  | none =>
    obtain ⟨g7, q1, q2, q3⟩ := g7
    subst q1; subst q2; subst q3
    refine ⟨R, F, g1, g2, fun _ => False, F, fun b => by simp, fun b hb => hb.elim, ?_, g3⟩
    have : l = 0 := by omega
    subst this
    exact ⟨fun b => id, by omega, by omega, by simp⟩
  | some ad =>
    obtain ⟨⟨arr, T, fz⟩, G1, G2, q1, q2, ⟨q3, q4, q5, q6, q7, q8⟩, q9, q10, q11⟩ := g7
    simp only at q4 q5 q6 q7 q8
    refine ⟨R, F, g1, g2, fun _ => False, F, fun b => by simp, fun b hb => hb.elim, ?_, g3⟩
    have hle : (h - l) * m + l * m ≤ n * m := by rw [← Nat.add_mul]; exact Nat.mul_le_mul_right _ (by omega)
    have hxs : ((xs.drop (l * m)).take ((h - l) * m)).length = (h - l) * m := by simp; omega
    by_cases hcl : c = l
    · have hz : h = l := by omega
      rw [if_pos hcl]
      refine ⟨⟨arr, T, fz⟩, fun _ => False, fun _ => False, fun b => by simp, fun b hb => hb.elim, ⟨fun b => id, q4, hxs, by omega, by simp [hcl], ?_⟩, fun b => id, q10, q11⟩
      intro j v hj; subst hz; simp at hj
    · rw [if_neg hcl]
      have hadd : ad.add (l * m) = ⟨ad.block, ad.off + l * m, none⟩ := by
        obtain ⟨r, ofs, sp⟩ := ad; simp at q4; subst q4; exact add_at r ofs (l * m)
      simp only [Option.map_some, hadd]
      refine ⟨⟨arr, T, fz⟩, fun _ => False, fun _ => False, fun b => by simp, fun b hb => hb.elim, ⟨fun b => id, rfl, hxs, by omega, ?_, ?_⟩, fun b => id, q10, q11⟩
      · simp only
        have : (c - l) * m + l * m = c * m := by rw [← Nat.add_mul]; congr 1; omega
        omega
      · intro j v hj
        have hlt : j < (h - l) * m := by
          rw [← hxs]
          rcases Nat.lt_or_ge j ((xs.drop (l * m)).take ((h - l) * m)).length with h' | h'
          · exact h'
          · rw [List.getElem?_eq_none h'] at hj; cases hj
        rw [List.getElem?_take, if_pos hlt, List.getElem?_drop] at hj
        have := q8 _ v hj
        simp only at this ⊢
        rw [← this]; congr 1; omega
/-- from now on it is only read -/
theorem Sat.slshare {m E n c k : Nat} {a : Option Addr} {xs : List Value} (hs : Sat w L) (hk : L[k]? = some (Sl.sl m E a n c xs)) : Sat w (L.set k (Sl.rs m a n c xs)) := by
  rcases hs.sl hk with ⟨rfl, rfl, rfl, rfl⟩ | ⟨r, ofs, arr, rfl, h2, h3, h4, h5, h6⟩
  · exact hs.perm ((perm_eraseIdx hk).trans (perm_set (y := Sl.rs m none 0 0 []) hk))
  · have hsh := h6.share k (set_get hk)
    simp only [List.set_set] at hsh
    have hk2 := set_get (y := Sl.ro r (.cells arr E (0, 0))) hk
    have h7 := hsh.perm (perm_eraseIdx hk2)
    have h8 : Sat w (Sl.rs m (some ⟨r, ofs, none⟩) n c xs :: (L.set k (Sl.ro r (.cells arr E (0, 0)))).eraseIdx k) :=
      sat_ex.2 ⟨(arr, E, (0, 0)), sat_star.2 (sat_pur.2 ⟨⟨rfl, h2, h3, .inr h4, h5⟩, h7⟩)⟩
    have h9 := h8.perm (perm_set hk2)
    simpa only [List.set_set] using h9

/-! rune by rune -/
theorem d_rangeS {s : ByteArray} (ho : o.op = .range t x) (ht : P.underlying t = some .string) (hx : ev e x = .string s) (hs : Sat w L) (h : ∀ r w', Sat w' (obj r (.stringIter s 0) :: L) → N (.pointer (some ⟨r, 0, none⟩)) w') : Does P o e w N := by
  refine d_val (w' := { w with heap := w.heap.push (.stringIter s 0) }) (v := .pointer (some ⟨w.heap.size, 0, none⟩)) ?_ (h _ _ (hs.new _))
  simp only [execOp, ho, hx, Instr.range, Sem.run_bind, run_underlying ht, Result.andThen, hpure, newObj, Sem.run]
theorem d_nextS {s : ByteArray} {k r pos : Nat} (ho : o.op = .next x true) (hx : ev e x = .pointer (some ⟨r, 0, none⟩)) (hs : Sat w L) (hk : L[k]? = some (obj r (.stringIter s pos)))
    (h1 : pos < s.size → ∀ w', Sat w' (L.set k (obj r (.stringIter s (pos + (Utf8.decode s pos).2)))) → N (.tuple #[.bool true, .int .i64 pos, .int .i32 (Utf8.decode s pos).1]) w')
    (h2 : s.size ≤ pos → N (.tuple #[.bool false]) w) : Does P o e w N := by
  have hg : (getObj r).run P w = .ok (.stringIter s pos) w := by simp [getObj, Sem.run, hs.obj k hk]
  have hlt : r < w.heap.size := by
    have := hs.obj k hk
    rcases Nat.lt_or_ge r w.heap.size with h' | h'
    · exact h'
    · rw [Array.getElem?_eq_none h'] at this; cases this
  by_cases hp : pos < s.size
  · refine d_val (w' := { w with heap := w.heap.setIfInBounds r (.stringIter s (pos + (Utf8.decode s pos).2)) }) ?_ (h1 hp _ (hs.write k hk (by simp [hlt]) (fun b hb => by simp [Array.getElem?_setIfInBounds_ne (Ne.symm hb)]) rfl rfl (by simp)))
    have hset : (setObj r (.stringIter s (pos + (Utf8.decode s pos).2))).run P w = .ok () { w with heap := w.heap.setIfInBounds r (.stringIter s (pos + (Utf8.decode s pos).2)) } := by simp [setObj, Sem.run, hs.obj k hk]
    simp only [execOp, ho, hx, Instr.next, Sem.run_bind, hg, Result.andThen, if_pos hp, hset, hpure]; rfl
  · refine d_val (w' := w) ?_ (h2 (by omega))
    simp only [execOp, ho, hx, Instr.next, Sem.run_bind, hg, Result.andThen, if_neg hp, hpure]

/-! new slices, copies -/
theorem d_make {l c m by_ : Nat} {z : Value} {kl kc : IntKind} {ti : TypeInfo} (ho : o.op = .makeSlice t x y) (ht : P.underlying t = some (.slice E)) (hx : ev e x = .int kl (l : Int)) (hy : ev e y = .int kc (c : Int)) (hm : ∀ w, (sizeOf E).run P w = .ok m w)
    (hi : ∀ w, (typeInfo E).run P w = .ok ti w) (hib : ti.bytes = by_) (hz : ∀ w, (zeroValue E).run P w = .ok z w) (hzm : z.cells.size = m) (hlc : l ≤ c) (hbig : c * by_ ≤ 2 ^ 40) (hint : c < 2 ^ 62) (hm0 : 0 < m) (hs : Sat w L)
    (h : ∀ a w', Sat w' (Sl.sl m E a l c ((List.range l).flatMap fun _ => z.cells.toList) :: L) → N (.slice a l c) w') : Does P o e w N := by
  have hw : ∀ n : Nat, n < 2 ^ 62 → IntKind.i64.wrap (n : Int) = n := fun n hn => wi64 (by omega)
  have hb1 : ¬ ((decide ((c : Int) < 0) || decide (((ti.bytes : Nat) : Int) * (c : Int) > 2 ^ 48)) = true) := by
    rw [hib]
    have : (by_ : Int) * (c : Int) = ((c * by_ : Nat) : Int) := by rw [Int.natCast_mul, Int.mul_comm]
    simp only [this, Bool.or_eq_true, decide_eq_true_eq]; omega
  have hroom : ∀ w : World, Sem.run P (askRoom (c * by_)) w = .ok () w := by
    intro w; unfold askRoom; rw [if_neg (by simp only [roomBytes]; omega)]; rfl
  have hl := hw l (by omega)
  have hc := hw c hint
  have hcond : ¬ ((decide ((c : Int) < 0) || decide ((by_ : Int) * (c : Int) > 2 ^ 48) || decide ((l : Int) < 0) || decide ((l : Int) > (c : Int))) = true) := by
    rw [hib] at hb1
    simp only [Bool.or_eq_true, decide_eq_true_eq] at hb1 ⊢; omega
  have hcells : ∃ arr : Array Value, (∀ (j : Nat) (v : Value), ((List.range l).flatMap fun _ => z.cells.toList)[j]? = some v → arr[j]? = some v) ∧ arr.size = c * m ∧
      (execOp (ev e) o).run P w = .ok (.value (.slice (some ⟨w.heap.size, 0, none⟩) l c)) { w with heap := w.heap.push (.cells arr E) } := by
    by_cases hc0 : c * m = 0
    · have hcz : c = 0 := by rcases Nat.mul_eq_zero.1 hc0 with h | h <;> omega
      have hlz : l = 0 := by omega
      refine ⟨#[], ?_, by simp [hcz], ?_⟩
      · intro j v hj; simp [hlz] at hj
      · simp only [execOp, ho, hx, hy, Instr.makeSlice, Sem.run_bind, run_underlying ht, Result.andThen, asInt, asIntOf, hpure, hi, hl, hc, hm, hib, if_neg hcond, hroom, Int.toNat_natCast, hc0]
        simp [newRow, newObj, Sem.run, Result.andThen, go_sem]
    · refine ⟨(Array.range (c * m)).map (z.cells[· % z.cells.size]!), ?_, by simp, ?_⟩
      · intro j v hj
        have hlen : ((List.range l).flatMap fun _ => z.cells.toList).length = l * m := by
          have := flat_len (f := fun _ : Nat => z.cells.toList) (m := m) (fun _ => by simpa using hzm) (List.range l)
          simpa using this
        have hjl : j < l * m := by
          rw [← hlen]
          rcases Nat.lt_or_ge j ((List.range l).flatMap fun _ => z.cells.toList).length with h' | h'
          · exact h'
          · rw [List.getElem?_eq_none h'] at hj; cases hj
        have hjc : j < c * m := Nat.lt_of_lt_of_le hjl (Nat.mul_le_mul_right _ hlc)
        have hdm := Nat.div_add_mod j m
        have hmod := Nat.mod_lt j hm0
        have hdl : j / m < l := by rw [Nat.div_lt_iff_lt_mul hm0]; exact hjl
        have hg := flat_get (f := fun _ : Nat => z.cells.toList) (m := m) (fun _ => by simpa using hzm) (List.range l) (i := j / m) (j := j % m) (x := j / m) (by simp [hdl]) hmod
        rw [show j / m * m + j % m = j from by rw [Nat.mul_comm]; exact hdm] at hg
        rw [hg] at hj
        simp only [Array.getElem?_map, Array.getElem?_range, if_pos hjc, Option.map_some, hzm]
        simp only [Array.getElem?_toList] at hj
        rw [getElem!_def, hj]
      · simp only [execOp, ho, hx, hy, Instr.makeSlice, Sem.run_bind, run_underlying ht, Result.andThen, asInt, asIntOf, hpure, hi, hl, hc, hm, hib, if_neg hcond, hroom, Int.toNat_natCast, if_neg hc0, hz]
        simp [newRow, newObj, Sem.run, Result.andThen, go_sem]
  obtain ⟨arr, h1, h2, h3⟩ := hcells
  refine d_val h3 (h _ _ ?_)
  exact (hs.new _).mkSl (k := 0) (ofs := 0) rfl (by
    have := flat_len (f := fun _ : Nat => z.cells.toList) (m := m) (fun _ => by simpa using hzm) (List.range l)
    simpa using this) hlc (by rw [h2]; omega) (fun j v hj => by rw [Nat.zero_add]; exact h1 j v hj)

/-- copy into a slice that owns its block, of no more than it has -/
theorem d_copy {a : Option Addr} {nd c m n k : Nat} {yv : Value} {xs ys zs : List Value} {ts : Array TypeId} (hl : Lends P w m yv n ys) (hyl : ys.length = n * m) (hs : Sat w L) (hk : L[k]? = some (Sl.sl m E a nd c xs))
    (ho : o.op = .call ⟨.builtin .copy, #[x, y], ts⟩) (hx : ev e x = .slice a nd c) (hy : ev e y = yv) (h0 : ts[0]? = some t) (ht : P.underlying t = some (.slice E)) (hm : ∀ w, (sizeOf E).run P w = .ok m w) (hle : n ≤ nd) (hone : ys.all one = true)
    (hz : zs = ys ++ xs.drop ys.length) (h : ∀ w', Sat w' (L.set k (Sl.sl m E a nd c zs)) → N (.int .i64 n) w') : Does P o e w N := by
  subst hz
  have hlen := (hl w.drawn).1
  have hcell := (hl w.drawn).2
  have hmin : n.min nd = n := Nat.min_eq_left hle
  have hm2 : Array.map (ev e) #[x, y] = #[.slice a nd c, yv] := by simp [hx, hy]
  rcases hs.sl hk with ⟨rfl, rfl, rfl, rfl⟩ | ⟨r, ofs, arr, rfl, h2, h3, h4, h5, h6⟩
  · obtain rfl : n = 0 := by omega
    obtain rfl : ys = [] := by simpa using hyl
    refine d_val (w' := w) ?_ (h w (hs.perm ((perm_eraseIdx hk).trans (perm_set hk))))
    simp only [execOp, ho, resolve, Sem.run_bind, hpure, Result.andThen, invoke, builtin, hm2, Builtin.copy_, h0, List.getElem?_toArray, List.getElem?_cons_zero, List.getElem?_cons_succ, run_underlying ht, hlen, hmin, hm, hcell, goInt]
  · have hfit : ofs + ys.length ≤ arr.size := by
      have : n * m ≤ nd * m := Nat.mul_le_mul_right _ hle
      have h7 : nd * m ≤ c * m := Nat.mul_le_mul_right _ h3
      omega
    obtain ⟨w', q1, q2, q3, q4, q5, q6⟩ := run_storeCells (P := P) ys (w := w) (r := r) (c := arr) (U := E) (ofs := ofs) (i := 0) (h6.obj k (set_get hk)) (by omega) (fun v hv => List.all_eq_true.1 hone v hv)
    refine d_val (w' := w') ?_ (h w' ?_)
    · simp only [execOp, ho, resolve, Sem.run_bind, hpure, Result.andThen, invoke, builtin, hm2, Builtin.copy_, h0, List.getElem?_toArray, List.getElem?_cons_zero, List.getElem?_cons_succ, run_underlying ht, hlen, hmin, hm, hcell, goInt, q1]
    · have hw := h6.write k (set_get hk) q2 q3 q4 q5 q6
      simp only [List.set_set, Nat.add_zero] at hw
      have hyx : ys.length ≤ xs.length := by rw [hyl, h2]; exact Nat.mul_le_mul_right _ hle
      have hw' := hw.mkSl (m := m) (E := E) (n := nd) (c := c) (k := k) (ofs := ofs) (xs := ys ++ xs.drop ys.length) (arr := writeAt arr ofs ys) (set_get hk)
        (by simp; omega) h3 (by rw [writeAt_size]; exact h4) (by
          intro j v hj
          rw [writeAt_get]
          by_cases hj2 : j < ys.length
          · rw [List.getElem?_append_left hj2] at hj
            rw [if_pos (by omega), ← hj]; congr 1; omega
          · rw [List.getElem?_append_right (by omega), List.getElem?_drop] at hj
            rw [if_neg (by omega)]
            refine h5 j v ?_
            rw [← hj]; congr 1; omega)
      simp only [List.set_set] at hw'
      exact hw'

/-! texts and bytes -/
theorem r_ixs {s : ByteArray} {kq : IntKind} {i : Nat} {b : UInt8} (ho : o.op = .index t x y) (ht : P.underlying t = some .string) (hx : ev e x = .string s) (hy : ev e y = .int kq (i : Int)) (hi : s.data[i]? = some b) :
    (execOp (ev e) o).run P w = .ok (.value (.int .u8 b.toNat)) w := by
  have h1 : s[i]? = some b := by
    have hlt : i < s.data.size := by
      rcases Nat.lt_or_ge i s.data.size with h' | h'
      · exact h'
      · rw [Array.getElem?_eq_none h'] at hi; cases hi
    have hlt' : i < s.size := hlt
    rw [getElem?_pos s i hlt']
    rw [Array.getElem?_eq_getElem hlt] at hi
    exact hi
  have h2 : (if (0 : Int) ≤ (i : Int) then s[(i : Int).toNat]? else none) = some b := by rw [if_pos (by omega)]; exact h1
  simp only [execOp, ho, hx, hy, Instr.index, asIntOf, Sem.run_bind, run_underlying ht, Result.andThen, hpure, h2]
theorem r_ixa {cs : Array Value} {n : Nat} {kq : IntKind} {i : Nat} {v : Value} (ho : o.op = .index t x y) (ht : P.underlying t = some (.array n E)) (hE : ∀ w, (isAgg E).run P w = .ok false w) (hm : ∀ w, (sizeOf E).run P w = .ok 1 w) (hx : ev e x = .agg cs) (hy : ev e y = .int kq (i : Int)) (hn : i < n) (hi : cs[i]? = some v) :
    (execOp (ev e) o).run P w = .ok (.value v) w := by
  have h1 : (0 : Int) ≤ (i : Int) ∧ (i : Int) < (n : Int) := ⟨by omega, by omega⟩
  simp only [execOp, ho, hx, hy, Instr.index, asIntOf, Sem.run_bind, run_underlying ht, Result.andThen, hpure, if_pos h1, hm, part, hE, Bool.false_eq_true, if_false, Int.toNat_natCast, Nat.mul_one, hi]
theorem r_sls {s : ByteArray} {lo hi : Option Operand} {l h : Nat} (ho : o.op = .slice t x lo hi none) (ht : P.underlying t = some .string) (hx : ev e x = .string s)
    (hlo : match lo with | none => l = 0 | some q => ∃ k, ev e q = .int k (l : Int)) (hhi : match hi with | none => h = s.size | some q => ∃ k, ev e q = .int k (h : Int)) (h1 : l ≤ h) (h2 : h ≤ s.size) :
    (execOp (ev e) o).run P w = .ok (.value (.string (s.extract l h))) w := by
  have hb : ∀ (q : Value) (k : IntKind) (i y : Nat) (cd : BoundsCode), q = .int k (i : Int) → i ≤ y → ∀ w, (Instr.sliceBound q y cd).run P w = .ok i w := by
    intro q k i y cd hq hle w
    subst hq
    have : (0 : Int) ≤ (i : Int) ∧ (i : Int) ≤ (y : Int) := ⟨by omega, by omega⟩
    simp only [Instr.sliceBound, asIntOf, Sem.run_bind, hpure, Result.andThen, if_pos this, Int.toNat_natCast]
  have hmain : (Instr.slice t (.string s) (lo.map (ev e)) (hi.map (ev e)) none).run P w = .ok (.string (s.extract l h)) w := by
    cases lo with
    | none =>
      subst hlo
      cases hi with
      | none => subst hhi; simp only [Instr.slice, Option.map_none, Sem.run_bind, run_underlying ht, Result.andThen, Instr.sliceBounds, hpure, Option.isSome_none, Bool.false_eq_true, if_false]
      | some q =>
        obtain ⟨k, hq⟩ := hhi
        simp only [Instr.slice, Option.map_none, Option.map_some, Sem.run_bind, run_underlying ht, Result.andThen, Instr.sliceBounds, hpure, Option.isSome_none, Bool.false_eq_true, if_false, hb _ k h s.size .sliceAlen hq h2]
    | some p =>
      obtain ⟨kp, hpq⟩ := hlo
      cases hi with
      | none => subst hhi; simp only [Instr.slice, Option.map_none, Option.map_some, Sem.run_bind, run_underlying ht, Result.andThen, Instr.sliceBounds, hpure, Option.isSome_none, Bool.false_eq_true, if_false, hb _ kp l s.size .sliceB hpq h1]
      | some q =>
        obtain ⟨k, hq⟩ := hhi
        simp only [Instr.slice, Option.map_some, Sem.run_bind, run_underlying ht, Result.andThen, Instr.sliceBounds, hpure, Option.isSome_none, Bool.false_eq_true, if_false, hb _ k h s.size .sliceAlen hq h2, hb _ kp l h .sliceB hpq h1]
  simp only [execOp, ho, hx, Option.map_none, Sem.run_bind, Result.andThen, Instr.sliceAt, run_underlying ht, hmain, hpure]
end
end Go.Sl
/- General words for ranges over functions: the same rules, in any frame; rounds; the statement. No program. -/
namespace Go.Sl
open Go

def WF (r : Option Nat) : Fence := { Fence.wide with round := r }
theorem wf_calls {r : Option Nat} {n : Nat} {P : Program} {f : FuncId} {args : Array Value} {w : World} {R : Ending → World → Prop} (h : Calls P f args w R) : CallsIn (WF r) n P f args w R :=
  (callsIn_wide (n := n)).2 h
theorem wf_room (r : Option Nat) (n : Nat) : (WF r).room n := fun _ h => by simp [WF, Fence.wide] at h

def mark (D : Nat) : Deferred := { target := .collected D, args := #[] }
structure FitsD (n : Nat) (ds : List Nat) (a : Act) (e : Env) : Prop where
  size : a.tmps.size = n
  defs : a.defers = ds.map mark
  get : ∀ t, a.tmps.getD t undef = e t
theorem FitsD.fits {n : Nat} {a : Act} {e : Env} {ds : List Nat} (h : FitsD n ds a e) : Fits n { a with defers := [] } e := ⟨h.size, rfl, h.get⟩
theorem FitsD.ev {n : Nat} {ds : List Nat} {a : Act} {e : Env} (h : FitsD n ds a e) : a.eval = Sl.ev e := by
  have := h.fits.evs
  funext x
  have h2 := congrFun this x
  cases x <;> exact h2
theorem FitsD.putO {n : Nat} {ds : List Nat} {a : Act} {e : Env} (h : FitsD n ds a e) {d : Option Nat} (hd : inO n d = true) (v : Value) : FitsD n ds (a.put d v) (putO e d v) := by
  have h1 := h.fits.putO hd v
  refine ⟨?_, ?_, ?_⟩
  · cases d <;> exact h1.size
  · cases d <;> exact h.defs
  · cases d <;> exact h1.get

abbrev NP := List Nat → Env → World → Prop
def cpostD (n : Nat) (N R : NP) (E : Nat → NP) : Exit → Act → World → Prop
  | .normal, a, w => ∃ ds e, FitsD n ds a e ∧ N ds e w
  | .ret, a, w => ∃ ds e, FitsD n ds a e ∧ R ds e w
  | .exit i, a, w => ∃ ds e, FitsD n ds a e ∧ E i ds e w
  | _, _, _ => False
def CI (r : Option Nat) (P : Program) (n : Nat) (c : Code) (N R : NP) (E : Nat → NP) (ds : List Nat) (e : Env) (w : World) : Prop :=
  ∀ a, FitsD n ds a e → c.wpIn (WF r) 0 P (cpostD n N R E) a w

section
variable {r : Option Nat} {P : Program} {n : Nat} {N R : NP} {E : Nat → NP} {ds : List Nat} {e : Env} {w : World}
theorem ci_seq {x y : Code} (h : CI r P n x (fun ds e w => CI r P n y N R E ds e w) R E ds e w) : CI r P n (.seq x y) N R E ds e w := by
  intro a ha
  refine wpIn_seq (wpIn_mono (h a ha) ?_)
  intro ex a' w' q
  cases ex with
  | normal => obtain ⟨ds', e', hf, hn⟩ := q; exact hn a' hf
  | _ => exact q
theorem ci_skip (h : N ds e w) : CI r P n .skip N R E ds e w := fun _ ha => wpIn_skip ⟨ds, e, ha, h⟩
theorem ci_ret (h : R ds e w) : CI r P n .ret N R E ds e w := fun _ ha => wpIn_ret ⟨ds, e, ha, h⟩
theorem ci_exit {i : Nat} (h : E i ds e w) : CI r P n (.exit i) N R E ds e w := fun _ ha => wpIn_exit ⟨ds, e, ha, h⟩
def bkI (id : Nat) (N : NP) (E : Nat → NP) : Nat → NP := fun i ds e w => bif Nat.beq i id then N ds e w else E i ds e w
theorem bkI_here {id : Nat} {N' : NP} (h : N' ds e w) : bkI id N' E id ds e w := by simpa [bkI] using h
theorem bkI_up {i id : Nat} {N' : NP} (hne : Nat.beq i id = false) (h : E i ds e w) : bkI id N' E i ds e w := by simpa [bkI, hne] using h
theorem ci_block {id : Nat} {c : Code} (h : CI r P n c N R (bkI id N E) ds e w) : CI r P n (.block id c) N R E ds e w := by
  intro a ha
  refine wpIn_block (wpIn_mono (h a ha) ?_)
  intro ex a' w' q
  cases ex with
  | exit i =>
    obtain ⟨ds', e', hf, hn⟩ := q
    by_cases hi : i = id
    · subst hi
      simp only [Exit.inBlock, if_true]
      exact ⟨ds', e', hf, by simpa [bkI] using hn⟩
    · simp only [Exit.inBlock, if_neg hi]
      exact ⟨ds', e', hf, by simpa [bkI, beq_ne hi] using hn⟩
  | _ => exact q
theorem ci_if {c : Operand} {x y : Code} {b : Bool} (hc : ev e c = .bool b) (ht : b = true → CI r P n x N R E ds e w) (hf : b = false → CI r P n y N R E ds e w) :
    CI r P n (.cond c x y) N R E ds e w := fun a ha => wpIn_cond_split (by rw [ha.ev, hc]) (fun h => ht h a ha) (fun h => hf h a ha)
theorem ci_yes {c : Operand} {x y : Code} {b : Bool} (hc : ev e c = .bool b) (hb : b = true) (h : CI r P n x N R E ds e w) : CI r P n (.cond c x y) N R E ds e w := ci_if hc (fun _ => h) (fun h' => by rw [hb] at h'; cases h')
theorem ci_no {c : Operand} {x y : Code} {b : Bool} (hc : ev e c = .bool b) (hb : b = false) (h : CI r P n y N R E ds e w) : CI r P n (.cond c x y) N R E ds e w := ci_if hc (fun h' => by rw [hb] at h'; cases h') (fun _ => h)
theorem ci_loop {c : Code} (I : Nat → NP) (k₀ : Nat) (h₀ : I k₀ ds e w)
    (round : ∀ k ds e w, I k ds e w → CI r P n c (fun ds' e' w' => ∃ k', k' < k ∧ I k' ds' e' w') R E ds e w) : CI r P n (.loop c) N R E ds e w := by
  intro a ha
  refine wpIn_loop (fun a w => ∃ k ds e, FitsD n ds a e ∧ I k ds e w) (fun a w => leastOf fun k => ∃ ds e, FitsD n ds a e ∧ I k ds e w) ⟨k₀, ds, e, ha, h₀⟩ ?_
  intro a' w' hI
  obtain ⟨ds', e', hf, hI'⟩ := (leastOf_spec hI).1
  refine wpIn_mono (round _ ds' e' w' hI' a' hf) ?_
  intro ex a'' w'' q
  cases ex with
  | normal =>
    obtain ⟨ds2, e2, hf2, k', hlt, hI2⟩ := q
    exact ⟨⟨k', ds2, e2, hf2, hI2⟩, Nat.lt_of_le_of_lt ((leastOf_spec ⟨k', ds2, e2, hf2, hI2⟩).2 k' ⟨ds2, e2, hf2, hI2⟩) hlt⟩
  | _ => exact q
theorem ci_put {c : Code} {d : Nat} {v : Value} (h : e d = v) (hc : CI r P n c N R E ds (put e d v) w) : CI r P n c N R E ds e w := by rw [put_self h]; exact hc

def onlyD (n : Nat) (N : NP) : Exit → Act → World → Prop
  | .normal, a, w => ∃ ds e, FitsD n ds a e ∧ N ds e w
  | _, _, _ => False
def OpsI (r : Option Nat) (P : Program) (n : Nat) (ops : Array Oper) (l : List Oper) (N : NP) (ds : List Nat) (e : Env) (w : World) : Prop :=
  ∀ a, FitsD n ds a e → wpListIn (WF r) 0 P ops (onlyD n N) l a w
theorem ci_region {id : Nat} {l : List Oper} (h : OpsI r P n l.toArray l N ds e w) : CI r P n (.region id l.toArray false) N R E ds e w := by
  intro a ha
  refine wpIn_mono (wpIn_region_lit (h a ha)) ?_
  intro ex a' w' q
  cases ex with
  | normal => exact q
  | _ => exact q.elim
variable {ops : Array Oper} {d : Nat} {op : Op} {ty : TypeId} {pos : String} {aft : Array Edge} {g : Option (Nat × Bool)} {l : List Oper}
theorem oi_nil (h : N ds e w) : OpsI r P n ops [] N ds e w := fun _ ha => wpListIn_nil ⟨ds, e, ha, h⟩
theorem wanted_fitsD {a : Act} (h : FitsD n ds a e) (o : Oper) : Region.wanted o (yielded ops a.tmps) = wanted ops e o := wanted_fits h.fits o
def isDefer : Op → Bool | .defer _ => true | _ => false
theorem oi_does {o : Oper} (hd : inO n o.dst = true) (hdf : isDefer o.op = false) (hw : wanted ops e o = true) (h : Does P o e w (fun v w' => OpsI r P n ops l N ds (putO e o.dst v) w')) :
    OpsI r P n ops (o :: l) N ds e w := by
  intro a ha
  unfold wpListIn
  rw [wanted_fitsD ha, if_pos hw]
  refine ⟨fun _ _ => trivial, ?_⟩
  rw [Oper.semAt_eq _ _ _ (fun c hc => by rw [hc] at hdf; cases hdf), ha.ev]
  have h := h.out
  unfold DoesB at h
  unfold Oper.uponIn
  split at h
  · rename_i v w' hr; simp only [hr]; exact h _ (ha.putO hd v)
  · rename_i w' hr; simp only [hr]; exact h _ (ha.putO hd undef)
  · rename_i f args w' hr
    simp only [hr]
    refine ⟨fun hx => by simp [WF, Fence.wide] at hx, (wf_calls h).mono fun e w'' q => ?_⟩
    cases e with
    | returned v => exact q _ (ha.putO hd v)
    | panicked c => exact q.elim
    | outgrown => exact q.elim
  · exact h.elim
theorem oi_s (hd : Nat.blt d n = true) (hw : wanted ops e ⟨some d, op, ty, pos, aft, g⟩ = true) (h : Does P ⟨some d, op, ty, pos, aft, g⟩ e w (fun v w' => OpsI r P n ops l N ds (put e d v) w'))
    (hdf : isDefer op = false := by rfl) : OpsI r P n ops (⟨some d, op, ty, pos, aft, g⟩ :: l) N ds e w := oi_does hd hdf hw h
theorem oi_u (hd : true = true) (hw : wanted ops e ⟨none, op, ty, pos, aft, g⟩ = true) (h : Does P ⟨none, op, ty, pos, aft, g⟩ e w (fun _ w' => OpsI r P n ops l N ds e w'))
    (hdf : isDefer op = false := by rfl) : OpsI r P n ops (⟨none, op, ty, pos, aft, g⟩ :: l) N ds e w := oi_does hd hdf hw h

/-- a call of a loop's yield -/
def YC (P : Program) (l : Nat) (args : Array Value) (w : World) (K : Value → World → Prop) : Prop :=
  ∃ f tmps assign body w1, (Instr.yield l args).run P w = .ok (.round l f tmps assign body) w1 ∧ RoundIn Fence.wide 0 P l f tmps assign body w1 (retd K)
theorem YC.mono {l : Nat} {args : Array Value} {K K' : Value → World → Prop} (h : YC P l args w K) (hk : ∀ v w, K v w → K' v w) : YC P l args w K' := by
  obtain ⟨f, tmps, as, bd, w1, h1, h2⟩ := h
  exact ⟨f, tmps, as, bd, w1, h1, h2.mono fun e w q => by cases e <;> first | exact hk _ _ q | exact q⟩
theorem oi_yield {y : Operand} {xs : Array Operand} {ts : Array TypeId} {lp : Nat} {args : List Value} (hd : Nat.blt d n = true) (hw : wanted ops e ⟨some d, .call ⟨.value y, xs, ts⟩, ty, pos, aft, g⟩ = true) (hy : ev e y = .func (.yield lp) #[] #[]) (hx : xs.toList.map (ev e) = args)
    (h : YC P lp args.toArray w (fun v w' => OpsI r P n ops l N ds (put e d v) w')) : OpsI r P n ops (⟨some d, .call ⟨.value y, xs, ts⟩, ty, pos, aft, g⟩ :: l) N ds e w := by
  intro a ha
  unfold wpListIn
  rw [wanted_fitsD ha, if_pos hw]
  refine ⟨fun _ _ => trivial, ?_⟩
  rw [Oper.semAt_eq _ _ _ (fun c hc => by cases hc), ha.ev]
  obtain ⟨f, tmps, as, bd, w1, h1, h2⟩ := h
  have hm : xs.map (ev e) = args.toArray := Array.ext' (by rw [Array.toList_map, hx])
  have hrun : (execOp (ev e) ⟨some d, .call ⟨.value y, xs, ts⟩, ty, pos, aft, g⟩).run P w = .ok (.round lp f tmps as bd) w1 := by
    simp only [execOp, resolve, hy, Deferred.ofValue, Sem.run_bind, hpure, Result.andThen, invoke, hm, Array.empty_append]
    exact h1
  rw [hrun]
  unfold Oper.uponIn
  refine ⟨fun hx => by simp [WF, Fence.wide] at hx, ?_⟩
  refine RoundIn.mono (F := Fence.wide) h2 fun e w'' q => ?_
  cases e with
  | returned v => exact q _ (ha.putO (d := some d) (by simpa [inO] using hd) v)
  | panicked c => exact q.elim
  | outgrown => exact q.elim
end
end Go.Sl
