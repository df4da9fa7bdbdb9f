/- The walks of two functions of the document's answer: which topologies may be. Printed by a program. -/
import Derived.Test.YtahhbplejfjmnaaGreatDoorSB
import Derived.Laws.StructEq
import Derived.Test.YtahhbplejfjmnaaGreatDoorProg
set_option maxRecDepth 20000
namespace Go.Proofs
open Go Go.Sl
structure Edg where
  frm : Int
  to : Int
def Edg.cs (x : Edg) : List Value := [.int .i64 x.frm, .int .i64 x.to]
theorem Edg.len (x : Edg) : x.cs.length = 2 := rfl
theorem fields_of' {P : Program} {t : TypeId} {fs : Array Field} (h : P.underlying t = some (.struct fs)) : P.fieldsOf t = fs := by simp [Program.fieldsOf, h]
theorem r_eqE {o : Oper} {e : Env} {x y : Operand} {u : TypeId} {w : World} {p q p' q' : Int} (ho : o.op = .binOp .eql 82 x y u) (hx : ev e x = .agg #[.int .i64 p, .int .i64 q]) (hy : ev e y = .agg #[.int .i64 p', .int .i64 q']) :
    (execOp (ev e) o).run Tryz.prog w = .ok (.value (.bool ((p == p') && (q == q')))) w := by
  have hu := Tryz.underlying82
  have hf := fields_of' hu
  have h1 : ∀ w, (Op.equalIn 10000 82 (.agg #[.int .i64 p, .int .i64 q]) (.agg #[.int .i64 p', .int .i64 q'])).run Tryz.prog w = .ok ((p == p') && (q == q')) w := by
    intro w
    rw [run_equalIn_struct w 9999 82 _ _ (by rw [hf]; exact hu) Tryz.stoodInHeld82, hf]
    have e3 : ∀ (p p' : Int) w, (Op.equalIn 9999 3 (.int .i64 p) (.int .i64 p')).run Tryz.prog w = .ok (p == p') w := fun p p' w => run_equalIn_int w 9998 3 .i64 .i64 p p' Tryz.underlying3
    have p0 : ∀ (p q : Int) w, (part 3 #[.int .i64 p, .int .i64 q] 0).run Tryz.prog w = .ok (.int .i64 p) w := fun p q w => by simp [part, Sem.run_bind, Tryz.isAgg3, Result.andThen, hpure]
    have p1 : ∀ (p q : Int) w, (part 3 #[.int .i64 p, .int .i64 q] 1).run Tryz.prog w = .ok (.int .i64 q) w := fun p q w => by simp [part, Sem.run_bind, Tryz.isAgg3, Result.andThen, hpure]
    simp only [List.toArray, Op.eqFields, Sem.run_bind, p0, p1, e3, Result.andThen, ne_eq]
    cases hpp : (p == p') <;> simp [Sem.run_bind, p0, p1, e3, Result.andThen, hpure, Op.eqFields, hpp]
    by_cases hqq : q = q' <;> simp [hqq, hpure]
  simp only [execOp, ho, hx, hy, Sem.run_bind, run_eqGuard_agg (P := Tryz.prog) w .eql 82 x y _ _ Tryz.eqGuardType82, Result.andThen, run_eql_struct, h1, hpure]
theorem g_site (sites hops n : Int) (sv : Value) (L : List HP) (w : World) (hs : Sat w (L)) :
    Calls Tryz.prog 112 [.agg #[.int .i64 sites, sv, .int .i64 hops], .int .i64 n].toArray w (retd fun v w' => ∃ b, v = .bool b ∧ Sat w' L) := by
  refine fn_enter Tryz.func112 rfl rfl ?_
  refine cw_seq ?_
  refine cw_region ?_
  refine o_s rfl rfl (d_box rfl rfl (c := #[.int .i64 sites, sv, .int .i64 hops]) rfl hs ?_)
  intro b1 w2 hs3; clear hs
  refine o_s rfl rfl (d_val (r_assign (v := .bool false) rfl rfl) ?_)
  refine o_nil ?_
  refine cw_seq ?_
  refine cw_region ?_
  refine o_s rfl rfl (d_val (r_move (v := .int .i64 n) rfl rfl) ?_)
  refine o_s rfl rfl (d_val (r_geq rfl rfl rfl) ?_)
  refine o_s rfl rfl (d_val (r_move (v := .bool (decide ((1 : Int) ≤ n))) rfl rfl) ?_)
  refine bsplit (decide ((1 : Int) ≤ n)) (fun c4 => ?_) (fun c4 => ?_)
  · have c4p := of_decide_eq_true c4
    refine o_s rfl (wanted_of rfl rfl rfl c4) (d_val (r_move (v := .int .i64 n) rfl rfl) ?_)
    refine o_s rfl (wanted_of rfl rfl rfl c4) (d_val (r_field rfl Tryz.underlying35 rfl Tryz.sizeOf3 rfl rfl) ?_)
    refine o_s rfl (wanted_of rfl rfl rfl c4) (d_val (r_load rfl rfl Tryz.isAgg3 (hs3.cell 0 rfl rfl)) ?_)
    refine o_s rfl (wanted_of rfl rfl rfl c4) (d_val (r_leq rfl rfl rfl) ?_)
    refine o_s rfl rfl (d_val (r_pickt (v := .bool (decide ((n : Int) ≤ sites))) rfl rfl c4 rfl) ?_)
    refine o_s rfl rfl (d_val (r_assign (v := .bool (decide ((n : Int) ≤ sites))) rfl rfl) ?_)
    refine o_nil ?_
    refine cw_ret ?_
    refine retc1 rfl (rv_t (v := .bool (decide ((n : Int) ≤ sites))) rfl) ?_
    exact ⟨_, rfl, (hs3.pick [0] rfl).drop⟩
  · have c4p := of_decide_eq_false c4
    refine o_sn rfl (wanted_not rfl rfl rfl c4) ?_
    refine o_sn rfl (wanted_not rfl rfl rfl c4) ?_
    refine o_sn rfl (wanted_not rfl rfl rfl c4) ?_
    refine o_sn rfl (wanted_not rfl rfl rfl c4) ?_
    refine o_s rfl rfl (d_val (r_pickf (v := .bool false) rfl rfl c4 rfl) ?_)
    refine o_s rfl rfl (d_val (r_assign (v := .bool false) rfl rfl) ?_)
    refine o_nil ?_
    refine cw_ret ?_
    refine retc1 rfl (rv_t (v := .bool false) rfl) ?_
    exact ⟨_, rfl, (hs3.pick [0] rfl).drop⟩

theorem g_Good (sites hops : Int) (a : Option Addr) (c : Nat) (l : List Edg) (L : List HP) (w : World) (hs : Sat w (rs 2 a l.length c (l.flatMap Edg.cs) :: L)) :
    Calls Tryz.prog 30 [.agg #[.int .i64 sites, .slice a l.length c, .int .i64 hops]].toArray w (retd fun v w' => ∃ b, v = .bool b ∧ Sat w' (rs 2 a l.length c (l.flatMap Edg.cs) :: L)) := by
  refine fn_enter Tryz.func30 rfl rfl ?_
  refine cw_seq ?_
  refine cw_region ?_
  refine o_s rfl rfl (d_box rfl rfl (c := #[.int .i64 sites, .slice a l.length c, .int .i64 hops]) rfl hs ?_)
  intro b1 w2 hs3; clear hs
  refine o_s rfl rfl (d_val (r_assign (v := .bool false) rfl rfl) ?_)
  refine o_nil ?_
  refine cw_seq ?_
  refine cw_seq ?_
  refine cw_region ?_
  refine o_s rfl rfl (d_val (r_field rfl Tryz.underlying35 rfl Tryz.sizeOf3 rfl rfl) ?_)
  refine o_s rfl rfl (d_val (r_load rfl rfl Tryz.isAgg3 (hs3.cell 0 rfl rfl)) ?_)
  refine o_s rfl rfl (d_val (r_lss rfl rfl rfl) ?_)
  refine o_s rfl rfl (d_val (r_move (v := .bool (decide ((sites : Int) < 1))) rfl rfl) ?_)
  refine bsplit (decide ((sites : Int) < 1)) (fun c4 => ?_) (fun c4 => ?_)
  · have c4p := of_decide_eq_true c4
    refine o_sn rfl (wanted_not rfl rfl rfl c4) ?_
    refine o_sn rfl (wanted_not rfl rfl rfl c4) ?_
    refine o_sn rfl (wanted_not rfl rfl rfl c4) ?_
    refine o_s rfl rfl (d_val (r_pickt (v := .bool true) rfl rfl c4 rfl) ?_)
    refine o_s rfl rfl (d_val (r_move (v := .bool true) rfl rfl) ?_)
    refine o_sn rfl rfl ?_
    refine o_sn rfl rfl ?_
    refine o_sn rfl rfl ?_
    refine o_s rfl rfl (d_val (r_pickt (v := .bool true) rfl rfl rfl rfl) ?_)
    refine o_s rfl rfl (d_val (r_move (v := .bool true) rfl rfl) ?_)
    refine o_sn rfl rfl ?_
    refine o_sn rfl rfl ?_
    refine o_sn rfl rfl ?_
    refine o_s rfl rfl (d_val (r_pickt (v := .bool true) rfl rfl rfl rfl) ?_)
    refine o_s rfl rfl (d_val (r_move (v := .bool true) rfl rfl) ?_)
    refine o_sn rfl rfl ?_
    refine o_sn rfl rfl ?_
    refine o_sn rfl rfl ?_
    refine o_sn rfl rfl ?_
    refine o_s rfl rfl (d_val (r_pickt (v := .bool true) rfl rfl rfl rfl) ?_)
    refine o_nil ?_
    refine cw_yes rfl ?_
    refine cw_seq ?_
    refine cw_region ?_
    refine o_s rfl rfl (d_val (r_assign (v := .bool false) rfl rfl) ?_)
    refine o_nil ?_
    refine cw_ret ?_
    refine retc1 rfl (rv_t (v := .bool false) rfl) ?_
    exact ⟨_, rfl, (hs3.pick [0, 0] rfl).drop⟩
  · have c4p := of_decide_eq_false c4
    refine o_s rfl (wanted_of rfl rfl rfl c4) (d_val (r_field rfl Tryz.underlying35 rfl Tryz.sizeOf3 rfl rfl) ?_)
    refine o_s rfl (wanted_of rfl rfl rfl c4) (d_val (r_load rfl rfl Tryz.isAgg3 (hs3.cell 0 rfl rfl)) ?_)
    refine o_s rfl (wanted_of rfl rfl rfl c4) (d_val (r_gtr rfl rfl rfl) ?_)
    refine o_s rfl rfl (d_val (r_pickf (v := .bool (decide ((8 : Int) < sites))) rfl rfl c4 rfl) ?_)
    refine o_s rfl rfl (d_val (r_move (v := .bool (decide ((8 : Int) < sites))) rfl rfl) ?_)
    refine bsplit (decide ((8 : Int) < sites)) (fun c5 => ?_) (fun c5 => ?_)
    · have c5p := of_decide_eq_true c5
      refine o_sn rfl (wanted_not rfl rfl rfl c5) ?_
      refine o_sn rfl (wanted_not rfl rfl rfl c5) ?_
      refine o_sn rfl (wanted_not rfl rfl rfl c5) ?_
      refine o_s rfl rfl (d_val (r_pickt (v := .bool true) rfl rfl c5 rfl) ?_)
      refine o_s rfl rfl (d_val (r_move (v := .bool true) rfl rfl) ?_)
      refine o_sn rfl rfl ?_
      refine o_sn rfl rfl ?_
      refine o_sn rfl rfl ?_
      refine o_s rfl rfl (d_val (r_pickt (v := .bool true) rfl rfl rfl rfl) ?_)
      refine o_s rfl rfl (d_val (r_move (v := .bool true) rfl rfl) ?_)
      refine o_sn rfl rfl ?_
      refine o_sn rfl rfl ?_
      refine o_sn rfl rfl ?_
      refine o_sn rfl rfl ?_
      refine o_s rfl rfl (d_val (r_pickt (v := .bool true) rfl rfl rfl rfl) ?_)
      refine o_nil ?_
      refine cw_yes rfl ?_
      refine cw_seq ?_
      refine cw_region ?_
      refine o_s rfl rfl (d_val (r_assign (v := .bool false) rfl rfl) ?_)
      refine o_nil ?_
      refine cw_ret ?_
      refine retc1 rfl (rv_t (v := .bool false) rfl) ?_
      exact ⟨_, rfl, (hs3.pick [0, 0] rfl).drop⟩
    · have c5p := of_decide_eq_false c5
      refine o_s rfl (wanted_of rfl rfl rfl c5) (d_val (r_field rfl Tryz.underlying35 rfl Tryz.sizeOf3 rfl rfl) ?_)
      refine o_s rfl (wanted_of rfl rfl rfl c5) (d_val (r_load rfl rfl Tryz.isAgg3 (hs3.cell 0 rfl rfl)) ?_)
      refine o_s rfl (wanted_of rfl rfl rfl c5) (d_val (r_lss rfl rfl rfl) ?_)
      refine o_s rfl rfl (d_val (r_pickf (v := .bool (decide ((hops : Int) < 0))) rfl rfl c5 rfl) ?_)
      refine o_s rfl rfl (d_val (r_move (v := .bool (decide ((hops : Int) < 0))) rfl rfl) ?_)
      refine bsplit (decide ((hops : Int) < 0)) (fun c6 => ?_) (fun c6 => ?_)
      · have c6p := of_decide_eq_true c6
        refine o_sn rfl (wanted_not rfl rfl rfl c6) ?_
        refine o_sn rfl (wanted_not rfl rfl rfl c6) ?_
        refine o_sn rfl (wanted_not rfl rfl rfl c6) ?_
        refine o_s rfl rfl (d_val (r_pickt (v := .bool true) rfl rfl c6 rfl) ?_)
        refine o_s rfl rfl (d_val (r_move (v := .bool true) rfl rfl) ?_)
        refine o_sn rfl rfl ?_
        refine o_sn rfl rfl ?_
        refine o_sn rfl rfl ?_
        refine o_sn rfl rfl ?_
        refine o_s rfl rfl (d_val (r_pickt (v := .bool true) rfl rfl rfl rfl) ?_)
        refine o_nil ?_
        refine cw_yes rfl ?_
        refine cw_seq ?_
        refine cw_region ?_
        refine o_s rfl rfl (d_val (r_assign (v := .bool false) rfl rfl) ?_)
        refine o_nil ?_
        refine cw_ret ?_
        refine retc1 rfl (rv_t (v := .bool false) rfl) ?_
        exact ⟨_, rfl, (hs3.pick [0, 0] rfl).drop⟩
      · have c6p := of_decide_eq_false c6
        refine o_s rfl (wanted_of rfl rfl rfl c6) (d_val (r_field rfl Tryz.underlying35 rfl Tryz.sizeOf3 rfl rfl) ?_)
        refine o_s rfl (wanted_of rfl rfl rfl c6) (d_val (r_load rfl rfl Tryz.isAgg3 (hs3.cell 0 rfl rfl)) ?_)
        refine o_s rfl (wanted_of rfl rfl rfl c6) (d_val (r_gtr rfl rfl rfl) ?_)
        refine o_s rfl rfl (d_val (r_pickf (v := .bool (decide ((8 : Int) < hops))) rfl rfl c6 rfl) ?_)
        refine o_s rfl rfl (d_val (r_move (v := .bool (decide ((8 : Int) < hops))) rfl rfl) ?_)
        refine bsplit (decide ((8 : Int) < hops)) (fun c7 => ?_) (fun c7 => ?_)
        · have c7p := of_decide_eq_true c7
          refine o_sn rfl (wanted_not rfl rfl rfl c7) ?_
          refine o_sn rfl (wanted_not rfl rfl rfl c7) ?_
          refine o_sn rfl (wanted_not rfl rfl rfl c7) ?_
          refine o_sn rfl (wanted_not rfl rfl rfl c7) ?_
          refine o_s rfl rfl (d_val (r_pickt (v := .bool true) rfl rfl c7 rfl) ?_)
          refine o_nil ?_
          refine cw_yes rfl ?_
          refine cw_seq ?_
          refine cw_region ?_
          refine o_s rfl rfl (d_val (r_assign (v := .bool false) rfl rfl) ?_)
          refine o_nil ?_
          refine cw_ret ?_
          refine retc1 rfl (rv_t (v := .bool false) rfl) ?_
          exact ⟨_, rfl, (hs3.pick [0, 0] rfl).drop⟩
        · have c7p := of_decide_eq_false c7
          refine o_s rfl (wanted_of rfl rfl rfl c7) (d_val (r_field rfl Tryz.underlying35 rfl Tryz.sizeOf33 rfl rfl) ?_)
          refine o_s rfl (wanted_of rfl rfl rfl c7) (d_val (r_load rfl rfl Tryz.isAgg33 (hs3.cell 0 rfl rfl)) ?_)
          refine o_s rfl (wanted_of rfl rfl rfl c7) (d_val (r_lens rfl rfl Tryz.underlying33 rfl) ?_)
          refine o_s rfl (wanted_of rfl rfl rfl c7) (d_val (r_gtr rfl rfl rfl) ?_)
          refine o_s rfl rfl (d_val (r_pickf (v := .bool (decide ((64 : Int) < ((l.length : Nat) : Int)))) rfl rfl c7 rfl) ?_)
          refine o_nil ?_
          refine cw_if (b := decide ((64 : Int) < ((l.length : Nat) : Int))) rfl (fun c8 => ?_) (fun c8 => ?_)
          · have c8p := of_decide_eq_true c8
            refine cw_seq ?_
            refine cw_region ?_
            refine o_s rfl rfl (d_val (r_assign (v := .bool false) rfl rfl) ?_)
            refine o_nil ?_
            refine cw_ret ?_
            refine retc1 rfl (rv_t (v := .bool false) rfl) ?_
            exact ⟨_, rfl, (hs3.pick [0, 0] rfl).drop⟩
          · have c8p := of_decide_eq_false c8
            refine cw_skip ?_
            refine cw_seq ?_
            refine cw_seq ?_
            refine cw_region ?_
            refine o_s rfl rfl (d_val (r_field rfl Tryz.underlying35 rfl Tryz.sizeOf33 rfl rfl) ?_)
            refine o_s rfl rfl (d_val (r_load rfl rfl Tryz.isAgg33 (hs3.cell 0 rfl rfl)) ?_)
            refine o_s rfl rfl (d_val (r_lens rfl rfl Tryz.underlying33 rfl) ?_)
            refine o_s rfl rfl (d_val (r_move (v := .int .i64 0) rfl rfl) ?_)
            refine o_nil ?_
            refine cw_block ?_
            refine cw_loop (fun k e w => ∃ (i : Nat), e 1 = .pointer (some ⟨b1, 0, none⟩) ∧ e 2 = .bool false ∧ e 32 = .slice a l.length c ∧ e 33 = .int .i64 ((l.length : Nat) : Int) ∧ e 34 = .int .i64 ((i : Nat) : Int) ∧ i ≤ l.length ∧ k = l.length - i ∧ Sat w (obj b1 (.cells #[.int .i64 sites, .slice a l.length c, .int .i64 hops] 35) :: rs 2 a l.length c (l.flatMap Edg.cs) :: L)) (l.length - (0)) ⟨0, rfl, rfl, rfl, rfl, (by show (.int .i64 0 : Value) = _; simp), (by omega), rfl, (hs3.pick [0, 0] rfl)⟩ ?_
            rintro kk9 e18 w16 ⟨i, h10, h11, h12, h13, h14, f15, rfl, hs17⟩; clear hs3
            refine (cw_put (d := 1) h10 (cw_put (d := 2) h11 (cw_put (d := 32) h12 (cw_put (d := 33) h13 (cw_put (d := 34) h14 ?_)))))
            refine cw_seq ?_
            refine cw_region ?_
            refine o_s rfl rfl (d_val (r_lss rfl rfl rfl) ?_)
            refine o_nil ?_
            refine cw_seq ?_
            refine cw_if (b := decide ((((i : Nat) : Int) : Int) < ((l.length : Nat) : Int))) rfl (fun c19 => ?_) (fun c19 => ?_)
            · have c19p := of_decide_eq_true c19
              refine cw_skip ?_
              refine cw_seq ?_
              refine cw_block ?_
              refine cw_seq ?_
              refine cw_region ?_
              refine o_s rfl rfl (d_val (r_move (v := .int .i64 ((i : Nat) : Int)) rfl rfl) ?_)
              obtain ⟨r20, o21, rfl⟩ := hs17.rssome (k := 1) rfl (by omega)
              refine o_s rfl rfl (d_val (r_idx rfl Tryz.underlying33 Tryz.sizeOf82 rfl rfl (by omega) (by omega) (j := o21 + i * 2) (by first | rfl | simp)) ?_)
              refine o_s rfl rfl (d_val (r_loada [.int .i64 l[i].frm, .int .i64 l[i].to] rfl rfl Tryz.isAgg82 Tryz.sizeOf82 rfl (hs17.rsrow (f := Edg.cs) (k := 1) (i := i) (x := l[i]) rfl Edg.len (List.getElem?_eq_getElem (by omega)))) ?_)
              refine o_s rfl rfl (d_alloc rfl Tryz.zeroValue82 (c := #[.int .i64 0, .int .i64 0]) rfl hs17 ?_)
              intro b22 w23 hs24; clear hs17
              refine o_s rfl rfl (d_val (r_assign (v := .int .i64 ((i : Nat) : Int)) rfl rfl) ?_)
              refine o_u rfl rfl (d_st rfl rfl rfl (vs := [.int .i64 l[i].frm, .int .i64 l[i].to]) rfl Tryz.sizeOf82 rfl rfl hs24 (k := 0) rfl rfl (c' := [.int .i64 l[i].frm, .int .i64 l[i].to]) rfl ?_)
              intro w25 hs26; clear hs24
              refine o_nil ?_
              refine cw_seq ?_
              refine cw_seq ?_
              refine cw_region ?_
              refine o_s rfl rfl (d_val (r_loada [.int .i64 sites, .slice (some ⟨r20, o21, none⟩) l.length c, .int .i64 hops] rfl rfl Tryz.isAgg35 Tryz.sizeOf35 rfl (row_lit (hs26.obj 1 rfl) (by rfl))) ?_)
              refine o_s rfl rfl (d_val (r_field rfl Tryz.underlying82 rfl Tryz.sizeOf3 rfl rfl) ?_)
              refine o_s rfl rfl (d_val (r_load rfl rfl Tryz.isAgg3 (hs26.cell 0 rfl rfl)) ?_)
              refine o_s rfl rfl (d_use (g_site _ _ _ _ _ _ hs26) rfl rfl Tryz.call112 ?_)
              rintro _ w27 ⟨b29, rfl, hs28⟩; clear hs26
              refine o_s rfl rfl (d_val (r_not rfl rfl) ?_)
              refine o_s rfl rfl (d_val (r_move (v := .bool !b29) rfl rfl) ?_)
              refine bsplit (!b29) (fun c30 => ?_) (fun c30 => ?_)
              · refine o_sn rfl (wanted_not rfl rfl rfl c30) ?_
                refine o_sn rfl (wanted_not rfl rfl rfl c30) ?_
                refine o_sn rfl (wanted_not rfl rfl rfl c30) ?_
                refine o_sn rfl (wanted_not rfl rfl rfl c30) ?_
                refine o_sn rfl (wanted_not rfl rfl rfl c30) ?_
                refine o_s rfl rfl (d_val (r_pickt (v := .bool true) rfl rfl c30 rfl) ?_)
                refine o_s rfl rfl (d_val (r_move (v := .bool true) rfl rfl) ?_)
                refine o_sn rfl rfl ?_
                refine o_sn rfl rfl ?_
                refine o_sn rfl rfl ?_
                refine o_sn rfl rfl ?_
                refine o_sn rfl rfl ?_
                refine o_s rfl rfl (d_val (r_pickt (v := .bool true) rfl rfl rfl rfl) ?_)
                refine o_nil ?_
                refine cw_yes rfl ?_
                refine cw_seq ?_
                refine cw_region ?_
                refine o_s rfl rfl (d_val (r_assign (v := .bool false) rfl rfl) ?_)
                refine o_nil ?_
                refine cw_ret ?_
                refine retc1 rfl (rv_t (v := .bool false) rfl) ?_
                exact ⟨_, rfl, (hs28.pick [0, 0, 0] rfl).drop.drop⟩
              · refine o_s rfl (wanted_of rfl rfl rfl c30) (d_val (r_loada [.int .i64 sites, .slice (some ⟨r20, o21, none⟩) l.length c, .int .i64 hops] rfl rfl Tryz.isAgg35 Tryz.sizeOf35 rfl (row_lit (hs28.obj 1 rfl) (by rfl))) ?_)
                refine o_s rfl (wanted_of rfl rfl rfl c30) (d_val (r_field rfl Tryz.underlying82 rfl Tryz.sizeOf3 rfl rfl) ?_)
                refine o_s rfl (wanted_of rfl rfl rfl c30) (d_val (r_load rfl rfl Tryz.isAgg3 (hs28.cell 0 rfl rfl)) ?_)
                refine o_s rfl (wanted_of rfl rfl rfl c30) (d_use (g_site _ _ _ _ _ _ hs28) rfl rfl Tryz.call112 ?_)
                rintro _ w31 ⟨b33, rfl, hs32⟩; clear hs28
                refine o_s rfl (wanted_of rfl rfl rfl c30) (d_val (r_not rfl rfl) ?_)
                refine o_s rfl rfl (d_val (r_pickf (v := .bool !b33) rfl rfl c30 rfl) ?_)
                refine o_s rfl rfl (d_val (r_move (v := .bool !b33) rfl rfl) ?_)
                refine bsplit (!b33) (fun c34 => ?_) (fun c34 => ?_)
                · refine o_sn rfl (wanted_not rfl rfl rfl c34) ?_
                  refine o_sn rfl (wanted_not rfl rfl rfl c34) ?_
                  refine o_sn rfl (wanted_not rfl rfl rfl c34) ?_
                  refine o_sn rfl (wanted_not rfl rfl rfl c34) ?_
                  refine o_sn rfl (wanted_not rfl rfl rfl c34) ?_
                  refine o_s rfl rfl (d_val (r_pickt (v := .bool true) rfl rfl c34 rfl) ?_)
                  refine o_nil ?_
                  refine cw_yes rfl ?_
                  refine cw_seq ?_
                  refine cw_region ?_
                  refine o_s rfl rfl (d_val (r_assign (v := .bool false) rfl rfl) ?_)
                  refine o_nil ?_
                  refine cw_ret ?_
                  refine retc1 rfl (rv_t (v := .bool false) rfl) ?_
                  exact ⟨_, rfl, (hs32.pick [0, 0, 0] rfl).drop.drop⟩
                · refine o_s rfl (wanted_of rfl rfl rfl c34) (d_val (r_field rfl Tryz.underlying82 rfl Tryz.sizeOf3 rfl rfl) ?_)
                  refine o_s rfl (wanted_of rfl rfl rfl c34) (d_val (r_load rfl rfl Tryz.isAgg3 (hs32.cell 0 rfl rfl)) ?_)
                  refine o_s rfl (wanted_of rfl rfl rfl c34) (d_val (r_field rfl Tryz.underlying82 rfl Tryz.sizeOf3 rfl rfl) ?_)
                  refine o_s rfl (wanted_of rfl rfl rfl c34) (d_val (r_load rfl rfl Tryz.isAgg3 (hs32.cell 0 rfl rfl)) ?_)
                  refine o_s rfl (wanted_of rfl rfl rfl c34) (d_val (r_eql rfl rfl rfl) ?_)
                  refine o_s rfl rfl (d_val (r_pickf (v := .bool ((l[i].frm : Int) == l[i].to)) rfl rfl c34 rfl) ?_)
                  refine o_nil ?_
                  refine cw_if (b := (l[i].frm : Int) == l[i].to) rfl (fun c35 => ?_) (fun c35 => ?_)
                  · have c35p := eq_of_beq c35
                    refine cw_seq ?_
                    refine cw_region ?_
                    refine o_s rfl rfl (d_val (r_assign (v := .bool false) rfl rfl) ?_)
                    refine o_nil ?_
                    refine cw_ret ?_
                    refine retc1 rfl (rv_t (v := .bool false) rfl) ?_
                    exact ⟨_, rfl, (hs32.pick [0, 0, 0] rfl).drop.drop⟩
                  · have c35p := ne_of_beq_false c35
                    refine cw_skip ?_
                    refine cw_seq ?_
                    refine cw_region ?_
                    refine o_s rfl rfl (d_val (r_field rfl Tryz.underlying35 rfl Tryz.sizeOf33 rfl rfl) ?_)
                    refine o_s rfl rfl (d_val (r_load rfl rfl Tryz.isAgg33 (hs32.cell 1 rfl rfl)) ?_)
                    refine o_s rfl rfl (d_val (r_move (v := .int .i64 ((i : Nat) : Int)) rfl rfl) ?_)
                    refine o_s rfl rfl (d_val (r_slice (l := 0) (h := i) (a' := some ⟨r20, o21, none⟩) rfl Tryz.underlying33 Tryz.sizeOf82 rfl rfl ⟨_, rfl⟩ (Nat.zero_le _) (by have := (hs32.rslen (k := 2) rfl).2; omega) (by split <;> simp [Addr.add])) ?_)
                    refine o_s rfl rfl (d_val (r_lens rfl rfl Tryz.underlying33 rfl) ?_)
                    refine o_s rfl rfl (d_val (r_move (v := .int .i64 0) rfl rfl) ?_)
                    refine o_nil ?_
                    refine cw_block ?_
                    refine cw_loop (fun k e w => ∃ (j : Nat), e 1 = .pointer (some ⟨b1, 0, none⟩) ∧ e 2 = .bool false ∧ e 4 = .pointer (some ⟨b22, 0, none⟩) ∧ e 32 = .slice (some ⟨r20, o21, none⟩) l.length c ∧ e 33 = .int .i64 ((l.length : Nat) : Int) ∧ e 34 = .int .i64 ((i : Nat) : Int) ∧ e 61 = .slice (some ⟨r20, o21, none⟩) i c ∧ e 62 = .int .i64 ((i : Nat) : Int) ∧ e 63 = .int .i64 ((j : Nat) : Int) ∧ j ≤ i ∧ k = i - j ∧ Sat w (obj b22 (.cells #[.int .i64 l[i].frm, .int .i64 l[i].to] 82) :: obj b1 (.cells #[.int .i64 sites, .slice (some ⟨r20, o21, none⟩) l.length c, .int .i64 hops] 35) :: rs 2 (some ⟨r20, o21, none⟩) l.length c (l.flatMap Edg.cs) :: L)) (i - (0)) ⟨0, rfl, rfl, rfl, rfl, rfl, rfl, rfl, rfl, (by show (.int .i64 0 : Value) = _; simp), (by omega), rfl, (hs32.pick [0, 0, 0] rfl)⟩ ?_
                    rintro kk36 e49 w47 ⟨j, h37, h38, h39, h40, h41, h42, h43, h44, h45, f46, rfl, hs48⟩; clear hs32
                    refine (cw_put (d := 1) h37 (cw_put (d := 2) h38 (cw_put (d := 4) h39 (cw_put (d := 32) h40 (cw_put (d := 33) h41 (cw_put (d := 34) h42 (cw_put (d := 61) h43 (cw_put (d := 62) h44 (cw_put (d := 63) h45 ?_)))))))))
                    refine cw_seq ?_
                    refine cw_region ?_
                    refine o_s rfl rfl (d_val (r_lss rfl rfl rfl) ?_)
                    refine o_nil ?_
                    refine cw_seq ?_
                    refine cw_if (b := decide ((((j : Nat) : Int) : Int) < ((i : Nat) : Int))) rfl (fun c50 => ?_) (fun c50 => ?_)
                    · have c50p := of_decide_eq_true c50
                      refine cw_skip ?_
                      refine cw_seq ?_
                      refine cw_block ?_
                      refine cw_seq ?_
                      refine cw_region ?_
                      refine o_s rfl rfl (d_val (r_idx rfl Tryz.underlying33 Tryz.sizeOf82 rfl rfl (by omega) (by omega) (j := o21 + j * 2) (by first | rfl | simp)) ?_)
                      refine o_s rfl rfl (d_val (r_loada [.int .i64 l[j].frm, .int .i64 l[j].to] rfl rfl Tryz.isAgg82 Tryz.sizeOf82 rfl (hs48.rsrow (f := Edg.cs) (k := 2) (i := j) (x := l[j]) rfl Edg.len (List.getElem?_eq_getElem (by omega)))) ?_)
                      refine o_s rfl rfl (d_alloc rfl Tryz.zeroValue82 (c := #[.int .i64 0, .int .i64 0]) rfl hs48 ?_)
                      intro b51 w52 hs53; clear hs48
                      refine o_u rfl rfl (d_st rfl rfl rfl (vs := [.int .i64 l[j].frm, .int .i64 l[j].to]) rfl Tryz.sizeOf82 rfl rfl hs53 (k := 0) rfl rfl (c' := [.int .i64 l[j].frm, .int .i64 l[j].to]) rfl ?_)
                      intro w54 hs55; clear hs53
                      refine o_nil ?_
                      refine cw_seq ?_
                      refine cw_region ?_
                      refine o_s rfl rfl (d_val (r_loada [.int .i64 l[j].frm, .int .i64 l[j].to] rfl rfl Tryz.isAgg82 Tryz.sizeOf82 rfl (row_lit (hs55.obj 0 rfl) (by rfl))) ?_)
                      refine o_s rfl rfl (d_val (r_loada [.int .i64 l[i].frm, .int .i64 l[i].to] rfl rfl Tryz.isAgg82 Tryz.sizeOf82 rfl (row_lit (hs55.obj 1 rfl) (by rfl))) ?_)
                      refine o_s rfl rfl (d_val (r_eqE rfl rfl rfl) ?_)
                      refine o_nil ?_
                      refine cw_if (b := ((l[j].frm : Int) == l[i].frm) && ((l[j].to : Int) == l[i].to)) rfl (fun c56 => ?_) (fun c56 => ?_)
                      · refine cw_seq ?_
                        refine cw_region ?_
                        refine o_s rfl rfl (d_val (r_assign (v := .bool false) rfl rfl) ?_)
                        refine o_nil ?_
                        refine cw_ret ?_
                        refine retc1 rfl (rv_t (v := .bool false) rfl) ?_
                        exact ⟨_, rfl, (hs55.pick [0, 0, 0, 0] rfl).drop.drop.drop⟩
                      · refine cw_skip ?_
                        refine cw_region ?_
                        refine o_s rfl rfl (d_val (r_add (v := ((j + 1 : Nat) : Int)) rfl rfl rfl (by exact (wi64 (by omega)).trans (by omega))) ?_)
                        refine o_s rfl rfl (d_val (r_move (v := .int .i64 ((j + 1 : Nat) : Int)) rfl rfl) ?_)
                        refine o_nil ?_
                        refine ⟨_, ?_, (j + 1), rfl, rfl, rfl, rfl, rfl, rfl, rfl, rfl, rfl, (by omega), rfl, (hs55.pick [0, 0, 0, 0] rfl).drop⟩
                        omega
                    · have c50p := of_decide_eq_false c50
                      refine cw_exit (bk_here ?_)
                      refine cw_region ?_
                      refine o_s rfl rfl (d_val (r_add (v := ((i + 1 : Nat) : Int)) rfl rfl rfl (by exact (wi64 (by omega)).trans (by omega))) ?_)
                      refine o_s rfl rfl (d_val (r_move (v := .int .i64 ((i + 1 : Nat) : Int)) rfl rfl) ?_)
                      refine o_nil ?_
                      refine ⟨_, ?_, (i + 1), rfl, rfl, (by show (.slice (some ⟨r20, o21, none⟩) l.length c : Value) = _; simp), rfl, rfl, (by omega), rfl, (by have hq := (hs48.pick [0, 0, 0] rfl).drop; simpa using hq)⟩
                      omega
            · have c19p := of_decide_eq_false c19
              refine cw_exit (bk_here ?_)
              refine cw_seq ?_
              refine cw_region ?_
              refine o_s rfl rfl (d_val (r_assign (v := .bool true) rfl rfl) ?_)
              refine o_nil ?_
              refine cw_ret ?_
              refine retc1 rfl (rv_t (v := .bool true) rfl) ?_
              exact ⟨_, rfl, (hs17.pick [0, 0] rfl).drop⟩

end Go.Proofs
