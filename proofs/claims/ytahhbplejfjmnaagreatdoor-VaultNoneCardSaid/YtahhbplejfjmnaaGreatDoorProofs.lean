/- The row of staithlaw16.VaultNone: whatever the input, it answers true, and the input reads as it did. What the row lists: the package-level variables hold what their initialisers lay. -/
import Derived.Test.YtahhbplejfjmnaaGreatDoorTop
import Derived.Test.YtahhbplejfjmnaaGreatDoorFacts
import Derived.Test.YtahhbplejfjmnaaGreatDoorDoor
import Derived.Test.YtahhbplejfjmnaaGreatDoorRows
import Derived.ProofKit
import Derived.LaidMore
import Derived.OpenShut
import Derived.Stop.Joined
import Derived.MakeChecks
import Derived.Deep.Strs
namespace Go.Proofs.YtahhbplejfjmnaaGreatDoor
open Go.ChangeShapes Go.WideShapes Go.ChangeAt Go.WideMaps Go.WideElems Go.RowKit Go.Ev Go.Deep

set_option maxRecDepth 100000
theorem Tryz.own : ownKnob Tryz.prog.godebug = none := by kernel_rfl
theorem Tryz.laidOut : laidOutB Tryz.prog = true := vaultNoneRow_k1

theorem of_laid {W : World} (h : laidMetH Tryz.prog Rows.vaultNoneRow.laid W) (M : Nm) :
    (∃ arr T fz, W.heap[0]? = some (.cells arr T fz) ∧ cellsR M [.str [45], .str [110, 99], .str [110], .str [120], .str [110], .str [98], .str [98], .str [109], .str [110], .str [110, 116], .str [110, 116], .str [111, 99], .str []] 0 arr) ∧
    ∃ arr T fz, W.heap[1]? = some (.cells arr T fz) ∧ cellsR M [.int .i64 1, .int .i64 2, .int .i64 4, .int .i64 8] 0 arr := by
  rw [MakeChecks.laidMetH_plain _ _ _ (by kernel_rfl)] at h
  obtain ⟨ps, h, _⟩ := h
  exact ⟨laid_tab h (name := "staith/act.shapes") (d := Rows.laid_staith_act_shapes) (List.Mem.tail _ (List.Mem.tail _ (List.Mem.tail _ (List.Mem.tail _ (List.Mem.tail _ (List.Mem.tail _ (List.Mem.tail _ (List.Mem.head _)))))))) rfl (g := 0) (t := 311) (by kernel_rfl) (by kernel_rfl) Tryz.underlying311 (by kernel_rfl) (by kernel_rfl) (by kernel_rfl) (.inl Tryz.underlying9) M,
    laid_tab h (name := "staith/word.widths") (d := Rows.laid_staith_word_widths) (List.Mem.tail _ (List.Mem.tail _ (List.Mem.tail _ (List.Mem.head _)))) rfl (g := 1) (t := 334) (by kernel_rfl) (by kernel_rfl) Tryz.underlying334 (by kernel_rfl) (by kernel_rfl) (by kernel_rfl) (.inr ⟨_, Tryz.underlying3⟩) M⟩

theorem int_shp {W : World} {r : Reach} {base : Nat} {v : Value} (h : Cell.okWide Tryz.prog W r base 3 v) : ShpOk W .int v := by
  simp only [Cell.okWide, Tryz.underlying3, Cell.ok] at h
  cases v <;> simp_all [ShpOk]

theorem topo_shp {W : World} {base : Nat} {ct : Array Value} {H : Type} {enc : TypeId × Value → H} {d : DataW H} {p : List MemPlace} (hr : Row.okWide Tryz.prog W .any base 35 ct)
    (h : DataW.Trod enc Tryz.prog W 0 (fun _ => true) true 35 (.agg ct) d p) (c0 c1 c2 : Value) (he : ct = #[c0, c1, c2]) : ShpOk W .int c0 ∧ ShpOk W (.rows 2) c1 ∧ ShpOk W .int c2 := by
  subst he
  obtain ⟨ts, hts, _, hc⟩ := hr
  have e : Tryz.prog.cellTypes Tryz.prog.depth 35 = some [3, 33, 3] := by kernel_rfl
  rw [e] at hts
  cases hts
  obtain ⟨u0, e0, k0⟩ := hc 0 c0 rfl
  obtain ⟨u1, e1, k1⟩ := hc 1 c1 rfl
  obtain ⟨u2, e2, k2⟩ := hc 2 c2 rfl
  cases e0; cases e1; cases e2
  obtain ⟨fuel, hf⟩ := h
  obtain ⟨y0, y1, y2, n, _, _, _, g1, _⟩ := trod_struct3 Tryz.underlying35 hf
  have c33 : Tryz.prog.cellsOf 33 = 1 := by kernel_rfl
  rw [show (Field.mk "Edges" 33 1 false "" "" 8).type = 33 from rfl, show (Field.mk "Edges" 33 1 false "" "" 8).offset = 1 from rfl, c33] at g1
  have g1' : DataW.trod enc Tryz.prog W 0 (fun _ => true) true n 33 [c1] = some y1 := g1
  exact ⟨int_shp k0, shp_rows2 (i := 3) Tryz.underlying33 Tryz.underlying82 (by kernel_rfl) Tryz.underlying3 rfl rfl rfl rfl (by kernel_rfl) k1 g1', int_shp k2⟩

theorem same_place {W W' : World} (h : Same W W') {p : MemPlace} (hp : p.block < W.heap.size) : W.sameAt W' p := by
  cases p with
  | cell b o => exact World.cell?_of_block (w := W) (h.2.2 b hp)
  | map b => exact h.2.2 b hp
theorem same_kept {W W' : World} (h : Same W W') (may : MemPlace → Prop) : W.keptBut W' may := by
  refine ⟨h.1, h.2.1, fun i hi => ?_⟩
  rw [h.2.2 i hi]
  split <;> simp_all

theorem vaultNone_lifted (os : Os) (started : os.Started) (H : Type) (enc : TypeId × Value → H) :
    ReturnsInHanded {} Tryz.checked os 3 .any (fun w args => (Rows.vaultNoneSpec.pre enc Tryz.prog Tryz.f3 [] false w args ∧ laidMetH Tryz.prog Rows.vaultNoneRow.laid w) ∧ sizedMet enc Tryz.prog Tryz.f3 (OpenSpec.ofChange Rows.vaultNoneSpec) false w args)
      (Rows.vaultNoneSpec.post enc Tryz.prog Tryz.f3 false true false false) := by
  refine returnsInHanded_of_change_and (C := Tryz.checked) (X := fun w _ => laidMetH Tryz.prog Rows.vaultNoneRow.laid w) (fun _ _ _ hh h => h.of_heap hh) Tryz.own started (by kernel_rfl) Tryz.func3
    (ChangeSpec.witness_shaped (enc := enc) (C := Tryz.checked) (os := os) (X := fun w _ => laidMetH Tryz.prog Rows.vaultNoneRow.laid w) false (startW os)
      #[.agg #[.int .i64 0, .string ⟨#[]⟩, .int .i64 0, .int .u64 0, .int .i64 0, .string ⟨#[]⟩, .int .i64 0, .bool false, .string ⟨#[]⟩, .string ⟨#[]⟩, .string ⟨#[]⟩, .int .i64 0, .int .u64 0, .int .i64 0, .string ⟨#[]⟩, .string ⟨#[]⟩, .string ⟨#[]⟩], .agg #[.int .i64 0, .slice none 0 0, .int .i64 0]]
      8 rfl (World.shaped_of_RefB (by kernel_rfl) (by kernel_rfl)) (by kernel_rfl) (by kernel_rfl) (by kernel_rfl) (door_met os _)) ?_
  intro W base args ds gs before hval0 hW _ _ hL _
  have hval : ∀ (j : Nat) t v, Tryz.f3.params[j]? = some t → args[j]? = some v → Value.okWide Tryz.prog W .any base t v := hval0
  have hW' := hW
  obtain ⟨p, q, hA0, hV, rfl, hfz, hnd⟩ := hW
  have hA : DataW.TrodAll enc Tryz.prog W 0 (fun _ => true) true Tryz.f3.params.toList args.toList ds p := hA0
  rw [Tryz.params3] at hA hval
  obtain ⟨v0, v1, d0, d1, p0, p1, rfl, rfl, rfl, h0, h1⟩ := trodAll_two hA
  obtain ⟨rfl, rfl⟩ := trodVars_none hV
  have w0 := hval 0 32 v0 rfl rfl
  have w1 := hval 1 35 v1 rfl rfl
  simp only [Value.okWide, Tryz.underlying32] at w0
  simp only [Value.okWide, Tryz.underlying35] at w1
  obtain ⟨cs, rfl, hcs, r0⟩ := w0
  obtain ⟨ct, rfl, hct, r1⟩ := w1
  have hcs : cs.size = 17 := hcs.trans (by kernel_rfl)
  have hct : ct.size = 3 := hct.trans (by kernel_rfl)
  clear hA0 hval0 hval hA
  simp only [List.append_nil] at hW'
  refine (vn_true cs ct hcs hct (fun i v hi => row_ones r0 hi) (fun i v hi => row_ones r1 hi) (topo_shp r1 h1) (fun M => (of_laid hL M).1) (fun M => (of_laid hL M).2)).mono fun e W' he => ?_
  cases e with
  | returned v =>
    obtain ⟨rfl, hs⟩ := he
    have hlt : ∀ x ∈ p0 ++ p1, x.block < W.heap.size := fun x hx => hW'.lt x hx
    have stays : ∀ {t : TypeId} {v : Value} {d : DataW H} {ps : List MemPlace}, Tryz.prog.readableRec t = true → t < Tryz.prog.types.size → DataW.Trod enc Tryz.prog W 0 (fun _ => true) true t v d ps → (∀ x ∈ ps, x.block < W.heap.size) →
        DataW.Trod enc Tryz.prog W' 0 (fun b => decide (b < W.heap.size)) true t v d ps := fun hr ht h hx =>
      WideElems.Trod_stays Tryz.laidOut hr ht h (fun x hm => same_place hs (hx x hm)) (fun x hm => by simpa using hx x hm)
    refine ⟨_, rfl, [d0, d1], [], p0 ++ p1, [], p0 ++ p1, [], hW', trodAll_mk1 (shut_bool Tryz.underlying4 _), trodAll_mk2 (stays (by kernel_rfl) (of_decide_eq_true (by kernel_rfl)) h0 (fun x hx => hlt x (List.mem_append_left _ hx))) (stays (by kernel_rfl) (of_decide_eq_true (by kernel_rfl)) h1 (fun x hx => hlt x (List.mem_append_right _ hx))), rfl, same_kept hs _, fun h => by cases h⟩
  | _ => exact he.elim

theorem vaultNone_holds : Rows.VaultNoneSaid :=
  OpenClaim.holds_of_wide 3 Tryz.f3 rfl rfl rfl rfl rfl rfl rfl ⟨rfl, rfl, rfl, rfl, rfl⟩ rfl rfl rfl rfl rfl (by kernel_rfl) Tryz.func3 vaultNoneRow_facts
    (of_decide_eq_true (by kernel_rfl)) (by unfold Func.isWrapper; rw [if_neg (of_decide_eq_false (by kernel_rfl))]; exact ⟨rfl, rfl⟩)
    (fun os started H enc _ => vaultNone_lifted os started H enc)
end Go.Proofs.YtahhbplejfjmnaaGreatDoor
