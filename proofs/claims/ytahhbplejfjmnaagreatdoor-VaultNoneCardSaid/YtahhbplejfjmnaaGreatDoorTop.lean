/- staithlaw16.VaultNone answers true, and all that was there is as it was. -/
import Derived.Test.YtahhbplejfjmnaaGreatDoorRun
import Derived.Test.YtahhbplejfjmnaaGreatDoorEI
namespace Go.Ev
open Go Go.Sl Go.Proofs

theorem sat_init (W : World) (M : Nm) : Sat W (hp M (Tr.leaf : Tr AObj).get :: old W :: []) := by
  refine ⟨fun b => b < W.heap.size, fun _ => False, fun _ _ h => h, fun b h => h.elim (fun q => q.elim) id, fun _ => False, fun _ => False, fun b => by simp, fun b hb => hb.elim, ⟨fun b => ?_, ?_, ?_⟩, ?_⟩
  · constructor
    · exact fun h => h.elim
    · rintro ⟨i, o, B, h, _⟩; rw [Tr.get_leaf] at h; cases h
  · intro i o h; rw [Tr.get_leaf] at h; cases h
  · intro i j o o' B B' h; rw [Tr.get_leaf] at h; cases h
  · exact ⟨fun _ => False, fun _ => False, fun b => by simp, fun b hb => hb.elim, ⟨fun b hb => hb, fun b hb => ⟨hb, rfl⟩, rfl, rfl⟩, fun b hb => hb⟩

theorem okA_out {o : Option (List (AV × St))} (h : okA o = true) : ∃ rs, o = some rs ∧ ∀ r ∈ rs, r.1 = .bool true := by
  unfold okA at h
  split at h
  · rename_i rs
    refine ⟨rs, rfl, fun r hr => ?_⟩
    have := List.all_eq_true.1 h r hr
    split at this
    · rename_i b hb; rw [hb, this]
    · cases this
  · cases h

/-- what is as it was behind a call -/
def Same (W w' : World) : Prop := w'.os = W.os ∧ w'.output = W.output ∧ ∀ b, b < W.heap.size → w'.heap[b]? = W.heap[b]?

theorem same_of {W w' : World} (h : Sat w' [old W]) : Same W w' := by
  obtain ⟨R, F, _, _, F1, F2, _, _, ⟨_, h2, h3, h4⟩, _⟩ := h
  exact ⟨h3, h4, fun b hb => (h2 b hb).2⟩

/-- whoever answers true in the evaluator answers true -/
theorem run_true {P : Program} {c : Cx} (hC : GoodC P c) {k f nx : Nat} {l : List AV} {K : Kx} (hr : okA ((evs c k).call f l ⟨.leaf, nx, K⟩) = true) {M : Nm} {vs : List Value} (hM : ∀ i, nx ≤ i → M.ρ i = none ∧ ¬ M.res i)
    (hg : ∀ g c, K.G.get g = some c → ∃ arr T fz, K.W.heap[g]? = some (.cells arr T fz) ∧ cellsR M c 0 arr) (hs : M.σ = K.σ) (hv : VRs M l vs) : Calls P f vs.toArray K.W (retd fun v w' => v = .bool true ∧ Same K.W w') := by
  obtain ⟨rs, h1, h2⟩ := okA_out hr
  refine ((evs_ok hC k).2 f l _ rs h1).2 M vs K.W [] _ hv ⟨sat_init K.W M, ⟨hM, hg, hs⟩⟩ ?_
  intro r hr M' v w' _ hv hI
  rw [h2 r hr] at hv
  simp only [VR] at hv
  refine ⟨hv, ?_⟩
  have hk : r.2.k = K := (kp_evs (fun f l s rs h => (hC.con f l s rs h).1) k).2 _ _ _ _ h1 r hr
  have := hI.sat.drop
  rw [hk] at this
  exact same_of this

/-- the listed variables, as the run wants them -/
theorem gv_ok {W : World} {M : Nm} (h0 : ∃ arr T fz, W.heap[0]? = some (.cells arr T fz) ∧ cellsR M [.str [45], .str [110, 99], .str [110], .str [120], .str [110], .str [98], .str [98], .str [109], .str [110], .str [110, 116], .str [110, 116], .str [111, 99], .str []] 0 arr)
    (h1 : ∃ arr T fz, W.heap[1]? = some (.cells arr T fz) ∧ cellsR M [.int .i64 1, .int .i64 2, .int .i64 4, .int .i64 8] 0 arr) :
    ∀ g c, gv.get g = some c → ∃ arr T fz, W.heap[g]? = some (.cells arr T fz) ∧ cellsR M c 0 arr := by
  have h : TrAll (fun g c => ∃ arr T fz, W.heap[g]? = some (.cells arr T fz) ∧ cellsR M c 0 arr) 1 0 gv :=
    ⟨fun v h => by cases h; exact h0, ⟨fun v h => by cases h; exact h1, trivial, trivial⟩, trivial⟩
  intro g c hg
  have := h.get hg
  rwa [show 1 * g + 0 = g by omega] at this

theorem vn_true {W : World} (cs ct : Array Value) (hcs : cs.size = 17) (hct : ct.size = 3) (h1 : ∀ (i : Nat) v, cs[i]? = some v → one v = true) (h2 : ∀ (i : Nat) v, ct[i]? = some v → one v = true)
    (hold : ∀ c0 c1 c2, ct = #[c0, c1, c2] → ShpOk W .int c0 ∧ ShpOk W (.rows 2) c1 ∧ ShpOk W .int c2)
    (g0 : ∀ M, ∃ arr T fz, W.heap[0]? = some (.cells arr T fz) ∧ cellsR M [.str [45], .str [110, 99], .str [110], .str [120], .str [110], .str [98], .str [98], .str [109], .str [110], .str [110, 116], .str [110, 116], .str [111, 99], .str []] 0 arr)
    (g1 : ∀ M, ∃ arr T fz, W.heap[1]? = some (.cells arr T fz) ∧ cellsR M [.int .i64 1, .int .i64 2, .int .i64 4, .int .i64 8] 0 arr) :
    Calls Tryz.prog 3 #[.agg cs, .agg ct] W (retd fun v w' => v = .bool true ∧ Same W w') := by
  obtain ⟨ct⟩ := ct
  match ct, hct with
  | [c0, c1, c2], _ =>
    obtain ⟨s0, s1, s2⟩ := hold c0 c1 c2 rfl
    let σ : Nat → Value := fun i => (cs.toList ++ [c0, c1, c2]).getD i (.bool false)
    have hl : cs.toList.length = 17 := by simpa using hcs
    have e0 : σ 17 = c0 := by simp [σ, List.getD, hl]
    have e1 : σ 18 = c1 := by simp [σ, List.getD, hl]
    have e2 : σ 19 = c2 := by simp [σ, List.getD, hl]
    have hh : ∀ p ∈ vnSl, ShpOk W p.2 (σ p.1) := by
      intro p hp
      simp only [vnSl, List.mem_cons, List.not_mem_nil, or_false] at hp
      rcases hp with rfl | rfl | rfl
      · show ShpOk W .int (σ 17); rw [e0]; exact s0
      · show ShpOk W (.rows 2) (σ 18); rw [e1]; exact s1
      · show ShpOk W .int (σ 19); rw [e2]; exact s2
    refine run_true (l := vnArgs) (vs := [.agg cs, .agg ⟨[c0, c1, c2]⟩]) (M := ⟨fun _ => none, σ, fun _ => False⟩) cx_ok (vn_run W σ hh) (fun _ _ => ⟨rfl, id⟩) (gv_ok (g0 _) (g1 _)) rfl ?_
    have v0 : VRs ⟨fun _ => none, σ, fun _ => False⟩ ((List.range' 0 17).map AV.sym) cs.toList := by
      have := agg_syms (M := ⟨fun _ => none, σ, fun _ => False⟩) cs.toList 0 (fun i v hi => ⟨h1 i v (by simpa using hi), by
        have hlt := (List.getElem?_eq_some_iff.1 hi).1
        show (cs.toList ++ [c0, c1, c2]).getD (0 + i) (.bool false) = v
        rw [Nat.zero_add, List.getD, List.getElem?_append_left hlt, hi]; rfl⟩)
      rwa [hl] at this
    have v1 : VRs ⟨fun _ => none, σ, fun _ => False⟩ ((List.range' 17 3).map AV.sym) [c0, c1, c2] := by
      refine agg_syms (M := ⟨fun _ => none, σ, fun _ => False⟩) [c0, c1, c2] 17 (fun i v hi => ⟨h2 i v (by simpa using hi), ?_⟩)
      match i, hi with
      | 0, hi => cases hi; exact e0
      | 1, hi => cases hi; exact e1
      | 2, hi => cases hi; exact e2
    refine ⟨_, _, rfl, ?_, _, _, rfl, ?_, rfl⟩
    · simp only [VR]; exact ⟨_, v0, by simp⟩
    · simp only [VR]; exact ⟨_, v1, rfl⟩
end Go.Ev
