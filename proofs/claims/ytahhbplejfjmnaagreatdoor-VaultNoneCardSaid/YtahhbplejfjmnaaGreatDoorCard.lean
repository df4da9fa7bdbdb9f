/- No function of the program starts a goroutine. -/
import Derived.Test.YtahhbplejfjmnaaGreatDoorProofs
import Derived.Test.YtahhbplejfjmnaaGreatDoorRows
import GoSem.ClaimGoes
import Derived.KernelRfl
import Derived.Test.YtahhbplejfjmnaaGreatDoorCards
import Derived.Test.YtahhbplejfjmnaaGreatDoorTie
import Derived.SevenTiedAt
namespace Go.Proofs.YtahhbplejfjmnaaGreatDoor
open Go
theorem none_goes : (Tryz.prog.funcs.all fun f => !f.goes) = true := by kernel_rfl
theorem not_goes {P : Program} (h : (P.funcs.all fun f => !f.goes) = true) (f : FuncId) : P.goes f = false := by
  have hall : ∀ (g : Nat), ((P.funcs[g]?).any Func.goes) = false := by
    intro g
    cases hg : P.funcs[g]? with
    | none => rfl
    | some fn =>
      have := Array.all_eq_true_iff_forall_mem.1 h fn (Array.mem_of_getElem? hg)
      simpa using this
  have h2 : P.funcs.any Func.goes = false := by
    rw [Array.any_eq_false]
    intro i hi
    have := Array.all_eq_true_iff_forall_mem.1 h P.funcs[i] (Array.getElem_mem hi)
    simpa using this
  unfold Program.goes
  rw [h2, Bool.and_false, Bool.or_false]
  rw [List.any_eq_false]
  intro g _
  rw [hall g]; simp
theorem goes_by {P : Program} {c : OpenClaim} (h : (P.funcs.all fun f => !f.goes) = true) (hs : c.start = .entering) : false = c.goesBy P := by
  unfold OpenClaim.goesBy Program.goesAt Program.goesFrom
  rw [hs]
  cases hf : P.funcNamed c.func with
  | none => rfl
  | some f => simp [not_goes h f]
end Go.Proofs.YtahhbplejfjmnaaGreatDoor
/- staithlaw16.VaultNone: a vault that no call made does nothing: the tied card. Whatever the input: it answers true, and the input reads as it did; what the row lists is tied to the program's text. -/
namespace Go.Proofs.YtahhbplejfjmnaaGreatDoor
open Go
theorem vaultNone_fits (f : FuncId) (fn : Func) (hf : Tryz.prog.funcNamed Rows.vaultNoneRow.func = some f) (hfn : Tryz.prog.funcs[f]? = some fn) : true = Tryz.prog.looks [] ∧ ∀ (j : Nat) t, fn.params[j]? = some t → Tryz.prog.wantsStandIn t = false := by
  obtain rfl : f = 3 := Option.some.inj ((show Tryz.prog.funcNamed Rows.vaultNoneRow.func = some 3 by kernel_rfl).symm.trans hf) |>.symm
  obtain rfl : fn = Tryz.f3 := (Option.some.inj (Tryz.func3.symm.trans hfn)).symm
  exact ⟨by kernel_rfl, fun j t ht => by
    rw [Tryz.params3] at ht
    have hm : t ∈ [32, 35] := by simpa using Array.mem_of_getElem? ht
    have hall : ([32, 35].all fun u => !Tryz.prog.wantsStandIn u) = true := by kernel_rfl
    exact (show Tryz.prog.wantsStandIn t = false by simpa using List.all_eq_true.1 hall t hm)⟩
theorem vaultNone_wf : Rows.vaultNoneRow.wfByText (OpenSpec.ofChange Rows.vaultNoneSpec) = true := by kernel_rfl
theorem vaultNone_mainIs : Tryz.prog.mainIs = some (true, "24838495a879b522446d085a471568d73b4fdcd3e84fd674b0e4735d78931f85".toList) := by kernel_rfl
theorem vaultNone_card : Rows.VaultNoneCardSaid :=
  Claim7.holds_tied_plain_at .later [] [.data, .data, .data, .data, .data, .sentinel, .sentinel, .data, .pinned] true (true, "24838495a879b522446d085a471568d73b4fdcd3e84fd674b0e4735d78931f85") true
    vaultNone_holds (fun _ h => by cases h) vaultNone_wf (fun _ h => by cases h) vaultNone_row_tie rfl ⟨rfl, rfl⟩ vaultNone_mainIs rfl vaultNone_fits (goes_by none_goes rfl)
#print axioms vaultNone_card
end Go.Proofs.YtahhbplejfjmnaaGreatDoor
