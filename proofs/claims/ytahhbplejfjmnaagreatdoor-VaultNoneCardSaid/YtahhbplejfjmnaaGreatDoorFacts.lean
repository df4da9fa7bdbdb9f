/- Closed facts of a row, one by one. -/
import Derived.Test.YtahhbplejfjmnaaGreatDoorRows
import Derived.JoinedOf
import Derived.KernelRfl
namespace Go.Proofs.YtahhbplejfjmnaaGreatDoor
open Go
set_option maxRecDepth 100000
theorem vaultNoneRow_k0 : (Rows.vaultNoneRow.wf (OpenSpec.ofChange Rows.vaultNoneSpec)) = true := by kernel_rfl
theorem vaultNoneRow_k1 : (laidOutB Tryz.prog) = true := by kernel_rfl
theorem vaultNoneRow_k2 : (mapsRowed Tryz.prog) = true := by kernel_rfl
theorem vaultNoneRow_k3 : (Tryz.f3.params.all (Tryz.prog.readableRec ·)) = true := by kernel_rfl
theorem vaultNoneRow_k4 : (namedTie Tryz.prog Rows.vaultNoneRow.named Rows.vaultNoneSpec.vars) = true := by kernel_rfl
theorem vaultNoneRow_k5 : ((Rows.vaultNoneRow.stops == [])) = true := by kernel_rfl
theorem vaultNoneRow_k6 : ((Tryz.prog.stops == [])) = true := by kernel_rfl
theorem vaultNoneRow_k7 : ((Rows.vaultNoneRow.knobs == [])) = true := by kernel_rfl
theorem vaultNoneRow_k8 : ((Tryz.prog.stopKnobs == [])) = true := by kernel_rfl
theorem vaultNoneRow_k9 : ((Rows.vaultNoneRow.inPlace == Tryz.prog.inPlace 3)) = true := by kernel_rfl
theorem vaultNoneRow_k10 : ((Rows.vaultNoneRow.unfollowed == Tryz.prog.unfollowed 3)) = true := by kernel_rfl
theorem vaultNoneRow_k11 : ((Rows.vaultNoneRow.recurses == Tryz.prog.recurses 3)) = true := by kernel_rfl
theorem vaultNoneRow_k12 : ((Rows.vaultNoneRow.named == Tryz.prog.varsNamed 3)) = true := by kernel_rfl
theorem vaultNoneRow_k13 : ((Rows.vaultNoneRow.maps == (Tryz.f3.params.toList ++ Rows.vaultNoneSpec.plain.varTypes Tryz.prog).any (Tryz.prog.mapsRec ·))) = true := by kernel_rfl
theorem vaultNoneRow_k14 : ((Rows.vaultNoneRow.ifaces == (Tryz.f3.params.toList ++ Rows.vaultNoneSpec.plain.varTypes Tryz.prog).any (Tryz.prog.ifacesRec ·))) = true := by kernel_rfl
theorem vaultNoneRow_k15 : ((Rows.vaultNoneRow.mapsOut == Tryz.prog.mapsAmong Tryz.f3.resultTypes.toList)) = true := by kernel_rfl
theorem vaultNoneRow_k16 : ((Rows.vaultNoneRow.loops == (Tryz.f3.params.toList ++ Rows.vaultNoneSpec.plain.varTypes Tryz.prog).any (Tryz.prog.loopsFrom ·))) = true := by kernel_rfl
theorem vaultNoneRow_k17 : ((Rows.vaultNoneRow.wideKeys == (Tryz.f3.params.toList ++ Rows.vaultNoneSpec.plain.varTypes Tryz.prog ++ Tryz.f3.resultTypes.toList).any (Tryz.prog.wideKeysFrom ·))) = true := by kernel_rfl
theorem vaultNoneRow_k18 : (Rows.vaultNoneSpec.vars.all (Tryz.prog.varReadable ·)) = true := by kernel_rfl
theorem vaultNoneRow_k19 : (Tryz.f3.resultTypes.all (fun t => Tryz.prog.readableRec t && decide (t < Tryz.prog.types.size))) = true := by kernel_rfl
theorem vaultNoneRow_k20 : ((Rows.vaultNoneRow.ifacesOut == Tryz.f3.resultTypes.toList.any (Tryz.prog.ifacesRec ·))) = true := by kernel_rfl
theorem vaultNoneRow_k21 : ((Rows.vaultNoneRow.loopsOut == Tryz.f3.resultTypes.toList.any (Tryz.prog.loopsFrom ·))) = true := by kernel_rfl
theorem vaultNoneRow_k22 : ((Rows.vaultNoneRow.plainKeys == Tryz.prog.plainKeys)) = true := by kernel_rfl
theorem vaultNoneRow_k23 : (Rows.vaultNoneRow.shortTexts.isNone) = true := by kernel_rfl
theorem vaultNoneRow_k24 : (Tryz.prog.stopsHeard) = true := by kernel_rfl
theorem vaultNoneRow_k25 : (Tryz.prog.mayEnter) = true := by kernel_rfl
theorem vaultNoneRow_k26 : ((Rows.vaultNoneRow.lifted == Tryz.prog.liftsFinal)) = true := by kernel_rfl
theorem vaultNoneRow_k27 : ((Tryz.prog.make == some Rows.vaultNoneRow.make)) = true := by kernel_rfl
theorem vaultNoneRow_k28 : ((Rows.vaultNoneRow.kinds == (if Rows.vaultNoneRow.domain.isEmpty then [] else Tryz.f3.params.toList.map fun t => match Tryz.prog.underlying t with | some (.int k) => some k | _ => none))) = true := by kernel_rfl
theorem vaultNoneRow_k29 : ((Rows.vaultNoneRow.pinned == Rows.vaultNoneRow.pinnedBy)) = true := by kernel_rfl
theorem vaultNoneRow_k30 : ((Rows.vaultNoneRow.veiled == (Tryz.f3.params.toList ++ Rows.vaultNoneSpec.plain.varTypes Tryz.prog ++ Tryz.f3.resultTypes.toList).any (Tryz.prog.veiledRec ·))) = true := by kernel_rfl
theorem vaultNoneRow_k31 : (Rows.vaultNoneRow.veiledFits Tryz.prog Tryz.f3.params.toList (Tryz.f3.params.toList ++ Rows.vaultNoneSpec.plain.varTypes Tryz.prog ++ Tryz.f3.resultTypes.toList)) = true := by kernel_rfl
theorem and_tt {a b : Bool} (h : a = true) (h2 : b = true) : (a && b) = true := by rw [h, h2]; rfl
theorem vaultNoneRow_facts : joinedFacts Tryz.prog 3 Tryz.f3 Rows.vaultNoneSpec Rows.vaultNoneRow = true :=
  and_tt (and_tt (and_tt (and_tt (and_tt (and_tt (and_tt (and_tt (and_tt (and_tt (and_tt (and_tt (and_tt (and_tt (and_tt (and_tt (and_tt (and_tt (and_tt (and_tt (and_tt (and_tt (and_tt (and_tt (and_tt (and_tt (and_tt (and_tt (and_tt (and_tt (and_tt (vaultNoneRow_k0) vaultNoneRow_k1) vaultNoneRow_k2) vaultNoneRow_k3) vaultNoneRow_k4) vaultNoneRow_k5) vaultNoneRow_k6) vaultNoneRow_k7) vaultNoneRow_k8) vaultNoneRow_k9) vaultNoneRow_k10) vaultNoneRow_k11) vaultNoneRow_k12) vaultNoneRow_k13) vaultNoneRow_k14) vaultNoneRow_k15) vaultNoneRow_k16) vaultNoneRow_k17) vaultNoneRow_k18) vaultNoneRow_k19) vaultNoneRow_k20) vaultNoneRow_k21) vaultNoneRow_k22) vaultNoneRow_k23) vaultNoneRow_k24) vaultNoneRow_k25) vaultNoneRow_k26) vaultNoneRow_k27) vaultNoneRow_k28) vaultNoneRow_k29) vaultNoneRow_k30) vaultNoneRow_k31
end Go.Proofs.YtahhbplejfjmnaaGreatDoor
