/- The run of staithlaw16.VaultNone: reckoned by the kernel, whatever the arguments are. -/
import Derived.Test.YtahhbplejfjmnaaGreatDoorCon
namespace Go.Ev
open Go Go.Sl Go.Proofs
noncomputable def gv : Tr (List AV) := .node (some [.str [45], .str [110, 99], .str [110], .str [120], .str [110], .str [98], .str [98], .str [109], .str [110], .str [110, 116], .str [110, 116], .str [111, 99], .str []])
  (.node (some [.int .i64 1, .int .i64 2, .int .i64 4, .int .i64 8]) .leaf .leaf) .leaf
def okA (o : Option (List (AV × St))) : Bool := match o with
  | some rs => rs.all fun r => match r.1 with
    | .bool b => b
    | _ => false
  | none => false
noncomputable def vnArgs : List AV := [.agg ((List.range' 0 17).map AV.sym), .agg ((List.range' 17 3).map AV.sym)]
noncomputable def vnSl : List (Nat × Shp) := [(17, .int), (18, .rows 2), (19, .int)]
set_option maxRecDepth 1000000
theorem vn_run (W : World) (σ : Nat → Value) (hold : ∀ p ∈ vnSl, ShpOk W p.2 (σ p.1)) : okA ((evs cx 1500).call 3 vnArgs ⟨.leaf, 10, ⟨gv, W, σ, vnSl, hold⟩⟩) = true := by kernel_rfl
end Go.Ev
