/- A start that fits: the listed variables lie as their initialisers lay them. -/
import Derived.Test.YtahhbplejfjmnaaGreatDoorRows
import Derived.LaidMore
import Derived.LaidHandle
import Derived.KernelRfl
namespace Go.Proofs.YtahhbplejfjmnaaGreatDoor
open Go

/-- strictly rising -/
def risingB : List Nat → Bool
  | a :: b :: l => Nat.blt a b && risingB (b :: l)
  | _ => true
theorem rising_lt : ∀ {l : List Nat} {a : Nat}, risingB (a :: l) = true → ∀ b ∈ l, a < b
  | [], _, _, b, hb => by cases hb
  | c :: l, a, h, b, hb => by
    simp only [risingB, Bool.and_eq_true, Nat.blt_eq] at h
    rcases List.mem_cons.1 hb with rfl | hb
    · exact h.1
    · exact Nat.lt_trans h.1 (rising_lt h.2 b hb)
theorem rising_nodup {α : Type} (k : α → Nat) : ∀ {l : List α}, risingB (l.map k) = true → l.Nodup
  | [], _ => List.nodup_nil
  | a :: l, h => by
    refine List.nodup_cons.2 ⟨fun hm => ?_, rising_nodup k (l := l) ?_⟩
    · exact Nat.lt_irrefl _ (rising_lt h (k a) (List.mem_map_of_mem hm))
    · cases l with
      | nil => rfl
      | cons b l => simp only [List.map_cons, risingB, Bool.and_eq_true] at h ⊢; exact h.2
theorem laidMet_rising {P : Program} {w : World} {l : List (String × DataW Unit)} (fuel : Nat) (k : MemPlace → Nat) (h : (DataW.laidRun P w fuel (l.map (·.1))).map (·.1) = some l)
    (hn : (DataW.laidRun P w fuel (l.map (·.1))).map (fun x => risingB (x.2.map k)) = some true) (hr : (DataW.laidRun P w fuel (l.map (·.1))).map (fun x => laidRowsB P w x.2) = some true) : laidMet P l w := by
  cases hx : DataW.laidRun P w fuel (l.map (·.1)) with
  | none => simp [hx] at h
  | some x =>
    obtain ⟨l', ps⟩ := x
    simp only [hx, Option.map_some, Option.some.injEq] at h hn hr
    subst h
    exact laidMet_of_run fuel hx (decide_eq_true (rising_nodup k hn)) hr

/-- The door's own heap, and the library's table, which the translation does not lay. -/
noncomputable def startW (os : Os) : World :=
  { World.doorLaid Tryz.prog 82 os with heap := (World.doorLaid Tryz.prog 82 os).heap.modify 7 fun
    | .cells _ t fz => .cells (Go.Pinned.utf8FirstZ.toArray.map fun (n : Nat) => Value.int .u8 (n : Int)) t fz
    | o => o }
noncomputable def startM (os : Os) (args : Array Value) : World := ((startW os).forCall (fun _ _ => 0) ⟨#[], args, []⟩).memory
def rankOf : Nat → Nat
  | 5 => 0
  | 6 => 1000
  | 4 => 2000
  | 1 => 3000
  | 8 => 4000
  | 3 => 5000
  | 15 => 6000
  | 2 => 7000
  | 16 => 8000
  | 0 => 9000
  | _ => 10000
def placeNo : MemPlace → Nat
  | .cell b o => rankOf b + o
  | .map _ => 0
theorem door_a (os : Os) (args : Array Value) : (DataW.laidRun Tryz.prog (startM os args) 8 ((Rows.vaultNoneRow.laid.filter fun x => x.2.handleName?.isNone).map (·.1))).map (·.1) = some (Rows.vaultNoneRow.laid.filter fun x => x.2.handleName?.isNone) := by kernel_rfl
theorem door_b (os : Os) (args : Array Value) : (DataW.laidRun Tryz.prog (startM os args) 8 ((Rows.vaultNoneRow.laid.filter fun x => x.2.handleName?.isNone).map (·.1))).map (fun x => risingB (x.2.map placeNo)) = some true := by kernel_rfl
theorem door_c (os : Os) (args : Array Value) : (DataW.laidRun Tryz.prog (startM os args) 8 ((Rows.vaultNoneRow.laid.filter fun x => x.2.handleName?.isNone).map (·.1))).map (fun x => laidRowsB Tryz.prog (startM os args) x.2) = some true := by kernel_rfl
theorem door_d (os : Os) (args : Array Value) : (Rows.vaultNoneRow.laid.filter fun x => x.2.handleName?.isSome && x.2.funcsIn?.isNone).all (handleAtB Tryz.prog (startM os args)) = true := by kernel_rfl
theorem door_e (os : Os) (args : Array Value) : funcsRun Tryz.prog (startM os args) 8 ((funcsListed Rows.vaultNoneRow.laid).map (·.1)) = some ((funcsListed Rows.vaultNoneRow.laid).map (·.2.funcsOut)) := by kernel_rfl
/-- That heap meets the condition. -/
theorem door_met (os : Os) (args : Array Value) : laidMetH Tryz.prog Rows.vaultNoneRow.laid ((startW os).forCall (fun _ _ => 0) ⟨#[], args, []⟩).memory :=
  laidMetH_of_parts3 (fuel := 8) (laidMet_rising 8 placeNo (door_a os args) (door_b os args) (door_c os args)) (door_d os args) (door_e os args)
end Go.Proofs.YtahhbplejfjmnaaGreatDoor
