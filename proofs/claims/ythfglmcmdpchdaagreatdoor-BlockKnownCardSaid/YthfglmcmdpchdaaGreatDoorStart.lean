/- Where a call of this seat's functions starts: the tables that are laid, as the abstract evaluator has them. -/
import Derived.Test.YthfglmcmdpchdaaGreatDoorCaps
import Derived.Test.YthfglmcmdpchdaaGreatDoorRows
import Derived.WalkKit
import Derived.ProofKit
import Derived.LaidMore
import Derived.Lay
import Derived.OpenShut
import Derived.Stop.Joined
import Derived.Stop.LaidErr
namespace Go.Proofs.YthfglmcmdpchdaaGreatDoor
open Go.Sx Go.RowKit
set_option maxRecDepth 100000
theorem own : ownKnob Tryz.prog.godebug = none := by kernel_rfl
abbrev lvars : List (String × DataW Unit) := Rows.blockKnownRow.laid
noncomputable abbrev door (os : Os) : World := World.doorLaid Tryz.prog 400 os
theorem door_met (os : Os) (args : Array Value) : laidMetH Tryz.prog lvars ((door os).forCall (fun _ _ => 0) ⟨#[], args, []⟩).memory :=
  laidMetH_of_parts3 (fuel := 12) (laidMet_of_run' 12 (by kernel_rfl) (by kernel_rfl)) (by kernel_rfl) (by kernel_rfl)
theorem tab64_of {W : World} (h : laidMetH Tryz.prog lvars W) : ∃ cur e fr, W.heap[6]? = some (.cells cur e fr) ∧ ∀ (i : Nat) (sv : SV), (tabCells .u8 Tryz.tab64)[i]? = some sv → ∃ v, cur[i]? = some v ∧ sv = .pl v ∧ v.oneCell' = true := by
  rw [MakeChecks.laidMetH_plain _ _ _ (by kernel_rfl)] at h
  have h2 := laidMet.tail h
  exact tab_heap (zs := Tryz.tab64) (k := .u8) (g := 6) (Lib.tabIs_of_head (g := 6) (t := 201) (e := 5) (n := 64) (by kernel_rfl) (by kernel_rfl) (by kernel_rfl) (by kernel_rfl) (by kernel_rfl) (by kernel_rfl) h2) (by kernel_rfl)
theorem space_of {W : World} (h : laidMetH Tryz.prog lvars W) : ∃ cur e fr, W.heap[0]? = some (.cells cur e fr) ∧ ∀ (i : Nat) (sv : SV), (tabCells .u8 Tryz.spaceT)[i]? = some sv → ∃ v, cur[i]? = some v ∧ sv = .pl v ∧ v.oneCell' = true := by
  rw [MakeChecks.laidMetH_plain _ _ _ (by kernel_rfl)] at h
  have h2 := laidMet.tail (laidMet.tail (laidMet.tail (laidMet.tail (laidMet.tail (laidMet.tail h)))))
  exact tab_heap (zs := Tryz.spaceT) (k := .u8) (g := 0) (Lib.tabIs_of_head (g := 0) (t := 153) (e := 5) (n := 256) (by kernel_rfl) (by kernel_rfl) (by kernel_rfl) (by kernel_rfl) (by kernel_rfl) (by kernel_rfl) h2) (by kernel_rfl)
theorem start {W : World} (h : laidMetH Tryz.prog lvars W) : MRel (gh0 W) W (Old W) (meOf Tryz.tabs) W := by
  refine start0 fun b o ho => ?_
  simp only [Tryz.tabs, tabHeap, Tr.get_put, Tr.get_e] at ho
  by_cases e : b = 1
  · subst e
    rw [if_pos rfl] at ho
    simp only [Option.some.injEq] at ho
    obtain ⟨cur, e, fr, h1, h2⟩ := space_of h
    exact ⟨by decide, by decide, _, 0, cur, e, fr, ho.symm, h1, h2⟩
  · rw [if_neg e] at ho
    by_cases e : b = 13
    · subst e
      rw [if_pos rfl] at ho
      simp only [Option.some.injEq] at ho
      obtain ⟨cur, e, fr, h1, h2⟩ := tab64_of h
      exact ⟨by decide, by decide, _, 0, cur, e, fr, ho.symm, h1, h2⟩
    · rw [if_neg e] at ho
      cases ho
end Go.Proofs.YthfglmcmdpchdaaGreatDoor
