/- Where a call of this seat's functions starts: the table that is laid, as the abstract evaluator has it. -/
import Derived.Test.YtjmcholbjjgelaaDoorCaps
import Derived.Test.YtjmcholbjjgelaaDoorRows
import Derived.WalkKit
import Derived.ProofKit
import Derived.LaidMore
import Derived.OpenShut
import Derived.Stop.Joined
import Derived.Stop.LaidErr
namespace Go.Proofs.YtjmcholbjjgelaaDoor
open Go.Sx Go.RowKit
set_option maxRecDepth 100000
theorem own : ownKnob Tryd.prog.godebug = none := by kernel_rfl
abbrev lvars : List (String × DataW Unit) := Rows.addressKnownRow.laid
theorem door_met (os : Os) (args : Array Value) : laidMetH Tryd.prog lvars ((World.doorLaid Tryd.prog 400 os).forCall (fun _ _ => 0) ⟨#[], args, []⟩).memory :=
  laidMetH_of_parts3 (fuel := 8) (laidMet_of_run' 8 (by kernel_rfl) (by kernel_rfl)) (by kernel_rfl) (by kernel_rfl)
theorem tab_of {W : World} (h : laidMetH Tryd.prog lvars W) : ∃ cur e fr, W.heap[3]? = some (.cells cur e fr) ∧ ∀ (i : Nat) (sv : SV), (tabCells .u8 Tryd.tab64)[i]? = some sv → ∃ v, cur[i]? = some v ∧ sv = .pl v ∧ v.oneCell' = true := by
  rw [MakeChecks.laidMetH_plain _ _ _ (by kernel_rfl)] at h
  have h2 := laidMet.tail h
  exact tab_heap (zs := Tryd.tab64) (k := .u8) (g := 3) (Lib.tabIs_of_head (g := 3) (t := 99) (e := 5) (n := 64) (by kernel_rfl) (by kernel_rfl) (by kernel_rfl) (by kernel_rfl) (by kernel_rfl) (by kernel_rfl) h2) (by kernel_rfl)
theorem start_hh {W : World} (h : laidMetH Tryd.prog lvars W) : ∀ b o, (tabHeap Tryd.tabs).get b = some o → b % 2 = 1 ∧ b < 128 ∧ ∃ cs el cur e fr, o = .cells cs false el ∧ W.heap[b / 2]? = some (.cells cur e fr) ∧
      ∀ (i : Nat) (sv : SV), cs[i]? = some sv → ∃ v, cur[i]? = some v ∧ sv = .pl v ∧ v.oneCell' = true := by
  intro b o ho
  simp only [Tryd.tabs, tabHeap, Tr.get_put, Tr.get_e] at ho
  by_cases e : b = 7
  · subst e
    rw [if_pos rfl] at ho
    simp only [Option.some.injEq] at ho
    obtain ⟨cur, e, fr, h1, h2⟩ := tab_of h
    exact ⟨by decide, by decide, _, 0, cur, e, fr, ho.symm, h1, h2⟩
  · rw [if_neg e] at ho
    cases ho
theorem start {W : World} (h : laidMetH Tryd.prog lvars W) : MRel (gh0 W) W (Old W) (meOf Tryd.tabs) W := start0 (start_hh h)
end Go.Proofs.YtjmcholbjjgelaaDoor
