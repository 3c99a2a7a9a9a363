/- praxinoscopelaw04.AddressApart, run at each two differences. -/
import Derived.Test.YtjmcholbjjgelaaDoorPick
namespace Go.Proofs
open Go.Sx Go.RowKit
set_option linter.unusedVariables false
set_option maxRecDepth 100000
noncomputable def Tryd.apartRun (a b : Int) (k j : Nat) : Option (SV × Nat × List (Nat × AObj) × Prop) := finE [] (callS Tryd.prog Tryd.tab (told Tryd.prog Tryd.I4) 300 4 [.pl (.int .i64 a), .pl (.int .i64 b)] ⟨tabHeap Tryd.tabs, 128, 128, [.cl 14 [] (.pl (.int .i64 (.ofNat k))) [] 128, .cl 14 [] (.pl (.int .i64 (.ofNat j))) [] 128], []⟩)
def Tryd.apartQ (a b : Int) (k j : Nat) : Prop := CallT Tryd.prog 14 [.pl (.int .i64 b), .pl (.int .i64 34)] [] 128 (.pl (.int .i64 (.ofNat j))) [] 128 ∧ CallT Tryd.prog 14 [.pl (.int .i64 a), .pl (.int .i64 34)] [] 128 (.pl (.int .i64 (.ofNat k))) [] 128 ∧ True
theorem Tryd.apart_0 (a b : Int) : (List.range 34).map (fun j => Tryd.apartRun a b 0 j) = (List.range 34).map fun j => some (.pl (.bool true), 128, [], Tryd.apartQ a b 0 j) := by kernel_rfl
theorem Tryd.apart_1 (a b : Int) : (List.range 34).map (fun j => Tryd.apartRun a b 1 j) = (List.range 34).map fun j => some (.pl (.bool true), 128, [], Tryd.apartQ a b 1 j) := by kernel_rfl
theorem Tryd.apart_2 (a b : Int) : (List.range 34).map (fun j => Tryd.apartRun a b 2 j) = (List.range 34).map fun j => some (.pl (.bool true), 128, [], Tryd.apartQ a b 2 j) := by kernel_rfl
theorem Tryd.apart_3 (a b : Int) : (List.range 34).map (fun j => Tryd.apartRun a b 3 j) = (List.range 34).map fun j => some (.pl (.bool true), 128, [], Tryd.apartQ a b 3 j) := by kernel_rfl
theorem Tryd.apart_4 (a b : Int) : (List.range 34).map (fun j => Tryd.apartRun a b 4 j) = (List.range 34).map fun j => some (.pl (.bool true), 128, [], Tryd.apartQ a b 4 j) := by kernel_rfl
theorem Tryd.apart_5 (a b : Int) : (List.range 34).map (fun j => Tryd.apartRun a b 5 j) = (List.range 34).map fun j => some (.pl (.bool true), 128, [], Tryd.apartQ a b 5 j) := by kernel_rfl
theorem Tryd.apart_6 (a b : Int) : (List.range 34).map (fun j => Tryd.apartRun a b 6 j) = (List.range 34).map fun j => some (.pl (.bool true), 128, [], Tryd.apartQ a b 6 j) := by kernel_rfl
theorem Tryd.apart_7 (a b : Int) : (List.range 34).map (fun j => Tryd.apartRun a b 7 j) = (List.range 34).map fun j => some (.pl (.bool true), 128, [], Tryd.apartQ a b 7 j) := by kernel_rfl
theorem Tryd.apart_8 (a b : Int) : (List.range 34).map (fun j => Tryd.apartRun a b 8 j) = (List.range 34).map fun j => some (.pl (.bool true), 128, [], Tryd.apartQ a b 8 j) := by kernel_rfl
theorem Tryd.apart_9 (a b : Int) : (List.range 34).map (fun j => Tryd.apartRun a b 9 j) = (List.range 34).map fun j => some (.pl (.bool true), 128, [], Tryd.apartQ a b 9 j) := by kernel_rfl
theorem Tryd.apart_10 (a b : Int) : (List.range 34).map (fun j => Tryd.apartRun a b 10 j) = (List.range 34).map fun j => some (.pl (.bool true), 128, [], Tryd.apartQ a b 10 j) := by kernel_rfl
theorem Tryd.apart_11 (a b : Int) : (List.range 34).map (fun j => Tryd.apartRun a b 11 j) = (List.range 34).map fun j => some (.pl (.bool true), 128, [], Tryd.apartQ a b 11 j) := by kernel_rfl
theorem Tryd.apart_12 (a b : Int) : (List.range 34).map (fun j => Tryd.apartRun a b 12 j) = (List.range 34).map fun j => some (.pl (.bool true), 128, [], Tryd.apartQ a b 12 j) := by kernel_rfl
theorem Tryd.apart_13 (a b : Int) : (List.range 34).map (fun j => Tryd.apartRun a b 13 j) = (List.range 34).map fun j => some (.pl (.bool true), 128, [], Tryd.apartQ a b 13 j) := by kernel_rfl
theorem Tryd.apart_14 (a b : Int) : (List.range 34).map (fun j => Tryd.apartRun a b 14 j) = (List.range 34).map fun j => some (.pl (.bool true), 128, [], Tryd.apartQ a b 14 j) := by kernel_rfl
theorem Tryd.apart_15 (a b : Int) : (List.range 34).map (fun j => Tryd.apartRun a b 15 j) = (List.range 34).map fun j => some (.pl (.bool true), 128, [], Tryd.apartQ a b 15 j) := by kernel_rfl
theorem Tryd.apart_16 (a b : Int) : (List.range 34).map (fun j => Tryd.apartRun a b 16 j) = (List.range 34).map fun j => some (.pl (.bool true), 128, [], Tryd.apartQ a b 16 j) := by kernel_rfl
theorem Tryd.apart_17 (a b : Int) : (List.range 34).map (fun j => Tryd.apartRun a b 17 j) = (List.range 34).map fun j => some (.pl (.bool true), 128, [], Tryd.apartQ a b 17 j) := by kernel_rfl
theorem Tryd.apart_18 (a b : Int) : (List.range 34).map (fun j => Tryd.apartRun a b 18 j) = (List.range 34).map fun j => some (.pl (.bool true), 128, [], Tryd.apartQ a b 18 j) := by kernel_rfl
theorem Tryd.apart_19 (a b : Int) : (List.range 34).map (fun j => Tryd.apartRun a b 19 j) = (List.range 34).map fun j => some (.pl (.bool true), 128, [], Tryd.apartQ a b 19 j) := by kernel_rfl
theorem Tryd.apart_20 (a b : Int) : (List.range 34).map (fun j => Tryd.apartRun a b 20 j) = (List.range 34).map fun j => some (.pl (.bool true), 128, [], Tryd.apartQ a b 20 j) := by kernel_rfl
theorem Tryd.apart_21 (a b : Int) : (List.range 34).map (fun j => Tryd.apartRun a b 21 j) = (List.range 34).map fun j => some (.pl (.bool true), 128, [], Tryd.apartQ a b 21 j) := by kernel_rfl
theorem Tryd.apart_22 (a b : Int) : (List.range 34).map (fun j => Tryd.apartRun a b 22 j) = (List.range 34).map fun j => some (.pl (.bool true), 128, [], Tryd.apartQ a b 22 j) := by kernel_rfl
theorem Tryd.apart_23 (a b : Int) : (List.range 34).map (fun j => Tryd.apartRun a b 23 j) = (List.range 34).map fun j => some (.pl (.bool true), 128, [], Tryd.apartQ a b 23 j) := by kernel_rfl
theorem Tryd.apart_24 (a b : Int) : (List.range 34).map (fun j => Tryd.apartRun a b 24 j) = (List.range 34).map fun j => some (.pl (.bool true), 128, [], Tryd.apartQ a b 24 j) := by kernel_rfl
theorem Tryd.apart_25 (a b : Int) : (List.range 34).map (fun j => Tryd.apartRun a b 25 j) = (List.range 34).map fun j => some (.pl (.bool true), 128, [], Tryd.apartQ a b 25 j) := by kernel_rfl
theorem Tryd.apart_26 (a b : Int) : (List.range 34).map (fun j => Tryd.apartRun a b 26 j) = (List.range 34).map fun j => some (.pl (.bool true), 128, [], Tryd.apartQ a b 26 j) := by kernel_rfl
theorem Tryd.apart_27 (a b : Int) : (List.range 34).map (fun j => Tryd.apartRun a b 27 j) = (List.range 34).map fun j => some (.pl (.bool true), 128, [], Tryd.apartQ a b 27 j) := by kernel_rfl
theorem Tryd.apart_28 (a b : Int) : (List.range 34).map (fun j => Tryd.apartRun a b 28 j) = (List.range 34).map fun j => some (.pl (.bool true), 128, [], Tryd.apartQ a b 28 j) := by kernel_rfl
theorem Tryd.apart_29 (a b : Int) : (List.range 34).map (fun j => Tryd.apartRun a b 29 j) = (List.range 34).map fun j => some (.pl (.bool true), 128, [], Tryd.apartQ a b 29 j) := by kernel_rfl
theorem Tryd.apart_30 (a b : Int) : (List.range 34).map (fun j => Tryd.apartRun a b 30 j) = (List.range 34).map fun j => some (.pl (.bool true), 128, [], Tryd.apartQ a b 30 j) := by kernel_rfl
theorem Tryd.apart_31 (a b : Int) : (List.range 34).map (fun j => Tryd.apartRun a b 31 j) = (List.range 34).map fun j => some (.pl (.bool true), 128, [], Tryd.apartQ a b 31 j) := by kernel_rfl
theorem Tryd.apart_32 (a b : Int) : (List.range 34).map (fun j => Tryd.apartRun a b 32 j) = (List.range 34).map fun j => some (.pl (.bool true), 128, [], Tryd.apartQ a b 32 j) := by kernel_rfl
theorem Tryd.apart_33 (a b : Int) : (List.range 34).map (fun j => Tryd.apartRun a b 33 j) = (List.range 34).map fun j => some (.pl (.bool true), 128, [], Tryd.apartQ a b 33 j) := by kernel_rfl
theorem map_at {α : Type} {f g : Nat → α} {n : Nat} (h : (List.range n).map f = (List.range n).map g) {j : Nat} (hj : j < n) : f j = g j := by
  have := congrArg (fun l => l[j]?) h
  simpa [hj] using this
theorem Tryd.apart_all (a b : Int) : ∀ (k j : Nat), k < 34 → j < 34 → Tryd.apartRun a b k j = some (.pl (.bool true), 128, [], Tryd.apartQ a b k j)
  | 0, j, _, hj => map_at (Tryd.apart_0 a b) hj
  | 1, j, _, hj => map_at (Tryd.apart_1 a b) hj
  | 2, j, _, hj => map_at (Tryd.apart_2 a b) hj
  | 3, j, _, hj => map_at (Tryd.apart_3 a b) hj
  | 4, j, _, hj => map_at (Tryd.apart_4 a b) hj
  | 5, j, _, hj => map_at (Tryd.apart_5 a b) hj
  | 6, j, _, hj => map_at (Tryd.apart_6 a b) hj
  | 7, j, _, hj => map_at (Tryd.apart_7 a b) hj
  | 8, j, _, hj => map_at (Tryd.apart_8 a b) hj
  | 9, j, _, hj => map_at (Tryd.apart_9 a b) hj
  | 10, j, _, hj => map_at (Tryd.apart_10 a b) hj
  | 11, j, _, hj => map_at (Tryd.apart_11 a b) hj
  | 12, j, _, hj => map_at (Tryd.apart_12 a b) hj
  | 13, j, _, hj => map_at (Tryd.apart_13 a b) hj
  | 14, j, _, hj => map_at (Tryd.apart_14 a b) hj
  | 15, j, _, hj => map_at (Tryd.apart_15 a b) hj
  | 16, j, _, hj => map_at (Tryd.apart_16 a b) hj
  | 17, j, _, hj => map_at (Tryd.apart_17 a b) hj
  | 18, j, _, hj => map_at (Tryd.apart_18 a b) hj
  | 19, j, _, hj => map_at (Tryd.apart_19 a b) hj
  | 20, j, _, hj => map_at (Tryd.apart_20 a b) hj
  | 21, j, _, hj => map_at (Tryd.apart_21 a b) hj
  | 22, j, _, hj => map_at (Tryd.apart_22 a b) hj
  | 23, j, _, hj => map_at (Tryd.apart_23 a b) hj
  | 24, j, _, hj => map_at (Tryd.apart_24 a b) hj
  | 25, j, _, hj => map_at (Tryd.apart_25 a b) hj
  | 26, j, _, hj => map_at (Tryd.apart_26 a b) hj
  | 27, j, _, hj => map_at (Tryd.apart_27 a b) hj
  | 28, j, _, hj => map_at (Tryd.apart_28 a b) hj
  | 29, j, _, hj => map_at (Tryd.apart_29 a b) hj
  | 30, j, _, hj => map_at (Tryd.apart_30 a b) hj
  | 31, j, _, hj => map_at (Tryd.apart_31 a b) hj
  | 32, j, _, hj => map_at (Tryd.apart_32 a b) hj
  | 33, j, _, hj => map_at (Tryd.apart_33 a b) hj
  | k + 34, j, hk, _ => absurd hk (by omega)
theorem Tryd.apart_run (a b : Int) : ∃ n hs m', callS Tryd.prog Tryd.tab (told Tryd.prog Tryd.I4) n 4 [.pl (.int .i64 a), .pl (.int .i64 b)] ⟨tabHeap Tryd.tabs, 128, 128, hs, []⟩ = some (.pl (.bool true), m') ∧ AllP m'.vc := by
  have ka := pick_range a 34 (by omega)
  have kb := pick_range b 34 (by omega)
  obtain ⟨k, hk⟩ := Int.eq_ofNat_of_zero_le ka.1
  obtain ⟨j, hj⟩ := Int.eq_ofNat_of_zero_le kb.1
  obtain ⟨m', h1, h2, h3, h4⟩ := finE_spec (Tryd.apart_all a b k j (by omega) (by omega))
  refine ⟨300, _, m', h1, ?_⟩
  rw [← h4]
  have pa := plain_call (args := [.int .i64 a, .int .i64 34]) (Tryd.pick34 a) 128 rfl rfl
  have pb := plain_call (args := [.int .i64 b, .int .i64 34]) (Tryd.pick34 b) 128 rfl rfl
  rw [hk] at pa
  rw [hj] at pb
  exact ⟨pb, pa, trivial⟩
end Go.Proofs
