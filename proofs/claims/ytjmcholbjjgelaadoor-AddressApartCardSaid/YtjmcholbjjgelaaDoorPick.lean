/- praxinoscopekit.Pick, of any number, at the counts that this seat hands it; and a law of two numbers' choices. -/
import Derived.Test.YtjmcholbjjgelaaDoorCaps2
import Derived.Test.YtjmcholbjjgelaaDoorSxTri
namespace Go.Proofs
open Go.Sx Go.RowKit
set_option linter.unusedVariables false
set_option maxRecDepth 100000
def pick (x n : Int) : Int := if x.tmod n < 0 then x.tmod n + n else x.tmod n
theorem pick_range (x n : Int) (h : 0 < n) : 0 ≤ pick x n ∧ pick x n < n := by
  have h1 := Int.tmod_lt_of_pos x h
  have h2 : -n < x.tmod n := by
    have := Int.lt_tmod_of_pos x h
    omega
  unfold pick
  split <;> omega
theorem Tryd.pick34_n (x r s : Int) : finE [] (callS Tryd.prog Tryd.tab (told Tryd.prog noI) 40 14 [.pl (.int .i64 x), .pl (.int .i64 34)] ⟨pairs [], 128, 128, [.val 3 2 (.pl (.int .i64 r)), .val 4 1 (.pl (.bool true)), .val 5 2 (.pl (.int .i64 s))], []⟩)
  = some (.pl (.int .i64 s), 128, [], (wrap64F (r + 34) = s) ∧ (ltF r 0 = true) ∧ (x.tmod 34 = r) ∧ True) := by kernel_rfl
theorem Tryd.pick34_p (x r : Int) : finE [] (callS Tryd.prog Tryd.tab (told Tryd.prog noI) 40 14 [.pl (.int .i64 x), .pl (.int .i64 34)] ⟨pairs [], 128, 128, [.val 3 2 (.pl (.int .i64 r)), .val 4 1 (.pl (.bool false))], []⟩)
  = some (.pl (.int .i64 r), 128, [], (ltF r 0 = false) ∧ (x.tmod 34 = r) ∧ True) := by kernel_rfl
theorem Tryd.pick33_n (x r s : Int) : finE [] (callS Tryd.prog Tryd.tab (told Tryd.prog noI) 40 14 [.pl (.int .i64 x), .pl (.int .i64 33)] ⟨pairs [], 128, 128, [.val 3 2 (.pl (.int .i64 r)), .val 4 1 (.pl (.bool true)), .val 5 2 (.pl (.int .i64 s))], []⟩)
  = some (.pl (.int .i64 s), 128, [], (wrap64F (r + 33) = s) ∧ (ltF r 0 = true) ∧ (x.tmod 33 = r) ∧ True) := by kernel_rfl
theorem Tryd.pick33_p (x r : Int) : finE [] (callS Tryd.prog Tryd.tab (told Tryd.prog noI) 40 14 [.pl (.int .i64 x), .pl (.int .i64 33)] ⟨pairs [], 128, 128, [.val 3 2 (.pl (.int .i64 r)), .val 4 1 (.pl (.bool false))], []⟩)
  = some (.pl (.int .i64 r), 128, [], (ltF r 0 = false) ∧ (x.tmod 33 = r) ∧ True) := by kernel_rfl
theorem wrap_small (x : Int) (h : 0 ≤ x) (h2 : x < 1000) : wrap64F x = x := by
  obtain ⟨n, rfl⟩ := Int.eq_ofNat_of_zero_le h
  show (match Nat.blt n 9223372036854775808 with | true => Int.ofNat n | false => _) = _
  rw [show Nat.blt n 9223372036854775808 = true by rw [Nat.blt_eq]; omega]
  rfl
theorem Tryd.pick34 (x : Int) : CallE Tryd.prog 14 [.pl (.int .i64 x), .pl (.int .i64 34)] [] 128 (.pl (.int .i64 (pick x 34))) [] 128 := by
  have hr := pick_range x 34 (by omega)
  unfold pick at hr ⊢
  split
  · rename_i h
    rw [if_pos h] at hr
    exact callE_of Tryd.tabOk (noI_ok _) (Tryd.pick34_n x _ (x.tmod 34 + 34)) ⟨wrap_small _ hr.1 (by omega), by rw [ltF_eq]; simpa using h, rfl, trivial⟩ rfl rfl
  · rename_i h
    exact callE_of Tryd.tabOk (noI_ok _) (Tryd.pick34_p x _) ⟨by rw [ltF_eq]; simpa using h, rfl, trivial⟩ rfl rfl
theorem Tryd.pick33 (x : Int) : CallE Tryd.prog 14 [.pl (.int .i64 x), .pl (.int .i64 33)] [] 128 (.pl (.int .i64 (pick x 33))) [] 128 := by
  have hr := pick_range x 33 (by omega)
  unfold pick at hr ⊢
  split
  · rename_i h
    rw [if_pos h] at hr
    exact callE_of Tryd.tabOk (noI_ok _) (Tryd.pick33_n x _ (x.tmod 33 + 33)) ⟨wrap_small _ hr.1 (by omega), by rw [ltF_eq]; simpa using h, rfl, trivial⟩ rfl rfl
  · rename_i h
    exact callE_of Tryd.tabOk (noI_ok _) (Tryd.pick33_p x _) ⟨by rw [ltF_eq]; simpa using h, rfl, trivial⟩ rfl rfl
/-- a call that looks at no block: at any number -/
theorem plain_call {P : Program} {f : FuncId} {args : List Value} {v : Value} (h : CallE P f (args.map .pl) [] 128 (.pl v) [] 128) (nx : Nat) (h1 : Nat.ble 128 nx = true) (h2 : Nat.beq (nx % 2) 0 = true) : CallT P f (args.map .pl) [] nx (.pl v) [] nx := by
  have hk : rnOk [] nx = true := by simp [rnOk, h1, h2, noDup]
  have := CallE.ren h (R := rnOf [] nx) (nx := nx) ⟨rnOf_ok hk (fun b hb => (by cases hb)), (by simpa using h2), fun x hx => (by cases hx), fun x hx => (by cases hx), fun x hx => (by cases hx), rfl⟩
  rw [SV.renL_pls] at this
  exact this
end Go.Proofs
