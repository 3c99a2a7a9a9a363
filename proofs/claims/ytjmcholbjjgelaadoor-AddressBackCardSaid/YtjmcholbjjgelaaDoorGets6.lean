/- The reference's Get; and that both are the same, in plain lists. -/
import Derived.Test.YtjmcholbjjgelaaDoorGets5
namespace Go.Proofs
open Go.Sx Go.RowKit
set_option linter.unusedVariables false
set_option linter.unusedSimpArgs false
set_option maxRecDepth 100000
/-! ### the codes -/
def codeB (c : List UInt8) : Bool := c.all (fun x => Nat.beq x.toNat 48 || Nat.beq x.toNat 49) && Nat.ble 1 c.length && Nat.ble c.length 15
theorem codeB_ok {c : List UInt8} (h : codeB c = true) : isCode c ∧ c.length ≤ 15 := by
  simp only [codeB, Bool.and_eq_true, List.all_eq_true, Bool.or_eq_true, Nat.ble_eq, nbeq, beq_iff_eq] at h
  obtain ⟨⟨h1, h2⟩, h3⟩ := h
  exact ⟨⟨fun j hj => h1 _ (getD_mem hj), h2, by omega⟩, h3⟩
theorem Tryd.L35_codes : ∀ c ∈ Tryd.L35, isCode c ∧ c.length ≤ 15 := by
  have h : Tryd.L35.all codeB = true := by kernel_rfl
  rw [List.all_eq_true] at h
  exact fun c hc => codeB_ok (h c hc)
theorem Tryd.L35_len : Tryd.L35.length = 35 := by kernel_rfl
theorem Tryd.codesL_34 : Tryd.codesL.length = 34 := by kernel_rfl
theorem Tryd.L35_pre : ∀ i k, i < Tryd.L35.length → k < Tryd.L35.length → i ≠ k → ¬ Tryd.L35.getD k [] <+: Tryd.L35.getD i [] := by
  have h : ((List.range 35).all fun i => (List.range 35).all fun k => Nat.beq i k || !(List.isPrefixOf (Tryd.L35.getD k []) (Tryd.L35.getD i []))) = true := by kernel_rfl
  intro i k hi hk hne hp
  rw [Tryd.L35_len] at hi hk
  rw [List.all_eq_true] at h
  have h1 := h i (List.mem_range.2 hi)
  rw [List.all_eq_true] at h1
  have h2 := h1 k (List.mem_range.2 hk)
  rw [Bool.or_eq_true, nbeq, beq_iff_eq] at h2
  rcases h2 with h2 | h2
  · exact hne h2
  · rw [List.isPrefixOf_iff_prefix.2 hp] at h2
    cases h2
theorem Tryd.mk35 : CallE Tryd.prog 30 [.sl 128 0 35 (.own 1), .sl 130 0 35 (.own 1)] (mkB Tryd.L35 Tryd.Z35) 132 (.tup [.ptr 132 0, .pl (.int .i64 0)])
    [(132, some (.cells [.sl 134 0 35 (.own 1), .sl 136 0 35 (.own 1)] true 72)), (134, some (.cells (strsS Tryd.L35) true 9)), (136, some (.cells (intsS Tryd.Z35) true 3))] 138 := by
  have h := Tryd.mk (.own 1) (.own 1) Tryd.L35 Tryd.Z35 (by rw [Tryd.L35_len]; rfl) (by rw [Tryd.L35_len]; omega) (by rw [Tryd.L35_len]; omega) (fun c hc => (Tryd.L35_codes c hc).1) Tryd.L35_pre
  rw [Tryd.L35_len, show Tryd.Z35.length = 35 from rfl] at h
  exact h
theorem Tryd.r31 : CallE Tryd.prog 31 [] [] 128 (.sl 128 0 35 (.own 1)) [(128, some (.cells (strsS Tryd.L35) true 9))] 130 :=
  callE_of Tryd.tabOk Tryd.I3_ok Tryd.r31_0 trivial (by kernel_rfl) (by kernel_rfl)
theorem Tryd.r32_big : CallE Tryd.prog 32 [] [] 128 (.sl 266 0 35 (.own 1)) [(266, some (.cells (intsS Tryd.Z35) true 3))] 268 :=
  callE_of Tryd.tabOk Tryd.I3_ok Tryd.r32_0 trivial (by kernel_rfl) (by kernel_rfl)
theorem Tryd.r32 : CallE Tryd.prog 32 [] [] 128 (.sl 128 0 35 (.own 1)) [(128, some (.cells (intsS Tryd.Z35) true 3))] 130 :=
  CallE.norm (al := [266]) (ks := [128]) Tryd.r32_big rfl (by kernel_rfl) (by kernel_rfl) (normOk_of (l := [(128, .cells (intsS Tryd.Z35) true 3)]) (r := [some (.cells (intsS Tryd.Z35) true 3)]) (by kernel_rfl) (by kernel_rfl) (by simp only [List.map, AObj.ren, renL_ints]) (by kernel_rfl)) rfl rfl
def ref34 (r : Int × Int × Int) : Int × Int × Int := if r.1 = 34 then (34, 0, r.2.2) else r
theorem Tryd.rget_of (m : List UInt8) (n : Nat) (a : Int) (wr : Bool) (el : Nat) (ow : Ow) (r : Int × Int × Int) (ht : CallE Tryd.prog 33 [.ptr 130 0, .sl 128 0 n ow, .pl (.int .i64 a)] (treeB m wr el Tryd.L35 Tryd.Z35) 136 (tri3 r) [] 136) :
    CallE Tryd.prog 12 [.sl 128 0 n ow, .pl (.int .i64 a)] [(128, .cells (bytesS m) wr el)] 130 (tri3 (ref34 r)) [] 130 := by
  have h33 := CallE.at ht [128, 134, 136, 138] 140 (by kernel_rfl) rfl (bl' := [(128, .cells (bytesS m) wr el), (134, .cells [.sl 136 0 35 (.own 1), .sl 138 0 35 (.own 1)] true 72), (136, .cells (strsS Tryd.L35) true 9), (138, .cells (intsS Tryd.Z35) true 3)])
    (by simp only [treeB, List.map, renB, AObj.ren, SV.renL, SV.ren, renL_bytes, renL_strs, renL_ints, Tryd.L35_len]; rfl) rfl rfl rfl
  have h30 := CallE.at Tryd.mk35 [130, 132] 134 (by kernel_rfl) rfl (bl' := [(130, .cells (strsS Tryd.L35) true 9), (132, .cells (intsS Tryd.Z35) true 3)]) (by simp only [mkB, List.map, renB, AObj.ren, renL_strs, renL_ints]; rfl) rfl
    (ups' := [(134, some (.cells [.sl 136 0 35 (.own 1), .sl 138 0 35 (.own 1)] true 72)), (136, some (.cells (strsS Tryd.L35) true 9)), (138, some (.cells (intsS Tryd.Z35) true 3))]) (by simp only [List.map, renU, Option.map_some, AObj.ren, SV.renL, SV.ren, renL_strs, renL_ints]; rfl) rfl
  have h32 := CallE.at Tryd.r32 [] 132 (by kernel_rfl) rfl rfl rfl (ups' := [(132, some (.cells (intsS Tryd.Z35) true 3))]) (by simp only [List.map, renU, Option.map_some, AObj.ren, renL_ints]; rfl) rfl
  have h31 := CallE.at Tryd.r31 [] 130 (by kernel_rfl) rfl rfl rfl (ups' := [(130, some (.cells (strsS Tryd.L35) true 9))]) (by simp only [List.map, renU, Option.map_some, AObj.ren, renL_strs]; rfl) rfl
  have fin : ∀ {sv : SV}, CallE Tryd.prog 12 [.sl 128 0 n ow, .pl (.int .i64 a)] [(128, .cells (bytesS m) wr el)] 130 sv [] 140 → sv.ren (alOf [] 130 140) = sv → CallE Tryd.prog 12 [.sl 128 0 n ow, .pl (.int .i64 a)] [(128, .cells (bytesS m) wr el)] 130 sv [] 130 := fun h hsv =>
    CallE.forget h rfl (ks := [128]) (by kernel_rfl) (l := [(128, .cells (bytesS m) wr el)]) (by kernel_rfl) (by kernel_rfl) (by simp only [List.map, renB, AObj.ren, renL_bytes]; rfl) hsv
  unfold ref34
  by_cases h : r.1 = 34
  · rw [if_pos h]
    rw [show tri3 r = .pl (.tuple #[.int .i64 34, .int .i64 r.2.1, .int .i64 r.2.2]) by unfold tri3; rw [h]] at h33
    exact fin (callE_of Tryd.tabOk Tryd.I3_ok (ups := []) (Tryd.rgetB_0 m n a wr el ow r.2.1 r.2.2) ⟨h33, h30, h32, h31, trivial⟩ (by kernel_rfl) (by kernel_rfl)) rfl
  · rw [if_neg h]
    exact fin (callE_of Tryd.tabOk Tryd.I3_ok (ups := []) (Tryd.rgetA_0 m n a wr el ow r.1 r.2.1 r.2.2) ⟨by rw [eqF_f]; exact h, h33, h30, h32, h31, trivial⟩ (by kernel_rfl) (by kernel_rfl)) rfl
end Go.Proofs
