/- bits.Read of one bit, and the reference's: which bit, or that there is none. -/
import Derived.Test.YtjmcholbjjgelaaDoorGetsA
import Derived.Test.YtjmcholbjjgelaaDoorGets0
namespace Go.Proofs
open Go.Sx Go.RowKit
set_option linter.unusedVariables false
set_option linter.unusedSimpArgs false
set_option maxRecDepth 100000
theorem Tryd.agg5 : isAgg? Tryd.tab 5 = some false := by kernel_rfl
theorem Tryd.sz5 : sizeOf? Tryd.tab 5 = some 1 := by kernel_rfl
theorem Tryd.agg9 : isAgg? Tryd.tab 9 = some false := by kernel_rfl
theorem Tryd.sz9 : sizeOf? Tryd.tab 9 = some 1 := by kernel_rfl
theorem Tryd.count25 (n : Nat) (ow : Ow) (h : n ≤ 1000000000000) : CallE Tryd.prog 25 [.sl 128 0 n ow] [] 130 (.pl (.int .i64 (.ofNat (8 * n)))) [] 130 :=
  callE_of Tryd.tabOk (noI_ok _) (Tryd.count25_0 n ow) ⟨by rw [show ((8 * n : Nat) : Int) = 8 * (n : Int) by omega, wrap64_id]; omega, trivial⟩ (by kernel_rfl) (by kernel_rfl)
theorem Tryd.count46 (n : Nat) (ow : Ow) (h : n ≤ 1000000000000) : CallE Tryd.prog 46 [.sl 128 0 n ow] [] 130 (.pl (.int .i64 (.ofNat (8 * n)))) [] 130 :=
  callE_of Tryd.tabOk (noI_ok _) (Tryd.count46_0 n ow) ⟨by rw [show ((8 * n : Nat) : Int) = 8 * (n : Int) by omega, wrap64_id]; omega, trivial⟩ (by kernel_rfl) (by kernel_rfl)
theorem wrap_small (q : Nat) (h : q < 1000000000000000000) : IntKind.wrap .i64 (q : Int) = (q : Int) := by rw [wrap_i64]; omega
theorem byteN (m : List UInt8) (k : Nat) : (m.getD (k / 8) 0).toNat / 2 ^ (7 - k % 8) < 256 := Nat.lt_of_le_of_lt (Nat.div_le_self _ _) (u8_lt _)
theorem Tryd.bit48 (m : List UInt8) (n k : Nat) (wr : Bool) (el : Nat) (ow : Ow) (h : k / 8 < n) (hn : n ≤ m.length) (hk : k ≤ 1000000000000000) : CallE Tryd.prog 48 [.sl 128 0 n ow, .pl (.int .i64 (.ofNat k))] [(128, .cells (bytesS m) wr el)] 130 (.pl (.int .i64 (.ofNat (bitN m k)))) [] 130 := by
  have hb := byteN m k
  refine callE_of Tryd.tabOk (noI_ok _) (Tryd.bit48_0 m n k wr el ow) ⟨?_, ?_, ⟨?_, ?_⟩, ?_, ?_, ?_, ?_, ⟨rfl, ?_⟩, trivial⟩ (by kernel_rfl) (by kernel_rfl)
  · rw [show (1 : Int) = ((1 : Nat) : Int) from rfl, mask_and _ (bitN m k) (by omega) 1 (by omega) (by rw [Nat.and_one_is_mod]; rfl), wrap_i64]
    have := bitN_lt m k
    omega
  · exact wrap_small _ (by omega)
  · rw [ltF_f]; omega
  · exact shr_nat .u8 _ _ (by show 7 - k % 8 ≤ 8; omega)
  · rw [show ((7 - k % 8 : Nat) : Int) = 7 - ((k % 8 : Nat) : Int) by omega, wrap64_id]; omega
  · rw [show (7 : Int) = ((7 : Nat) : Int) from rfl, mask_and _ (k % 8) (by omega) 7 (by omega) (Nat.and_two_pow_sub_one_eq_mod k 3), wrap_i64]; omega
  · exact part_bytes Tryd.agg5 (by omega)
  · exact elem_g Tryd.sz5 (by omega) (by omega) (by omega)
  · exact shr_nat .i64 k 3 (by decide)
theorem Tryd.bit54 (m : List UInt8) (n k : Nat) (wr : Bool) (el : Nat) (ow : Ow) (h : k / 8 < n) (hn : n ≤ m.length) (hk : k ≤ 1000000000000000) : CallE Tryd.prog 54 [.sl 128 0 n ow, .pl (.int .i64 (.ofNat k))] [(128, .cells (bytesS m) wr el)] 130 (.pl (.int .i64 (.ofNat (bitN m k)))) [] 130 := by
  have hb := byteN m k
  refine callE_of Tryd.tabOk (noI_ok _) (Tryd.bit54_0 m n k wr el ow) ⟨?_, ?_, ⟨?_, ?_⟩, ?_, ?_, ?_, ?_, ?_, ?_, trivial⟩ (by kernel_rfl) (by kernel_rfl)
  · rw [show (2 : Int) = ((2 : Nat) : Int) from rfl, ← Int.ofNat_tmod]; rfl
  · exact wrap_small _ (by omega)
  · rw [ltF_f]; omega
  · exact shr_nat .u8 _ _ (by show 7 - k % 8 ≤ 8; omega)
  · rw [wrap_u64]; omega
  · rw [show ((7 - k % 8 : Nat) : Int) = 7 - ((k % 8 : Nat) : Int) by omega, wrap64_id]; omega
  · rw [show (8 : Int) = ((8 : Nat) : Int) from rfl, ← Int.ofNat_tmod]
  · exact part_bytes Tryd.agg5 (by omega)
  · exact elem_g Tryd.sz5 (by omega) (by omega) (by omega)
  · rw [show (8 : Int) = ((8 : Nat) : Int) from rfl, ← Int.ofNat_tdiv, wrap_i64]; omega
theorem Tryd.read35 (m : List UInt8) (n k : Nat) (wr : Bool) (el : Nat) (ow : Ow) (h : k < 8 * n) (hn : n ≤ m.length) (hl : n ≤ 1000000000000) : CallE Tryd.prog 35 [.sl 128 0 n ow, .pl (.int .i64 (.ofNat k)), .pl (.int .i64 1)] [(128, .cells (bytesS m) wr el)] 130 (.pl (.tuple #[.int .i64 (.ofNat (bitN m k)), .int .i64 0])) [] 130 := by
  have hc := CallE.here (Tryd.count25 n ow hl) (by kernel_rfl)
  have hb := CallE.here (Tryd.bit48 m n k wr el ow (by omega) hn (by omega)) (by kernel_rfl)
  have h2 := bitN_lt m k
  refine callE_of Tryd.tabOk (noI_ok _) (Tryd.read35a_0 m n k wr el ow) ⟨?_, ?_, hb, ?_, ?_, hc, ?_, hc, ?_, trivial⟩ (by kernel_rfl) (by kernel_rfl)
  · rw [wrap64_id]; omega
  · rw [show shV BinOp.shl IntKind.i64 0 1 = ((0 : Nat) : Int) from by decide, mask_or 0 (bitN m k) (by omega) (bitN m k) (by omega) (Nat.zero_or _), wrap_i64]; omega
  · rw [ltF_f]; omega
  · rw [wrap64_id]; omega
  · rw [ltF_f]; omega
  · rw [ltF_f]; omega
theorem Tryd.read35_more (m : List UInt8) (n k : Nat) (wr : Bool) (el : Nat) (ow : Ow) (h : ¬ k < 8 * n) (hl : n ≤ 1000000000000) (hk : k ≤ 1000000000000000) : CallE Tryd.prog 35 [.sl 128 0 n ow, .pl (.int .i64 (.ofNat k)), .pl (.int .i64 1)] [(128, .cells (bytesS m) wr el)] 130 (.pl (.tuple #[.int .i64 0, .int .i64 5])) [] 130 := by
  have hc := CallE.here (Tryd.count25 n ow hl) (by kernel_rfl)
  by_cases he : 8 * n < k
  · exact callE_of Tryd.tabOk (noI_ok _) (Tryd.read35b_0 m n k wr el ow) ⟨by rw [ltF_t]; omega, hc, by rw [ltF_f]; omega, trivial⟩ (by kernel_rfl) (by kernel_rfl)
  · exact callE_of Tryd.tabOk (noI_ok _) (Tryd.read35b_1 m n k wr el ow) ⟨by rw [ltF_t]; omega, by rw [wrap64_id]; omega, hc, by rw [ltF_f]; omega, hc, by rw [ltF_f]; omega, trivial⟩ (by kernel_rfl) (by kernel_rfl)
theorem Tryd.read47 (m : List UInt8) (n k : Nat) (wr : Bool) (el : Nat) (ow : Ow) (h : k < 8 * n) (hn : n ≤ m.length) (hl : n ≤ 1000000000000) : CallE Tryd.prog 47 [.sl 128 0 n ow, .pl (.int .i64 (.ofNat k)), .pl (.int .i64 1)] [(128, .cells (bytesS m) wr el)] 130 (.pl (.tuple #[.int .i64 (.ofNat (bitN m k)), .int .i64 0])) [] 130 := by
  have hc := CallE.here (Tryd.count46 n ow hl) (by kernel_rfl)
  have hb := CallE.here (Tryd.bit54 m n k wr el ow (by omega) hn (by omega)) (by kernel_rfl)
  have h2 := bitN_lt m k
  refine callE_of Tryd.tabOk (noI_ok _) (Tryd.read47a_0 m n k wr el ow) ⟨?_, hb, ?_, ?_, ?_, hc, ?_, hc, ?_, trivial⟩ (by kernel_rfl) (by kernel_rfl)
  · rw [Int.zero_add, wrap64_id]; omega
  · rw [Int.add_zero, wrap64_id]; omega
  · rw [ltF_f]; omega
  · rw [wrap64_id]; omega
  · rw [ltF_f]; omega
  · rw [ltF_f]; omega
end Go.Proofs
