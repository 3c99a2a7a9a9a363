/- AddressGets, walked: what it calls by what that answers. -/
import Derived.Test.YtjmcholbjjgelaaDoorGets7
namespace Go.Proofs
open Go.Sx Go.RowKit
set_option linter.unusedVariables false
set_option maxRecDepth 100000
theorem bitN_append {l p : List UInt8} {k : Nat} (h : k / 8 < l.length) : bitN (l ++ p) k = bitN l k := by
  unfold bitN
  rw [List.getD_eq_getElem?_getD, List.getD_eq_getElem?_getD, List.getElem?_append_left h]
theorem seenB_append {l p : List UInt8} {n a K : Nat} (h : n ≤ l.length) : seenB (l ++ p) n a K = seenB l n a K := by
  unfold seenB
  refine List.map_congr_left fun i hi => ?_
  rw [List.mem_range] at hi
  rw [bitN_append (by omega)]
theorem seenB_take (l : List UInt8) (n a : Nat) : (seenB l n a 24).take 15 = seenB l n a 15 := by
  unfold seenB
  rw [← List.map_take, List.take_range]
  congr 2
  omega
def room4 (l : List UInt8) : List UInt8 := l ++ [201, 202, 203, 204]
theorem strC_part {l : List UInt8} {off len : Nat} (h : off + len ≤ l.length) : strC (bytesS l) off len = some (.pl (.string (bs ((l.drop off).take len)))) := by
  have hb : ∀ l : List UInt8, toBytes (bytesS l) = some l := by
    intro l
    induction l with
    | nil => rfl
    | cons x r ih =>
      show (match toByte (SV.pl (Value.int IntKind.u8 (x.toNat : Int))) with | some b => (match toBytes (bytesS r) with | some l => some (b :: l) | none => none) | none => none) = _
      have : toByte (SV.pl (Value.int IntKind.u8 (x.toNat : Int))) = some x := by
        show (match Nat.blt x.toNat 256 with | true => some (UInt8.ofNat x.toNat) | false => none) = _
        rw [show Nat.blt x.toNat 256 = true by rw [Nat.blt_eq]; exact u8_lt x]
        simp
      rw [this, ih]
  unfold strC cutAt
  rw [show Nat.ble (off + len) (bytesS l).length = true by rw [Nat.ble_eq]; simpa [bytesS] using h]
  have e : ((bytesS l).drop off).take len = bytesS ((l.drop off).take len) := by simp [bytesS, List.map_drop, List.map_take]
  simp only [e, hb]
  rfl
theorem cutSl_ok {sz b off len most lo hi : Nat} {l h : Option Int} (h1 : boundI h len most = some hi) (h2 : boundI l 0 hi = some lo) : cutSlI sz b off len most l h = some (.sl b (off + lo * sz) (hi - lo) (cutOw most lo)) := by
  unfold cutSlI
  simp only [h1, h2]
theorem boundI_le {n most d : Nat} (h : n ≤ most) : boundI (some (n : Int)) d most = some n := by
  show (match Nat.ble n most with | true => some n | false => none) = some n
  rw [show Nat.ble n most = true by rw [Nat.ble_eq]; exact h]
section
variable (l : List UInt8) (hl : l.length ≤ 1000000000000)
include hl
theorem Tryd.lent : CallE Tryd.prog 10 [.sl 128 0 l.length .no] [(128, .cells (bytesS l) false 0)] 130 (.sl 130 0 l.length (.room (l.length + 4))) [(130, some (.cells (bytesS (room4 l)) true 5))] 132 := by
  have hrun := Tryd.lent_0 l
  have hbl : (bytesS l).length = l.length := by simp [bytesS]
  have h1 := callE_of Tryd.tabOk Tryd.I3_ok (ups := [(134, some (.cells [.pl (.int .u8 201), .pl (.int .u8 202), .pl (.int .u8 203), .pl (.int .u8 204)] true 5)), (136, some (.cells (bytesS (room4 l)) true 5))]) hrun
    ⟨?_, ?_, ?_, ⟨?_, rfl⟩, ?_, ⟨rfl, ?_⟩, trivial⟩ (by kernel_rfl) (by kernel_rfl)
  · refine CallE.norm (al := [136]) (ks := [128, 130]) h1 rfl (by kernel_rfl) (by kernel_rfl) (normOk_of (l := [(128, .cells (bytesS l) false 0), (130, .cells (bytesS (room4 l)) true 5)]) (r := [some (.cells (bytesS l) false 0), some (.cells (bytesS (room4 l)) true 5)]) (by kernel_rfl) (by kernel_rfl) (by simp only [List.map, AObj.ren, renL_bytes]) (by kernel_rfl)) (by rfl) rfl
  · rw [Nat.zero_add]
    exact cutSl_ok (lo := 0) (hi := l.length) (l := none) (boundI_le (by show l.length ≤ l.length + 4; omega)) rfl
  · show bytesS l ++ bytesS [201, 202, 203, 204] = bytesS (room4 l)
    simp [bytesS, room4]
  · rw [Bool.and_eq_true, Nat.ble_eq, Nat.ble_eq]; omega
  · rw [Nat.zero_add, List.nil_append]; exact cut_all hbl
  · rw [Bool.and_eq_true, Nat.ble_eq, Nat.ble_eq]; omega
  · exact cut_all hbl
theorem Tryd.kept_cap (c : Nat) (hc : l.length + 4 ≤ c) : CallE Tryd.prog 13 [.sl 130 0 l.length (.cap c), .sl 128 0 l.length .no] [(128, .cells (bytesS l) false 0), (130, .cells (bytesS (room4 l)) true 5)] 132 (.pl (.bool true)) [] 132 := by
  have hrl : (room4 l).length = l.length + 4 := by simp [room4]
  have h1 := callE_of Tryd.tabOk Tryd.I3_ok (ups := []) (Tryd.kept_0 l c) ⟨?_, ?_, ?_, ?_, ?_, ?_, ?_, ?_, ?_, ?_, trivial⟩ (by kernel_rfl) (by kernel_rfl)
  · exact CallE.forget h1 rfl (ks := [128, 130]) (by kernel_rfl) (l := [(128, .cells (bytesS l) false 0), (130, .cells (bytesS (room4 l)) true 5)]) (by kernel_rfl) (by kernel_rfl) (by simp only [List.map, renB, AObj.ren, renL_bytes]; rfl) rfl
  · show strC (bytesS (room4 l)) l.length 4 = _
    rw [strC_part (by omega)]
    simp [room4]
  · have h3 : boundI (some ((l.length : Int) + 4)) c (mostOf c (Ow.room c)) = some (l.length + 4) := by
      rw [show ((l.length : Int) + 4) = ((l.length + 4 : Nat) : Int) by omega]
      exact boundI_le (by show l.length + 4 ≤ max c c; omega)
    rw [cutSl_ok h3 (boundI_le (by omega))]
    simp [cutOw, mostOf]
  · rw [wrap64_id]; omega
  · rw [leF_t]; omega
  · rw [wrap64_id]; omega
  · rw [bs_toList]; simp
  · rw [strC_part (by omega)]; simp
  · show strC (bytesS (room4 l)) 0 l.length = _
    rw [strC_part (by omega)]
    simp [room4]
  · rw [eqF_t]
  · exact cutSl_ok (lo := 0) (hi := c) (l := none) (boundI_le (Nat.le_refl _)) rfl
theorem Tryd.kept : CallT Tryd.prog 13 [.sl 130 0 l.length (.room (l.length + 4)), .sl 128 0 l.length .no] [(128, .cells (bytesS l) false 0), (130, .cells (bytesS (room4 l)) true 5)] 132 (.pl (.bool true)) [] 132 := by
  intro g w0 F m w vs hm hn hbl hargs
  simp only [VRs] at hargs
  obtain ⟨v0, vs0, rfl, h0, v1, vs1, rfl, h1, rfl⟩ := hargs
  obtain ⟨c, hc, _, hv⟩ := room_cap h0 (by omega)
  exact CallE.here (Tryd.kept_cap l hl c hc) (by kernel_rfl) g w0 F m w _ hm hn hbl (by simp only [VRs]; exact ⟨_, _, rfl, hv, _, _, rfl, h1, rfl⟩)
end
theorem Tryd.gets_run (l : List UInt8) (a : Int) (h1 : -9223372036854775808 ≤ a) (h2 : a ≤ 9223372036854775807) : ∃ n hs m', callS Tryd.prog Tryd.tab (told Tryd.prog Tryd.I3) n 3 [.sl 128 0 l.length .no, .pl (.int .i64 a)] (meA (tabHeap Tryd.tabs) [bytesS l] hs) = some (.pl (.bool true), m') ∧ AllP m'.vc := by
  by_cases hlen : 100 < l.length
  · obtain ⟨m', e1, _, _, e2⟩ := finE_spec (Tryd.getsO_0 l a)
    exact ⟨_, _, m', e1, by rw [← e2]; exact ⟨by rw [ltF_t]; omega, trivial⟩⟩
  · have key : ∃ r : Int × Int × Int, CallE Tryd.prog 11 [.sl 128 0 l.length (.room (l.length + 4)), .pl (.int .i64 a)] (tabB (room4 l) true 5) 130 (tri3 r) [] 130 ∧
        CallE Tryd.prog 12 [.sl 128 0 l.length .no, .pl (.int .i64 a)] [(128, .cells (bytesS l) false 0)] 130 (tri3 r) [] 130 := by
      rcases Int.lt_or_le a 0 with hneg | hpos
      · exact ⟨(0, 0, 3), Tryd.get_neg _ _ _ _ _ _ hneg, Tryd.rget_of l l.length a false 0 .no (0, 0, 3) (Tryd.tree_neg l l.length false 0 .no Tryd.L35 Tryd.Z35 a hneg)⟩
      · obtain ⟨k, rfl⟩ := Int.eq_ofNat_of_zero_le hpos
        have ht := Tryd.tree l l.length k false 0 .no Tryd.L35 Tryd.Z35 (Nat.le_refl _) (by rw [Tryd.L35_len]; omega) (fun c hc => by have := (Tryd.L35_codes c hc).2; omega) (by rw [Tryd.L35_len]; rfl) (by omega) (by omega)
        have hr := Tryd.rget_of l l.length k false 0 .no _ ht
        refine ⟨_, ?_, hr⟩
        by_cases hin : k ≤ 8 * l.length
        · have hg := Tryd.get_in (room4 l) l.length k true 5 (.room (l.length + 4)) (by simp [room4]) (by omega) hin
          rw [show seenB (room4 l) l.length k 15 = (seenB l l.length k 24).take 15 by rw [seenB_take]; exact seenB_append (Nat.le_refl _), gets_same] at hg
          exact hg
        · have hg := Tryd.get_out (room4 l) l.length k true 5 (.room (l.length + 4)) (by omega) hin
          have e : seenB l l.length k 24 = [] := by
            unfold seenB
            rw [show 8 * l.length - k = 0 by omega]
            rfl
          rw [e, show ref34 (treeR Tryd.L35 Tryd.Z35 []) = (0, 0, 5) by kernel_rfl]
          exact hg
    obtain ⟨r, k1, k2⟩ := key
    obtain ⟨m', e1, _, _, e2⟩ := finE_spec (Tryd.getsR_0 l a r.1 r.2.1 r.2.2)
    refine ⟨_, _, m', e1, ?_⟩
    rw [← e2]
    have t11 := CallE.at k1 [130] 132 (by kernel_rfl) (args' := [.sl 130 0 l.length (.room (l.length + 4)), .pl (.int .i64 a)]) rfl (bl' := [(7, .cells (tabCells .u8 Tryd.tab64) false 0), (130, .cells (bytesS (room4 l)) true 5)]) (by simp only [tabB, List.map, renB, AObj.ren, renL_bytes, renL_tab]; rfl) rfl rfl rfl
    have t12 := CallE.at k2 [128] 132 (by kernel_rfl) (args' := [.sl 128 0 l.length .no, .pl (.int .i64 a)]) rfl (bl' := [(128, .cells (bytesS l) false 0)]) (by simp only [List.map, renB, AObj.ren, renL_bytes]; rfl) rfl rfl rfl
    exact ⟨Tryd.kept l (by omega), by rw [eqF_t], by rw [eqF_t], by rw [eqF_t], t12, t11, CallE.here (Tryd.lent l (by omega)) (by kernel_rfl), by rw [ltF_f]; omega, trivial⟩
end Go.Proofs
