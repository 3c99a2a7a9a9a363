/- The reference's Make. -/
import Derived.Test.YtjmcholbjjgelaaDoorGetsC
import Derived.Test.YtjmcholbjjgelaaDoorGetsE
import Derived.Test.YtjmcholbjjgelaaDoorGetsF
import Derived.Test.YtjmcholbjjgelaaDoorGets3
namespace Go.Proofs
open Go.Sx Go.RowKit
set_option linter.unusedVariables false
set_option linter.unusedSimpArgs false
set_option maxRecDepth 100000
/-! ### code -/
def isCode (c : List UInt8) : Prop := (∀ j, j < c.length → (c.getD j 0).toNat = 48 ∨ (c.getD j 0).toNat = 49) ∧ 1 ≤ c.length ∧ c.length ≤ 24
noncomputable abbrev cdC44 : Code := bodyOf Tryd.f44 2
theorem cd44_ok : codeOk cdC44 = true := by kernel_rfl
theorem Tryd.cd_loop (c : List UInt8) (h : isCode c) : ∀ (d i : Nat), c.length - i = d → i ≤ c.length → LoopE Tryd.prog (.loop cdC44) 28 (some none) [(0, .pl (.string (bs c))), (3, .pl (.int .i64 (.ofNat i)))] [] 128 (.exit 0) [(0, .pl (.string (bs c)))] [] 128 := by
  obtain ⟨hb, hl1, hl2⟩ := h
  intro d
  induction d with
  | zero =>
    intro i h1 h2
    exact LoopE.leave (triE_of Tryd.tabOk (noI_ok _) (Tryd.cdC_0 c i) ⟨by rw [ltF_f]; omega, trivial⟩ cd44_ok (by kernel_rfl) (by kernel_rfl)) (by simp)
  | succ d ih =>
    intro i h1 h2
    have hi : i < c.length := by omega
    have hs : strAt (bs c) (i : Int) = some (.pl (.int .u8 (btAt (bs c) i))) := by rw [btAt_bs]; exact strAt_bs (by omega) (by omega)
    have hw : wrap64F ((i : Int) + 1) = ((i + 1 : Nat) : Int) := by rw [show ((i + 1 : Nat) : Int) = (i : Int) + 1 by omega, wrap64_id]; omega
    have hlt : ltF (i : Int) (c.length : Int) = true := by rw [ltF_t]; omega
    have hbt := btAt_bs c i
    rcases hb i hi with h8 | h9
    · exact Tri.round (triE_of Tryd.tabOk (noI_ok _) (ups := []) (Tryd.cdA_2 c i) ⟨hw, by rw [neF_f]; omega, hs, hlt, trivial⟩ cd44_ok (by kernel_rfl) (by kernel_rfl)) (ih (i + 1) (by omega) (by omega))
    · exact Tri.round (triE_of Tryd.tabOk (noI_ok _) (ups := []) (Tryd.cdA_1 c i) ⟨hw, by rw [neF_f]; omega, hs, by rw [neF_t]; omega, hs, hlt, trivial⟩ cd44_ok (by kernel_rfl) (by kernel_rfl)) (ih (i + 1) (by omega) (by omega))
theorem Tryd.cd (c : List UInt8) (h : isCode c) : CallE Tryd.prog 44 [.pl (.string (bs c))] [] 128 (.pl (.bool true)) [] 128 := by
  have hl := LoopE.here (Tryd.cd_loop c h _ 0 rfl (Nat.zero_le _)) rfl (by kernel_rfl)
  obtain ⟨hb, hl1, hl2⟩ := h
  exact callE_of Tryd.tabOk (noI_ok _) (Tryd.cd_0 c) ⟨by rw [leF_t]; omega, by rw [leF_t]; omega, hl, trivial⟩ (by kernel_rfl) (by kernel_rfl)
/-! ### Make -/
section
variable (ow ow2 : Ow) (L : List (List UInt8)) (Z : List Int) (hz : L.length = Z.length) (h0 : 0 < L.length) (h300 : L.length ≤ 300) (hcode : ∀ c ∈ L, isCode c) (hpre : ∀ i k, i < L.length → k < L.length → i ≠ k → ¬ L.getD k [] <+: L.getD i [])
def mkB (L : List (List UInt8)) (Z : List Int) : List (Nat × AObj) := [(128, .cells (strsS L) true 9), (130, .cells (intsS Z) true 3)]
def mkS (ow ow2 : Ow) (L : List (List UInt8)) (Z : List Int) : List (Nat × SV) := [(0, .sl 128 0 L.length ow), (1, .sl 130 0 Z.length ow2)]
noncomputable abbrev mk4 : Code := bodyOf Tryd.f30 4
noncomputable abbrev mk9 : Code := bodyOf Tryd.f30 9
noncomputable abbrev mk12 : Code := bodyOf Tryd.f30 12
theorem mk4_ok : codeOk mk4 = true := by kernel_rfl
theorem mk9_ok : codeOk mk9 = true := by kernel_rfl
theorem mk12_ok : codeOk mk12 = true := by kernel_rfl
theorem getD_mem {α : Type} {l : List α} {k : Nat} {d : α} (h : k < l.length) : l.getD k d ∈ l := by
  rw [List.getD_eq_getElem?_getD, List.getElem?_eq_getElem h]
  exact List.getElem_mem h
include h300 hcode in
theorem Tryd.mk_loop4 : ∀ (d i : Nat), L.length - i = d → i ≤ L.length → LoopE Tryd.prog (.loop mk4) 70 (some none) (mkS ow ow2 L Z ++ [(6, .pl (.int .i64 (.ofNat i)))]) (mkB L Z) 132 (.exit 0) (mkS ow ow2 L Z) [] 132 := by
  intro d
  induction d with
  | zero =>
    intro i h1 h2
    exact LoopE.leave (triE_of Tryd.tabOk (noI_ok _) (Tryd.mkC_0 ow ow2 L Z i) ⟨by rw [ltF_f]; omega, trivial⟩ mk4_ok (by kernel_rfl) (by kernel_rfl)) (by simp)
  | succ d ih =>
    intro i h1 h2
    have hi : i < L.length := by omega
    have hc := CallE.at (Tryd.cd _ (hcode _ (getD_mem (d := []) hi))) [] 132 (by kernel_rfl) rfl rfl rfl rfl rfl
    exact Tri.round (triE_of Tryd.tabOk (noI_ok _) (ups := []) (Tryd.mkA_0 ow ow2 L Z i) ⟨by rw [show ((i + 1 : Nat) : Int) = (i : Int) + 1 by omega, wrap64_id]; omega, hc, part_strs Tryd.agg9 hi, elem_g Tryd.sz9 (by omega) (by omega) (by omega), by rw [ltF_t]; omega, trivial⟩ mk4_ok (by kernel_rfl) (by kernel_rfl)) (ih (i + 1) (by omega) (by omega))
include h300 hcode hpre in
theorem Tryd.mk_loop12 (i : Nat) (hi : i < L.length) : ∀ (d k : Nat), L.length - k = d → k ≤ L.length → LoopE Tryd.prog (.loop mk12) 70 (some none) (mkS ow ow2 L Z ++ [(7, .pl (.int .i64 (.ofNat i))), (8, .pl (.int .i64 (.ofNat k)))]) (mkB L Z) 132 (.exit 4) (mkS ow ow2 L Z ++ [(7, .pl (.int .i64 (.ofNat i)))]) [] 132 := by
  intro d
  induction d with
  | zero =>
    intro k h1 h2
    exact LoopE.leave (triE_of Tryd.tabOk (noI_ok _) (Tryd.mkJ_0 ow ow2 L Z i k) ⟨by rw [ltF_f]; omega, trivial⟩ mk12_ok (by kernel_rfl) (by kernel_rfl)) (by simp)
  | succ d ih =>
    intro k h1 h2
    have hk : k < L.length := by omega
    have hw : wrap64F ((k : Int) + 1) = ((k + 1 : Nat) : Int) := by rw [show ((k + 1 : Nat) : Int) = (k : Int) + 1 by omega, wrap64_id]; omega
    by_cases he : i = k
    · exact Tri.round (triE_of Tryd.tabOk (noI_ok _) (ups := []) (Tryd.mkI_1 ow ow2 L Z i k) ⟨hw, by rw [neF_f]; omega, by rw [ltF_t]; omega, trivial⟩ mk12_ok (by kernel_rfl) (by kernel_rfl)) (ih (k + 1) (by omega) (by omega))
    · have hl1 := (hcode _ (getD_mem (d := []) hi)).2.2
      have hl2 := (hcode _ (getD_mem (d := []) hk)).2.2
      have hc := CallE.at (Tryd.begins (L.getD i []) (L.getD k []) (by omega) (by omega)) [] 132 (by kernel_rfl) rfl rfl rfl rfl rfl
      rw [decide_eq_false (hpre i k hi hk he)] at hc
      exact Tri.round (triE_of Tryd.tabOk (noI_ok _) (ups := []) (Tryd.mkI_0 ow ow2 L Z i k) ⟨hw, hc, part_strs Tryd.agg9 hk, elem_g Tryd.sz9 (by omega) (by omega) (by omega), part_strs Tryd.agg9 hi, elem_g Tryd.sz9 (by omega) (by omega) (by omega), by rw [neF_t]; omega, by rw [ltF_t]; omega, trivial⟩ mk12_ok (by kernel_rfl) (by kernel_rfl)) (ih (k + 1) (by omega) (by omega))
include h300 hcode hpre in
theorem Tryd.mk_loop9 : ∀ (d i : Nat), L.length - i = d → i ≤ L.length → LoopE Tryd.prog (.loop mk9) 70 (some none) (mkS ow ow2 L Z ++ [(7, .pl (.int .i64 (.ofNat i)))]) (mkB L Z) 132 (.exit 2) (mkS ow ow2 L Z) [] 132 := by
  intro d
  induction d with
  | zero =>
    intro i h1 h2
    exact LoopE.leave (triE_of Tryd.tabOk (noI_ok _) (Tryd.mkO_0 ow ow2 L Z i) ⟨by rw [ltF_f]; omega, trivial⟩ mk9_ok (by kernel_rfl) (by kernel_rfl)) (by simp)
  | succ d ih =>
    intro i h1 h2
    have hi : i < L.length := by omega
    have hl := LoopE.here (Tryd.mk_loop12 ow ow2 L Z h300 hcode hpre i hi _ 0 rfl (Nat.zero_le _)) rfl (by kernel_rfl)
    exact Tri.round (triE_of Tryd.tabOk (noI_ok _) (ups := []) (Tryd.mkP_0 ow ow2 L Z i) ⟨by rw [show ((i + 1 : Nat) : Int) = (i : Int) + 1 by omega, wrap64_id]; omega, hl, by rw [ltF_t]; omega, trivial⟩ mk9_ok (by kernel_rfl) (by kernel_rfl)) (ih (i + 1) (by omega) (by omega))
theorem cut_all {l : List SV} {n : Nat} (h : l.length = n) : cutAt (n * 1) 0 l = some l := by
  subst h
  unfold cutAt
  rw [show Nat.ble (0 + l.length * 1) l.length = true by rw [Nat.ble_eq]; omega]
  simp
include hz h0 h300 hcode hpre in
theorem Tryd.mk : CallE Tryd.prog 30 [.sl 128 0 L.length ow, .sl 130 0 Z.length ow2] (mkB L Z) 132 (.tup [.ptr 132 0, .pl (.int .i64 0)])
    [(132, some (.cells [.sl 134 0 L.length (.own 1), .sl 136 0 Z.length (.own 1)] true 72)), (134, some (.cells (strsS L) true 9)), (136, some (.cells (intsS Z) true 3))] 138 := by
  have hrun := Tryd.mk_0 ow ow2 L Z
  simp only [Nat.zero_add, List.nil_append] at hrun
  have hl9 := LoopE.here (Tryd.mk_loop9 ow ow2 L Z h300 hcode hpre _ 0 rfl (Nat.zero_le _)) rfl (by kernel_rfl)
  have hl4 := LoopE.here (Tryd.mk_loop4 ow ow2 L Z h300 hcode _ 0 rfl (Nat.zero_le _)) rfl (by kernel_rfl)
  have h1 := callE_of Tryd.tabOk (noI_ok _) (ups := [(134, some (.cells (strsS L) true 9)), (138, some (.cells (intsS Z) true 3)), (140, some (.cells [.sl 134 0 L.length (.own 1), .sl 138 0 Z.length (.own 1)] true 72))]) hrun
    ⟨by rw [Bool.and_eq_true, Nat.ble_eq, Nat.ble_eq]; omega, ⟨trivial, cut_all (by simp [intsS])⟩, by rw [Bool.and_eq_true, Nat.ble_eq, Nat.ble_eq]; omega, ⟨trivial, cut_all (by simp [strsS])⟩, hl9, hl4, by rw [ltF_f]; omega, by rw [eqF_f]; omega, by rw [neF_f]; omega, trivial⟩ (by kernel_rfl) (by kernel_rfl)
  refine CallE.norm (al := [140, 134, 138]) (ks := [128, 130, 132, 134, 136]) h1 rfl (by kernel_rfl) (by kernel_rfl) (normOk_of (l := [(128, .cells (strsS L) true 9), (130, .cells (intsS Z) true 3), (132, .cells [.sl 134 0 L.length (.own 1), .sl 136 0 Z.length (.own 1)] true 72), (134, .cells (strsS L) true 9), (136, .cells (intsS Z) true 3)])
    (r := [some (.cells (strsS L) true 9), some (.cells (intsS Z) true 3), some (.cells [.sl 134 0 L.length (.own 1), .sl 138 0 Z.length (.own 1)] true 72), some (.cells (strsS L) true 9), some (.cells (intsS Z) true 3)]) (by kernel_rfl) (by kernel_rfl) (by simp only [List.map, AObj.ren, renL_strs, renL_ints]; rfl) (by kernel_rfl)) (by rfl) rfl
end
end Go.Proofs
