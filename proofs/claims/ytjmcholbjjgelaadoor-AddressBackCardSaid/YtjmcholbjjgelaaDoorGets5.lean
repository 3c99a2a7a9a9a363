/- The reference's Tree.Get, and its Get. -/
import Derived.Test.YtjmcholbjjgelaaDoorGets4
namespace Go.Proofs
open Go.Sx Go.RowKit
set_option linter.unusedVariables false
set_option linter.unusedSimpArgs false
set_option maxRecDepth 100000
theorem Tryd.agg3g : isAgg? Tryd.tab 3 = some false := by kernel_rfl
theorem Tryd.sz3g : sizeOf? Tryd.tab 3 = some 1 := by kernel_rfl
section
variable (m : List UInt8) (n a : Nat) (wr : Bool) (el : Nat) (ow : Ow) (L : List (List UInt8)) (Z : List Int)
def treeB (m : List UInt8) (wr : Bool) (el : Nat) (L : List (List UInt8)) (Z : List Int) : List (Nat × AObj) :=
  [(128, .cells (bytesS m) wr el), (130, .cells [.sl 132 0 L.length (.own 1), .sl 134 0 L.length (.own 1)] true 72), (132, .cells (strsS L) true 9), (134, .cells (intsS Z) true 3)]
theorem treeB_ren (R : Nat → Nat) (h0 : R 128 = 128) (h1 : R 130 = 130) (h2 : R 132 = 132) (h3 : R 134 = 134) : (treeB m wr el L Z).map (renB R) = treeB m wr el L Z := by
  simp only [treeB, List.map, renB, AObj.ren, SV.renL, SV.ren, renL_bytes, renL_strs, renL_ints, h0, h1, h2, h3]
noncomputable abbrev rs4 : Code := bodyOf Tryd.f33 4
noncomputable abbrev rs8 : Code := bodyOf Tryd.f33 8
noncomputable abbrev rs13 : Code := bodyOf Tryd.f33 13
theorem rs4_ok : codeOk rs4 = true := by kernel_rfl
theorem rs8_ok : codeOk rs8 = true := by kernel_rfl
theorem rs13_ok : codeOk rs13 = true := by kernel_rfl
def rsS (n a : Nat) (ow : Ow) (out : List UInt8) : List (Nat × SV) := [(0, .ptr 130 0), (1, .sl 128 0 n ow), (2, .pl (.int .i64 (.ofNat a))), (9, .pl (.string (bs out)))]
variable (hn : n ≤ m.length)
include hn in
theorem Tryd.rs_loop (hl : n ≤ 1000000000000) (ha : a ≤ 1000000000000000) : ∀ (d i : Nat), 24 - i = d → i ≤ 24 → (i ≤ 8 * n - a) →
    LoopE Tryd.prog (.loop rs4) 95 (some none) (rsS n a ow (seenB m n a i)) (treeB m wr el L Z) 136 (.exit 0) (rsS n a ow (seenB m n a 24)) [] 136 := by
  intro d
  have h46 := CallE.at (Tryd.count46 n ow hl) [128] 136 (by kernel_rfl) rfl rfl rfl rfl rfl
  induction d with
  | zero =>
    intro i h1 h2 h3
    obtain rfl : i = 24 := by omega
    have hlen : (seenB m n a 24).length = 24 := by rw [seenB_len]; omega
    have hw : wrap64F ((a : Int) + ((seenB m n a 24).length : Int)) = ((a + (seenB m n a 24).length : Nat) : Int) := by rw [show ((a + (seenB m n a 24).length : Nat) : Int) = (a : Int) + ((seenB m n a 24).length : Int) by omega, wrap64_id]; omega
    by_cases hc : a + (seenB m n a 24).length < 8 * n
    · exact LoopE.leave (triE_of Tryd.tabOk Tryd.I3_ok (ups := []) (Tryd.rseenC_0 m n a wr el ow _ L Z) ⟨by rw [ltF_f]; omega, by rw [ltF_t]; omega, h46, hw, trivial⟩ rs4_ok (by kernel_rfl) (by kernel_rfl)) (by simp)
    · exact LoopE.leave (triE_of Tryd.tabOk Tryd.I3_ok (ups := []) (Tryd.rseenC_1 m n a wr el ow _ L Z) ⟨by rw [ltF_f]; omega, h46, hw, trivial⟩ rs4_ok (by kernel_rfl) (by kernel_rfl)) (by simp)
  | succ d ih =>
    intro i h1 h2 h3
    have hlen : (seenB m n a i).length = i := by rw [seenB_len]; omega
    have hw : wrap64F ((a : Int) + ((seenB m n a i).length : Int)) = ((a + (seenB m n a i).length : Nat) : Int) := by rw [show ((a + (seenB m n a i).length : Nat) : Int) = (a : Int) + ((seenB m n a i).length : Int) by omega, wrap64_id]; omega
    by_cases h : a + i < 8 * n
    · have hb := bitN_lt m (a + (seenB m n a i).length)
      have h47 := CallE.at (Tryd.read47 m n (a + (seenB m n a i).length) wr el ow (by omega) hn hl) [128] 136 (by kernel_rfl) rfl (by simp only [List.map, renB, AObj.ren, renL_bytes]; rfl) rfl rfl rfl
      have hstr : strC [SV.pl (Value.int IntKind.u8 ((48 + bitN m (a + (seenB m n a i).length) : Nat) : Int))] 0 1 = some (.pl (.string (bs [UInt8.ofNat (48 + bitN m (a + (seenB m n a i).length))]))) := by
        generalize bitN m (a + (seenB m n a i).length) = x at hb
        unfold strC
        show (match (toBytes [SV.pl (Value.int IntKind.u8 ((48 + x : Nat) : Int))]) with | some bs => some (SV.pl (Value.string ⟨bs.toArray⟩)) | none => none) = _
        have : toBytes [SV.pl (Value.int IntKind.u8 ((48 + x : Nat) : Int))] = some [UInt8.ofNat (48 + x)] := by
          show (match (match Nat.blt (48 + x) 256 with | true => some (UInt8.ofNat (48 + x)) | false => none) with | some b => some [b] | none => none) = _
          rw [show Nat.blt (48 + x) 256 = true by rw [Nat.blt_eq]; omega]
        rw [this]
        rfl
      have hround := Tri.forget (triE_of Tryd.tabOk Tryd.I3_ok (ups := []) (Tryd.rseenA_0 m n a wr el ow (seenB m n a i) L Z) ⟨⟨by show (bs _).size + (bs _).size ≤ 9223372036854775807; simp only [bs_size, List.length_cons, List.length_nil]; omega, bs_append _ _⟩,
        hstr, by rw [wrap_u8]; omega, by rw [show ((48 + bitN m (a + (seenB m n a i).length) : Nat) : Int) = 48 + (bitN m (a + (seenB m n a i).length) : Int) by omega, wrap64_id]; omega, h47, hw, by rw [ltF_t]; omega, by rw [ltF_t]; omega, h46, hw, trivial⟩ rs4_ok (by kernel_rfl) (by kernel_rfl))
        rfl (ks := [128, 130, 132, 134]) (by kernel_rfl) (l := treeB m wr el L Z) (by kernel_rfl) (by kernel_rfl) (treeB_ren m wr el L Z _ rfl rfl rfl rfl) rfl
      rw [hlen, seenB_succ h] at hround
      exact Tri.round hround (ih (i + 1) (by omega) (by omega) (by omega))
    · rw [seenB_full (m := m) (n := n) (a := a) (i := i) (K := 24) (by omega)] at hw hlen ⊢
      exact LoopE.leave (triE_of Tryd.tabOk Tryd.I3_ok (ups := []) (Tryd.rseenC_1 m n a wr el ow _ L Z) ⟨by rw [ltF_f]; omega, h46, hw, trivial⟩ rs4_ok (by kernel_rfl) (by kernel_rfl)) (by simp)
/-- the first code that a text begins with -/
def first (s : List UInt8) : List (List UInt8) → Nat → Option (Nat × Nat)
  | [], _ => none
  | c :: r, k => if c <+: s then some (k, c.length) else first s r (k + 1)
def FirstAt (s : List UInt8) (k : Nat) : Option (Nat × Nat) → Prop
  | some x => LoopE Tryd.prog (.loop rs8) 95 (some none) [(0, .ptr 130 0), (9, .pl (.string (bs s))), (12, .pl (.int .i64 (.ofNat k)))] (treeB m wr el L Z) 136 .ret [(6, .pl (.int .i64 (Z.getD x.1 0))), (7, .pl (.int .i64 (.ofNat x.2))), (8, .pl (.int .i64 0))] [] 136
  | none => LoopE Tryd.prog (.loop rs8) 95 (some none) [(0, .ptr 130 0), (9, .pl (.string (bs s))), (12, .pl (.int .i64 (.ofNat k)))] (treeB m wr el L Z) 136 (.exit 2) [(0, .ptr 130 0), (9, .pl (.string (bs s)))] [] 136
theorem drop_cons {α : Type} {L : List α} {k : Nat} {d : α} (h : k < L.length) : L.drop k = L.getD k d :: L.drop (k + 1) := by
  rw [List.drop_eq_getElem_cons h, List.getD_eq_getElem?_getD, List.getElem?_eq_getElem h]
  rfl
variable (s : List UInt8) (hs : s.length ≤ 1000) (hL : L.length ≤ 1000) (hc : ∀ c ∈ L, c.length ≤ 1000) (hz : L.length = Z.length)
include hs hL hc hz in
theorem Tryd.first_loop : ∀ (d k : Nat), L.length - k = d → k ≤ L.length → FirstAt m wr el L Z s k (first s (L.drop k) k) := by
  intro d
  induction d with
  | zero =>
    intro k h1 h2
    obtain rfl : k = L.length := by omega
    rw [List.drop_length]
    exact LoopE.leave (triE_of Tryd.tabOk Tryd.I3_ok (ups := []) (Tryd.firstC_0 m wr el s L Z _) ⟨by rw [ltF_f]; omega, trivial⟩ rs8_ok (by kernel_rfl) (by kernel_rfl)) (by simp)
  | succ d ih =>
    intro k h1 h2
    have hk : k < L.length := by omega
    rw [drop_cons (d := []) hk]
    have hcl := hc _ (getD_mem (d := []) hk)
    have h45 := CallE.at (Tryd.begins s (L.getD k []) (by omega) (by omega)) [] 136 (by kernel_rfl) rfl rfl rfl rfl rfl
    have hw : wrap64F ((k : Int) + 1) = ((k + 1 : Nat) : Int) := by rw [show ((k + 1 : Nat) : Int) = (k : Int) + 1 by omega, wrap64_id]; omega
    have hpt : partS Tryd.tab 9 (strsS L) k = some (.pl (.string (bs (L.getD k [])))) := part_strs Tryd.agg9 hk
    have hel : elemAt Tryd.tab 9 132 0 L.length (some (k : Int)) = some (.ptr 132 k) := elem_g Tryd.sz9 (by omega) (by omega) (by omega)
    have hlt : ltF (k : Int) (L.length : Int) = true := by rw [ltF_t]; omega
    simp only [first]
    by_cases hp : L.getD k [] <+: s
    · rw [if_pos hp]
      rw [decide_eq_true hp] at h45
      exact LoopE.leave (triE_of Tryd.tabOk Tryd.I3_ok (ups := []) (Tryd.firstY_0 m wr el s L Z k) ⟨hpt, hel, part_ints Tryd.agg3g (by omega), elem_g Tryd.sz3g (by omega) (by omega) (by omega), h45, hpt, hel, hlt, trivial⟩ rs8_ok (by kernel_rfl) (by kernel_rfl)) (by simp)
    · rw [if_neg hp]
      rw [decide_eq_false hp] at h45
      have hround := triE_of Tryd.tabOk Tryd.I3_ok (ups := []) (Tryd.firstN_0 m wr el s L Z k) ⟨hw, h45, hpt, hel, hlt, trivial⟩ rs8_ok (by kernel_rfl) (by kernel_rfl)
      have hi := ih (k + 1) (by omega) (by omega)
      cases hf : first s (L.drop (k + 1)) (k + 1) with
      | some x => rw [hf] at hi; exact Tri.round hround hi
      | none => rw [hf] at hi; exact Tri.round hround hi
/-- is a text the beginning of a code? -/
def anyOf (s : List UInt8) (L : List (List UInt8)) : Bool := L.any fun c => decide (s <+: c)
include hs hL hc in
theorem Tryd.any_loop : ∀ (d k : Nat), L.length - k = d → k ≤ L.length →
    (anyOf s (L.drop k) = true → LoopE Tryd.prog (.loop rs13) 95 (some none) [(0, .ptr 130 0), (9, .pl (.string (bs s))), (13, .pl (.int .i64 (.ofNat k)))] (treeB m wr el L Z) 136 .ret [(6, .pl (.int .i64 0)), (7, .pl (.int .i64 0)), (8, .pl (.int .i64 5))] [] 136) ∧
    (anyOf s (L.drop k) = false → LoopE Tryd.prog (.loop rs13) 95 (some none) [(0, .ptr 130 0), (9, .pl (.string (bs s))), (13, .pl (.int .i64 (.ofNat k)))] (treeB m wr el L Z) 136 (.exit 4) [(0, .ptr 130 0), (9, .pl (.string (bs s)))] [] 136) := by
  intro d
  induction d with
  | zero =>
    intro k h1 h2
    obtain rfl : k = L.length := by omega
    rw [List.drop_length]
    refine ⟨fun h => by simp [anyOf] at h, fun _ => ?_⟩
    exact LoopE.leave (triE_of Tryd.tabOk Tryd.I3_ok (ups := []) (Tryd.anyC_0 m wr el s L Z _) ⟨by rw [ltF_f]; omega, trivial⟩ rs13_ok (by kernel_rfl) (by kernel_rfl)) (by simp)
  | succ d ih =>
    intro k h1 h2
    have hk : k < L.length := by omega
    rw [drop_cons (d := []) hk]
    have hcl := hc _ (getD_mem (d := []) hk)
    have h45 := CallE.at (Tryd.begins (L.getD k []) s (by omega) (by omega)) [] 136 (by kernel_rfl) rfl rfl rfl rfl rfl
    have hw : wrap64F ((k : Int) + 1) = ((k + 1 : Nat) : Int) := by rw [show ((k + 1 : Nat) : Int) = (k : Int) + 1 by omega, wrap64_id]; omega
    have hpt : partS Tryd.tab 9 (strsS L) k = some (.pl (.string (bs (L.getD k [])))) := part_strs Tryd.agg9 hk
    have hel : elemAt Tryd.tab 9 132 0 L.length (some (k : Int)) = some (.ptr 132 k) := elem_g Tryd.sz9 (by omega) (by omega) (by omega)
    have hlt : ltF (k : Int) (L.length : Int) = true := by rw [ltF_t]; omega
    obtain ⟨i1, i2⟩ := ih (k + 1) (by omega) (by omega)
    simp only [anyOf, List.any_cons]
    by_cases hp : s <+: L.getD k []
    · rw [decide_eq_true hp] at h45 ⊢
      refine ⟨fun _ => ?_, fun h => by simp at h⟩
      exact LoopE.leave (triE_of Tryd.tabOk Tryd.I3_ok (ups := []) (Tryd.anyY_0 m wr el s L Z k) ⟨h45, hpt, hel, hlt, trivial⟩ rs13_ok (by kernel_rfl) (by kernel_rfl)) (by simp)
    · rw [decide_eq_false hp] at h45 ⊢
      have hround := triE_of Tryd.tabOk Tryd.I3_ok (ups := []) (Tryd.anyN_0 m wr el s L Z k) ⟨hw, h45, hpt, hel, hlt, trivial⟩ rs13_ok (by kernel_rfl) (by kernel_rfl)
      rw [Bool.false_or]
      exact ⟨fun h => Tri.round hround (i1 h), fun h => Tri.round hround (i2 h)⟩
include hn in
omit hs hL hc hz in
theorem Tryd.rs_start (hl : n ≤ 1000000000000) (ha : a ≤ 9223372036854775807) : LoopE Tryd.prog (.loop rs4) 95 (some none) (rsS n a ow []) (treeB m wr el L Z) 136 (.exit 0) (rsS n a ow (seenB m n a 24)) [] 136 := by
  have e0 : seenB m n a 0 = [] := by unfold seenB; simp
  by_cases h : a ≤ 1000000000000000
  · have := Tryd.rs_loop m n a wr el ow L Z hn hl h 24 0 (by omega) (by omega) (by omega)
    rwa [e0] at this
  · have e1 : seenB m n a 24 = [] := by
      unfold seenB
      rw [show 8 * n - a = 0 by omega]
      rfl
    rw [e1]
    have h46 := CallE.at (Tryd.count46 n ow hl) [128] 136 (by kernel_rfl) rfl rfl rfl rfl rfl
    exact LoopE.leave (triE_of Tryd.tabOk Tryd.I3_ok (ups := []) (Tryd.rseenC_1 m n a wr el ow [] L Z) ⟨by rw [ltF_f]; show ((8 * n : Nat) : Int) ≤ ((a + 0 : Nat) : Int); omega, h46, by show wrap64F ((a : Int) + ((0 : Nat) : Int)) = ((a + 0 : Nat) : Int); rw [show ((a : Int) + ((0 : Nat) : Int)) = ((a + 0 : Nat) : Int) by omega, wrap64_id]; omega, trivial⟩ rs4_ok (by kernel_rfl) (by kernel_rfl)) (by simp)
def treeR (L : List (List UInt8)) (Z : List Int) (s : List UInt8) : Int × Int × Int :=
  match first s L 0 with
  | some x => (Z.getD x.1 0, x.2, 0)
  | none => match anyOf s L with
    | true => (0, 0, 5)
    | false => (0, 0, 7)
include hn in
omit hs in
include hL hc hz in
theorem Tryd.tree (hl : n ≤ 1000000000000) (ha : a ≤ 9223372036854775807) : CallE Tryd.prog 33 [.ptr 130 0, .sl 128 0 n ow, .pl (.int .i64 (.ofNat a))] (treeB m wr el L Z) 136 (tri3 (treeR L Z (seenB m n a 24))) [] 136 := by
  have hs : (seenB m n a 24).length ≤ 1000 := by rw [seenB_len]; exact Nat.le_trans (Nat.min_le_left _ _) (by omega)
  have h4 := LoopE.here (Tryd.rs_start m n a wr el ow L Z hn hl ha) rfl (by kernel_rfl)
  have hge : ltF (a : Int) 0 = false := by rw [ltF_f]; omega
  have h8 := Tryd.first_loop m wr el L Z (seenB m n a 24) hs hL hc hz _ 0 rfl (Nat.zero_le _)
  obtain ⟨i1, i2⟩ := Tryd.any_loop m wr el L Z (seenB m n a 24) hs hL hc _ 0 rfl (Nat.zero_le _)
  rw [List.drop_zero] at h8 i1 i2
  unfold treeR
  cases hf : first (seenB m n a 24) L 0 with
  | some x =>
    rw [hf] at h8
    exact callE_of Tryd.tabOk Tryd.I3_ok (ups := []) (Tryd.treeA_0 m n a wr el ow _ L Z (Z.getD x.1 0) x.2) ⟨LoopE.here h8 rfl (by kernel_rfl), h4, hge, trivial⟩ (by kernel_rfl) (by kernel_rfl)
  | none =>
    rw [hf] at h8
    cases hany : anyOf (seenB m n a 24) L with
    | true => exact callE_of Tryd.tabOk Tryd.I3_ok (ups := []) (Tryd.treeB_0 m n a wr el ow _ L Z 0 0) ⟨LoopE.here (i1 hany) rfl (by kernel_rfl), LoopE.here h8 rfl (by kernel_rfl), h4, hge, trivial⟩ (by kernel_rfl) (by kernel_rfl)
    | false => exact callE_of Tryd.tabOk Tryd.I3_ok (ups := []) (Tryd.treeC_0 m n a wr el ow _ L Z 0 0) ⟨LoopE.here (i2 hany) rfl (by kernel_rfl), LoopE.here h8 rfl (by kernel_rfl), h4, hge, trivial⟩ (by kernel_rfl) (by kernel_rfl)
omit hs hL hc hz in
theorem Tryd.tree_neg (b : Int) (hb : b < 0) : CallE Tryd.prog 33 [.ptr 130 0, .sl 128 0 n ow, .pl (.int .i64 b)] (treeB m wr el L Z) 136 (tri3 (0, 0, 3)) [] 136 :=
  callE_of Tryd.tabOk Tryd.I3_ok (ups := []) (Tryd.treeD_0 m n b wr el ow L Z) ⟨by rw [ltF_t]; omega, trivial⟩ (by kernel_rfl) (by kernel_rfl)
end
end Go.Proofs
