/- address.seen, and the loops of address.Get. -/
import Derived.Test.YtjmcholbjjgelaaDoorGetsB
import Derived.Test.YtjmcholbjjgelaaDoorGets1
namespace Go.Proofs
open Go.Sx Go.RowKit
set_option linter.unusedVariables false
set_option linter.unusedSimpArgs false
set_option maxRecDepth 100000
/-- the bits from a place on, so many at most, as letters -/
def seenB (m : List UInt8) (n a K : Nat) : List UInt8 := (List.range (min K (8 * n - a))).map fun i => UInt8.ofNat (48 + bitN m (a + i))
theorem seenB_len (m : List UInt8) (n a K : Nat) : (seenB m n a K).length = min K (8 * n - a) := by simp [seenB]
theorem seenB_succ {m : List UInt8} {n a i : Nat} (h : a + i < 8 * n) : seenB m n a i ++ [UInt8.ofNat (48 + bitN m (a + i))] = seenB m n a (i + 1) := by
  unfold seenB
  rw [show min (i + 1) (8 * n - a) = i + 1 by omega, show min i (8 * n - a) = i by omega, List.range_succ, List.map_append]
  rfl
theorem seenB_full {m : List UInt8} {n a i K : Nat} (h : min i (8 * n - a) = min K (8 * n - a)) : seenB m n a i = seenB m n a K := by unfold seenB; rw [h]
noncomputable abbrev seenC26 : Code := bodyOf Tryd.f26 3
theorem seen26_ok : codeOk seenC26 = true := by kernel_rfl
def seenSt (m : List UInt8) (n a : Nat) (ow : Ow) (out : List UInt8) (i : Nat) : List (Nat × SV) := [(0, .sl 128 0 n ow), (1, .pl (.int .i64 (.ofNat a))), (5, .pl (.string (bs out))), (9, .pl (.int .i64 (.ofNat i)))]
theorem Tryd.seen_loop (m : List UInt8) (n a : Nat) (wr : Bool) (el : Nat) (ow : Ow) (hn : n ≤ m.length) (hl : n ≤ 1000000000000) (ha : a ≤ 8 * n) : ∀ (d i : Nat), 15 - i = d → i ≤ 15 → i ≤ 8 * n - a →
    LoopE Tryd.prog (.loop seenC26) 30 (some none) (seenSt m n a ow (seenB m n a i) i) [(128, .cells (bytesS m) wr el)] 130 (.exit 0) [(5, .pl (.string (bs (seenB m n a 15))))] [] 130 := by
  intro d
  induction d with
  | zero =>
    intro i h1 h2 h3
    obtain rfl : i = 15 := by omega
    exact LoopE.leave (triE_of Tryd.tabOk (noI_ok _) (Tryd.seenC_0 m n a 15 wr el ow _) ⟨by rw [ltF_f]; omega, trivial⟩ seen26_ok (by kernel_rfl) (by kernel_rfl)) (by simp)
  | succ d ih =>
    intro i h1 h2 h3
    by_cases h : a + i < 8 * n
    · have hb := bitN_lt m (a + i)
      have hr := CallE.here (Tryd.read35 m n (a + i) wr el ow h hn hl) (by kernel_rfl)
      have hlen : (seenB m n a i).length ≤ 15 := by rw [seenB_len]; exact Nat.le_trans (Nat.min_le_left _ _) h2
      have hround := triE_of Tryd.tabOk (noI_ok _) (ups := []) (Tryd.seenA_0 m n a i wr el ow (seenB m n a i)) ⟨by rw [show ((i + 1 : Nat) : Int) = (i : Int) + 1 by omega, wrap64_id]; omega,
        ⟨by show (bs _).size + (bs _).size ≤ 9223372036854775807; simp only [bs_size, List.length_cons, List.length_nil]; omega, bs_append _ _⟩, by rw [show (48 : Int) + (bitN m (a + i) : Int) = ((48 + bitN m (a + i) : Nat) : Int) by omega]; exact encode_low _ (by omega), by rw [wrap_i32]; omega, by rw [wrap64_id]; omega, hr, by rw [show ((a + i : Nat) : Int) = (a : Int) + i by omega, wrap64_id]; omega, by rw [ltF_t]; omega, trivial⟩ seen26_ok (by kernel_rfl) (by kernel_rfl)
      rw [seenB_succ h] at hround
      exact Tri.round hround (ih (i + 1) (by omega) (by omega) (by omega))
    · rw [seenB_full (m := m) (n := n) (a := a) (i := i) (K := 15) (by omega)]
      have hr := CallE.here (Tryd.read35_more m n (a + i) wr el ow h hl (by omega)) (by kernel_rfl)
      exact LoopE.leave (triE_of Tryd.tabOk (noI_ok _) (Tryd.seenB_0 m n a i wr el ow _) ⟨hr, by rw [show ((a + i : Nat) : Int) = (a : Int) + i by omega, wrap64_id]; omega, by rw [ltF_t]; omega, trivial⟩ seen26_ok (by kernel_rfl) (by kernel_rfl)) (by simp)
theorem Tryd.seen (m : List UInt8) (n a : Nat) (wr : Bool) (el : Nat) (ow : Ow) (hn : n ≤ m.length) (hl : n ≤ 1000000000000) (ha : a ≤ 8 * n) : CallE Tryd.prog 26 [.sl 128 0 n ow, .pl (.int .i64 (.ofNat a))] [(128, .cells (bytesS m) wr el)] 130 (.pl (.string (bs (seenB m n a 15)))) [] 130 := by
  have h0 := Tryd.seen_loop m n a wr el ow hn hl ha 15 0 (by omega) (by omega) (by omega)
  have e0 : seenB m n a 0 = [] := by unfold seenB; simp
  rw [e0] at h0
  exact callE_of Tryd.tabOk (noI_ok _) (Tryd.seen_0 m n a wr el ow _) ⟨LoopE.here h0 rfl (by kernel_rfl), trivial⟩ (by kernel_rfl) (by kernel_rfl)

/-! ### the loops of Get -/
/-- two texts are the same as far as both go -/
def agr (c s : List UInt8) : Prop := ∀ j, j < c.length → j < s.length → c.getD j 0 = s.getD j 0
theorem agr_iff (c s : List UInt8) : agr c s ↔ c.take s.length = s.take c.length := by
  unfold agr
  constructor
  · intro h
    apply List.ext_getElem?
    intro j
    rw [List.getElem?_take, List.getElem?_take]
    by_cases h1 : j < c.length
    · by_cases h2 : j < s.length
      · rw [if_pos h2, if_pos h1]
        have := h j h1 h2
        rw [getD_get (d := 0) h1, getD_get (d := 0) h2, this]
      · rw [if_neg h2, if_pos h1, List.getElem?_eq_none (by omega)]
    · by_cases h2 : j < s.length
      · rw [if_pos h2, if_neg h1, List.getElem?_eq_none (by omega)]
      · rw [if_neg h2, if_neg h1]
  · intro h j h1 h2
    have := congrArg (fun l => l[j]?) h
    simp only [List.getElem?_take, if_pos h1, if_pos h2] at this
    rw [getD_get (d := 0) h1, getD_get (d := 0) h2] at this
    simpa using this
instance (c s : List UInt8) : Decidable (agr c s) := decidable_of_iff _ (agr_iff c s).symm
noncomputable abbrev cmpC : Code := bodyOf Tryd.f11 14
theorem cmp_ok : codeOk cmpC = true := by kernel_rfl
def getB (m : List UInt8) (wr : Bool) (el : Nat) (L : List (List UInt8)) : List (Nat × AObj) := [(128, .cells (bytesS m) wr el), (130, .cells (strsS L) true 9)]
def cmpE (L : List (List UInt8)) (c s : List UInt8) (k : Nat) (more : Bool) : List (Nat × SV) :=
  [(7, .pl (.string (bs s))), (9, .pl (.bool more)), (10, .pl (.int .i64 (.ofNat k))), (11, .pl (.string (bs c))), (29, .sl 130 0 L.length (.own 1)), (30, .pl (.int .i64 (.ofNat L.length))), (31, .pl (.int .i64 (.ofNat k)))]
def cmpS (L : List (List UInt8)) (c s : List UInt8) (k : Nat) (more : Bool) (i : Nat) : List (Nat × SV) :=
  [(7, .pl (.string (bs s))), (9, .pl (.bool more)), (10, .pl (.int .i64 (.ofNat k))), (11, .pl (.string (bs c))), (29, .sl 130 0 L.length (.own 1)), (30, .pl (.int .i64 (.ofNat L.length))), (31, .pl (.int .i64 (.ofNat k))), (40, .pl (.int .i64 (.ofNat (min c.length s.length)))), (41, .pl (.int .i64 (.ofNat i)))]
theorem Tryd.cmp_loop (m : List UInt8) (wr : Bool) (el : Nat) (L : List (List UInt8)) (c s : List UInt8) (k : Nat) (more : Bool) (hc : c.length ≤ 1000000000000) : ∀ (d i : Nat), min c.length s.length - i = d → i ≤ min c.length s.length →
    ((∀ j, i ≤ j → j < c.length → j < s.length → c.getD j 0 = s.getD j 0) → LoopE Tryd.prog (.loop cmpC) 62 (some none) (cmpS L c s k more i) (getB m wr el L) 132 (.exit 2) (cmpE L c s k more) [] 132) ∧
    ((¬ ∀ j, i ≤ j → j < c.length → j < s.length → c.getD j 0 = s.getD j 0) → LoopE Tryd.prog (.loop cmpC) 62 (some none) (cmpS L c s k more i) (getB m wr el L) 132 (.exit 1) (cmpE L c s k more) [] 132) := by
  intro d
  induction d with
  | zero =>
    intro i h1 h2
    have hi : i = min c.length s.length := by omega
    subst hi
    refine ⟨fun _ => ?_, fun hn => (hn fun j hj h3 h4 => by omega).elim⟩
    exact LoopE.leave (triE_of Tryd.tabOk (noI_ok _) (Tryd.cmpC_0 m wr el c s _ L k more) ⟨by rw [ltF_f]; omega, trivial⟩ cmp_ok (by kernel_rfl) (by kernel_rfl)) (by simp)
  | succ d ih =>
    intro i h1 h2
    have h3 : i < c.length := by omega
    have h4 : i < s.length := by omega
    by_cases he : c.getD i 0 = s.getD i 0
    · have hround := triE_of Tryd.tabOk (noI_ok _) (ups := []) (Tryd.cmpA_1 m wr el c s i L k more) ⟨by rw [show ((i + 1 : Nat) : Int) = (i : Int) + 1 by omega, wrap64_id]; omega, by rw [neF_f, he], strAt_bs (by omega) (by omega), strAt_bs (by omega) (by omega), by rw [ltF_t]; omega, trivial⟩ cmp_ok (by kernel_rfl) (by kernel_rfl)
      obtain ⟨i1, i2⟩ := ih (i + 1) (by omega) (by omega)
      have hiff : (∀ j, i ≤ j → j < c.length → j < s.length → c.getD j 0 = s.getD j 0) ↔ ∀ j, i + 1 ≤ j → j < c.length → j < s.length → c.getD j 0 = s.getD j 0 := by
        constructor
        · intro h j hj; exact h j (by omega)
        · intro h j hj h5 h6
          rcases Nat.lt_or_ge i j with h7 | h7
          · exact h j h7 h5 h6
          · obtain rfl : j = i := by omega
            exact he
      exact ⟨fun h => Tri.round hround (i1 (hiff.1 h)), fun h => Tri.round hround (i2 fun h' => h (hiff.2 h'))⟩
    · refine ⟨fun h => (he (h i (by omega) h3 h4)).elim, fun _ => ?_⟩
      exact LoopE.leave (Tri.less (triE_of Tryd.tabOk (noI_ok _) (ups := []) (Tryd.cmpA_0 m wr el c s i L k more) ⟨by rw [neF_t]; intro h; exact he (UInt8.toNat_inj.1 (by omega)), strAt_bs (by omega) (by omega), strAt_bs (by omega) (by omega), by rw [ltF_t]; omega, trivial⟩ cmp_ok (by kernel_rfl) (by kernel_rfl)) (by kernel_rfl)) (by simp)
end Go.Proofs
