/- praxinoscopekit.Bits and the loop of praxinoscopelaw04.bytes: what they answer. -/
import Derived.Test.YtjmcholbjjgelaaDoorBackA
import Derived.Test.YtjmcholbjjgelaaDoorSxGrow
import Derived.Test.YtjmcholbjjgelaaDoorGets8
import Derived.Test.YtjmcholbjjgelaaDoorBackB
namespace Go.Proofs
open Go.Sx Go.RowKit
set_option linter.unusedVariables false
set_option linter.unusedSimpArgs false
set_option maxRecDepth 100000
/-- a number's lowest bit -/
def par (x : Int) : Nat := if x.tmod 2 = 0 then 0 else 1
theorem or_bit (x : UInt8) (r q : Nat) (hr : r < 8) (hq : q < 8) : (x ||| UInt8.ofNat (128 / 2 ^ r)).toNat / 2 ^ (7 - q) % 2 = if q = r then 1 else x.toNat / 2 ^ (7 - q) % 2 := by
  have e : ∀ a i : Nat, a / 2 ^ i % 2 = (Nat.testBit a i).toNat := fun a i => (Nat.toNat_testBit a i).symm
  have hp : 128 / 2 ^ r = 2 ^ (7 - r) := by
    rw [show (128 : Nat) = 2 ^ 7 from rfl]
    exact Nat.pow_div (by omega) (by omega)
  have hlt : 2 ^ (7 - r) < 256 := by
    rw [show (256 : Nat) = 2 ^ 8 from rfl]
    exact Nat.pow_lt_pow_right (by omega) (by omega)
  rw [e, e, UInt8.toNat_or, UInt8.toNat_ofNat', hp, Nat.mod_eq_of_lt hlt, Nat.testBit_or, Nat.testBit_two_pow]
  by_cases h : q = r
  · subst h; simp
  · rw [if_neg h, show (decide (7 - r = 7 - q)) = false from decide_eq_false (by omega), Bool.or_false]
theorem bitN_set (o : List UInt8) (i k : Nat) (hi : i / 8 < o.length) : bitN (o.set (i / 8) (o.getD (i / 8) 0 ||| UInt8.ofNat (128 / 2 ^ (i % 8)))) k = if k = i then 1 else bitN o k := by
  unfold bitN
  by_cases h : k / 8 = i / 8
  · have e1 : (o.set (i / 8) (o.getD (i / 8) 0 ||| UInt8.ofNat (128 / 2 ^ (i % 8)))).getD (k / 8) 0 = o.getD (i / 8) 0 ||| UInt8.ofNat (128 / 2 ^ (i % 8)) := by
      rw [h, List.getD_eq_getElem?_getD, List.getElem?_set_self hi]; rfl
    rw [e1, or_bit _ _ _ (Nat.mod_lt _ (by omega)) (Nat.mod_lt _ (by omega)), h]
    by_cases hk : k = i
    · rw [if_pos hk, if_pos (by rw [hk])]
    · rw [if_neg hk, if_neg (by omega)]
  · have e1 : (o.set (i / 8) (o.getD (i / 8) 0 ||| UInt8.ofNat (128 / 2 ^ (i % 8)))).getD (k / 8) 0 = o.getD (k / 8) 0 := by
      rw [List.getD_eq_getElem?_getD, List.getElem?_set_ne (fun e => h e.symm), List.getD_eq_getElem?_getD]
    rw [e1, if_neg (fun e => h (by rw [e]))]
theorem set_bytes (o : List UInt8) (j : Nat) (v : UInt8) (hj : j < o.length) : setCells (bytesS o) [SV.pl (Value.int IntKind.u8 (v.toNat : Int))] j = bytesS (o.set j v) := by
  unfold setCells bytesS
  rw [List.set_eq_take_append_cons_drop, if_pos hj]
  simp [List.map_take, List.map_drop]
theorem or_u8 (a b : UInt8) : IntKind.wrap .u8 ((BitVec.ofInt IntKind.u8.bits (a.toNat : Int) ||| BitVec.ofInt IntKind.u8.bits (b.toNat : Int)).toNat : Int) = ((a ||| b).toNat : Int) := by
  have h : ∀ a : UInt8, (BitVec.ofInt IntKind.u8.bits (a.toNat : Int)).toNat = a.toNat := fun a => by
    rw [BitVec.toNat_ofInt]
    show ((a.toNat : Int) % ((2 ^ 8 : Nat) : Int)).toNat = a.toNat
    have := u8_lt a
    omega
  rw [BitVec.toNat_or, h, h, ← UInt8.toNat_or, wrap_u8]
  have := u8_lt (a ||| b)
  omega
noncomputable abbrev bits3 : Code := bodyOf Tryd.f34 3
theorem bits3_ok : codeOk bits3 = true := by kernel_rfl
theorem Tryd.agg3h : isAgg? Tryd.tab 3 = some false := by kernel_rfl
theorem Tryd.sz3h : sizeOf? Tryd.tab 3 = some 1 := by kernel_rfl
def bitsB (l : List Int) (wr : Bool) (el : Nat) (o : List UInt8) : List (Nat × AObj) := [(128, .cells (intsS l) wr el), (130, .cells (bytesS o) true 5)]
def bitsSt (l : List Int) (ow : Ow) (n i : Nat) : List (Nat × SV) := [(0, .sl 128 0 l.length ow), (3, .sl 130 0 n (.own 1)), (4, .pl (.int .i64 (.ofNat i)))]
theorem Tryd.bits_loop (l : List Int) (wr : Bool) (el : Nat) (ow : Ow) (n : Nat) (hl : l.length ≤ 1000000) (hn : l.length ≤ 8 * n) : ∀ (d i : Nat) (o : List UInt8), l.length - i = d → i ≤ l.length → o.length = n → (∀ k, bitN o k = if k < i then par (l.getD k 0) else 0) →
    ∃ o', o'.length = n ∧ (∀ k, bitN o' k = if k < l.length then par (l.getD k 0) else 0) ∧
      LoopE Tryd.prog (.loop bits3) 37 (some none) (bitsSt l ow n i) (bitsB l wr el o) 132 (.exit 0) [(3, .sl 130 0 n (.own 1))] [(130, some (.cells (bytesS o') true 5))] 132 := by
  intro d
  induction d with
  | zero =>
    intro i o h1 h2 h3 h4
    obtain rfl : i = l.length := by omega
    refine ⟨o, h3, h4, ?_⟩
    exact LoopE.leave (triE_of Tryd.tabOk Tryd.I3_ok (ups := [(130, some (.cells (bytesS o) true 5))]) (Tryd.bitsC_0 l o n _ wr el ow) ⟨by rw [ltF_f]; omega, trivial⟩ bits3_ok (by kernel_rfl) (by kernel_rfl)) (by simp)
  | succ d ih =>
    intro i o h1 h2 h3 h4
    have hi : i < l.length := by omega
    have hw : wrap64F ((i : Int) + 1) = ((i + 1 : Nat) : Int) := by rw [show ((i + 1 : Nat) : Int) = (i : Int) + 1 by omega, wrap64_id]; omega
    have hpt : partS Tryd.tab 3 (intsS l) i = some (.pl (.int .i64 (l.getD i 0))) := part_ints Tryd.agg3h hi
    have hel : elemAt Tryd.tab 3 128 0 l.length (some (i : Int)) = some (.ptr 128 i) := elem_g Tryd.sz3h (by omega) (by omega) (by omega)
    have hlt : ltF (i : Int) (l.length : Int) = true := by rw [ltF_t]; omega
    have hstep : ∀ k, (if k < i + 1 then par (l.getD k 0) else 0) = if k = i then par (l.getD i 0) else (if k < i then par (l.getD k 0) else 0) := fun k => by
      by_cases hk : k = i
      · subst hk; rw [if_pos (by omega), if_pos rfl]
      · rw [if_neg hk]
        by_cases hk2 : k < i
        · rw [if_pos hk2, if_pos (by omega)]
        · rw [if_neg hk2, if_neg (by omega)]
    by_cases hp : (l.getD i 0).tmod 2 = 0
    · obtain ⟨o', k1, k2, k3⟩ := ih (i + 1) o (by omega) (by omega) h3 (fun k => by
        rw [h4 k, hstep k]
        by_cases hk : k = i
        · subst hk; rw [if_neg (by omega), if_pos rfl]; unfold par; rw [if_pos hp]
        · rw [if_neg hk])
      refine ⟨o', k1, k2, ?_⟩
      exact Tri.round (triE_of Tryd.tabOk Tryd.I3_ok (ups := []) (Tryd.bitsA_1 l o n i wr el ow) ⟨hw, by rw [neF_f]; exact hp, hpt, hel, hlt, trivial⟩ bits3_ok (by kernel_rfl) (by kernel_rfl)) k3
    · have hio : i / 8 < o.length := by omega
      have hel5 : elemAt Tryd.tab 5 130 0 n (some ((i / 8 : Nat) : Int)) = some (.ptr 130 (i / 8)) := elem_g Tryd.sz5 (by omega) (by omega) (by omega)
      have hdiv : IntKind.wrap .i64 ((i : Int).tdiv 8) = ((i / 8 : Nat) : Int) := by rw [show (8 : Int) = ((8 : Nat) : Int) from rfl, ← Int.ofNat_tdiv]; exact wrap_small _ (by omega)
      have h128 : (128 / 2 ^ (i % 8) : Nat) < 256 := Nat.lt_of_le_of_lt (Nat.div_le_self _ _) (by omega)
      obtain ⟨o', k1, k2, k3⟩ := ih (i + 1) (o.set (i / 8) (o.getD (i / 8) 0 ||| UInt8.ofNat (128 / 2 ^ (i % 8)))) (by omega) (by omega) (by rw [List.length_set]; exact h3) (fun k => by
        rw [bitN_set o i k hio, hstep k, h4 k]
        by_cases hk : k = i
        · subst hk; rw [if_pos rfl, if_pos rfl]; unfold par; rw [if_neg hp]
        · rw [if_neg hk, if_neg hk])
      refine ⟨o', k1, k2, ?_⟩
      refine Tri.same (Tri.round (Tri.same (s2 := stE (bitsSt l ow n (i + 1)) 37 (some none) (meL (bitsB l wr el (o.set (i / 8) (o.getD (i / 8) 0 ||| UInt8.ofNat (128 / 2 ^ (i % 8))))) 132)) (triE_of Tryd.tabOk Tryd.I3_ok (ups := [(130, some (.cells (bytesS (o.set (i / 8) (o.getD (i / 8) 0 ||| UInt8.ofNat (128 / 2 ^ (i % 8))))) true 5))]) (Tryd.bitsA_0 l o n i wr el ow)
        ⟨hw, set_bytes _ _ _ hio, ?_, hel5, ?_, ⟨by rw [ltF_f]; omega, ?_⟩, by rw [wrap_u64]; omega, by rw [show (8 : Int) = ((8 : Nat) : Int) from rfl, ← Int.ofNat_tmod], part_bytes Tryd.agg5 hio, hel5, hdiv, hdiv, by rw [neF_t]; exact hp, hpt, hel, hlt, trivial⟩ bits3_ok (by kernel_rfl) (by kernel_rfl)) (by kernel_rfl) (by kernel_rfl) (by kernel_rfl)) k3) (by kernel_rfl) (by kernel_rfl) (by kernel_rfl)
      · rw [Nat.ble_eq]; simp [bytesS]; omega
      · have := or_u8 (o.getD (i / 8) 0) (UInt8.ofNat (128 / 2 ^ (i % 8)))
        rw [UInt8.toNat_ofNat', Nat.mod_eq_of_lt h128] at this
        exact this
      · exact shr_nat .u8 128 (i % 8) (by show i % 8 ≤ 8; omega)
theorem rep_bytes : ∀ n, rep [SV.pl (Value.int IntKind.u8 0)] n = bytesS (List.replicate n 0)
  | 0 => rfl
  | n + 1 => by rw [rep, rep_bytes n, List.replicate_succ]; rfl
theorem bitN_zero (n k : Nat) : bitN (List.replicate n 0) k = 0 := by
  unfold bitN
  have : (List.replicate n (0 : UInt8)).getD (k / 8) 0 = 0 := by
    rw [List.getD_eq_getElem?_getD, List.getElem?_replicate]
    split <;> rfl
  rw [this]
  simp
theorem Tryd.bits34 (l : List Int) (wr : Bool) (el : Nat) (ow : Ow) (hl : l.length ≤ 1000000) : ∃ o, o.length = (l.length + 7) / 8 ∧ (∀ k, bitN o k = if k < l.length then par (l.getD k 0) else 0) ∧
    CallE Tryd.prog 34 [.sl 128 0 l.length ow] [(128, .cells (intsS l) wr el)] 130 (.sl 130 0 ((l.length + 7) / 8) (.own 1)) [(130, some (.cells (bytesS o) true 5))] 132 := by
  obtain ⟨o, h1, h2, h3⟩ := Tryd.bits_loop l wr el ow ((l.length + 7) / 8) hl (by omega) _ 0 (List.replicate ((l.length + 7) / 8) 0) rfl (Nat.zero_le _) (by simp) (fun k => by rw [bitN_zero, if_neg (by omega)])
  refine ⟨o, h1, h2, ?_⟩
  refine callE_of Tryd.tabOk Tryd.I3_ok (Tryd.bits34_0 l o wr el ow) ⟨LoopE.here h3 rfl (by kernel_rfl), rep_bytes _, ?_, ⟨rfl, rfl⟩, ?_, ?_, trivial⟩ (by kernel_rfl) (by kernel_rfl)
  · rw [Bool.and_eq_true, Nat.ble_eq, Nat.blt_eq]; omega
  · rw [show (8 : Int) = ((8 : Nat) : Int) from rfl, ← Int.ofNat_tdiv]; exact wrap_small _ (by omega)
  · rw [show ((l.length + 7 : Nat) : Int) = (l.length : Int) + 7 by omega, wrap64_id]; omega
end Go.Proofs

namespace Go.Proofs
open Go.Sx Go.RowKit
set_option linter.unusedVariables false
set_option linter.unusedSimpArgs false
set_option maxRecDepth 100000
/-- the numbers of a text of 0 and 1 -/
def digs (s : List UInt8) : List Int := s.map fun x => ((x.toNat - 48 : Nat) : Int)
def isBits (s : List UInt8) : Prop := ∀ j, j < s.length → (s.getD j 0).toNat = 48 ∨ (s.getD j 0).toNat = 49
theorem digs_succ {s : List UInt8} {i : Nat} (h : i < s.length) : digs (s.take i) ++ [(((s.getD i 0).toNat - 48 : Nat) : Int)] = digs (s.take (i + 1)) := by
  unfold digs
  rw [List.take_add_one, List.map_append, List.getElem?_eq_getElem h, List.getD_eq_getElem?_getD, List.getElem?_eq_getElem h]
  rfl
theorem digs_len (s : List UInt8) (i : Nat) (h : i ≤ s.length) : (digs (s.take i)).length = i := by
  unfold digs
  rw [List.length_map, List.length_take]
  omega
noncomputable abbrev by3 : Code := bodyOf Tryd.f24 3
theorem by3_ok : codeOk by3 = true := by kernel_rfl
section
variable (s : List UInt8) (hs : isBits s) (hl : s.length ≤ 1000000)
include hs hl
/-- what a round owes -/
theorem by_owed (i : Nat) (hi : i < s.length) : wrap64F ((i : Int) + 1) = ((i + 1 : Nat) : Int) ∧ IntKind.wrap .i64 ((((s.getD i 0).toNat - 48 : Nat) : Nat) : Int) = (((s.getD i 0).toNat - 48 : Nat) : Int) ∧
    IntKind.wrap .u8 (btAt (bs s) i - 48) = (((s.getD i 0).toNat - 48 : Nat) : Int) ∧ strAt (bs s) (i : Int) = some (.pl (.int .u8 (btAt (bs s) i))) ∧ ltF (i : Int) (s.length : Int) = true := by
  have hb := hs i hi
  have hu := u8_lt (s.getD i 0)
  refine ⟨?_, wrap_small _ (by omega), ?_, by rw [btAt_bs]; exact strAt_bs (by omega) (by omega), by rw [ltF_t]; omega⟩
  · rw [show ((i + 1 : Nat) : Int) = (i : Int) + 1 by omega, wrap64_id]; omega
  · rw [btAt_bs, show ((s.getD i 0).toNat : Int) - 48 = (((s.getD i 0).toNat - 48 : Nat) : Int) by omega, wrap_u8]; omega
section
variable (Z : List Int) (wr : Bool) (el : Nat) (ow : Ow)
def byS (s : List UInt8) (Z : List Int) (ow : Ow) (i : Nat) : List (Nat × SV) := [(0, .pl (.string (bs s))), (1, .sl 128 0 Z.length ow), (5, .sl 130 0 i (.own 1)), (6, .pl (.int .i64 (.ofNat i)))]
theorem Tryd.by_loop : ∀ (d i : Nat) (xs : List Int), s.length - i = d → 1 ≤ i → i ≤ s.length → xs = digs (s.take i) →
    LoopE Tryd.prog (.loop by3) 25 (some none) (byS s Z ow i) [(128, .cells (intsS Z) wr el), (130, .cells (intsS xs) true 3)] 132 (.exit 0) [(1, .sl 128 0 Z.length ow), (5, .sl 132 0 s.length (.own 1))] [(130, none), (132, some (.cells (intsS (digs s)) true 3))] 134 := by
  intro d
  induction d with
  | zero =>
    intro i xs h1 h2 h3 h4
    obtain rfl : i = s.length := by omega
    rw [List.take_length] at h4
    have hxl : xs.length = s.length := by rw [h4]; simp [digs]
    subst h4
    have hrun := Tryd.byC_0 s Z (digs s) s.length wr el ow
    rw [hxl] at hrun
    exact LoopE.leaveN [130] [128, 130, 132] (triE_of Tryd.tabOk Tryd.I3_ok (ups := []) hrun ⟨by rw [ltF_f]; omega, trivial⟩ by3_ok (by kernel_rfl) (by kernel_rfl)) (by simp) rfl (by kernel_rfl)
      (l := [(128, .cells (intsS Z) wr el), (132, .cells (intsS (digs s)) true 3)]) (by kernel_rfl) (by kernel_rfl) (by kernel_rfl) (r := [some (.cells (intsS Z) wr el), some (.cells (intsS (digs s)) true 3)]) (by simp only [List.map, AObj.ren, renL_ints]) (by kernel_rfl) (by kernel_rfl) rfl
  | succ d ih =>
    intro i xs h1 h2 h3 h4
    have hi : i < s.length := by omega
    obtain ⟨o1, o2, o3, o4, o5⟩ := by_owed s hs hl i hi
    have hxl : xs.length = i := by rw [h4]; exact digs_len s i h3
    have hk := ih (i + 1) (xs ++ [(((s.getD i 0).toNat - 48 : Nat) : Int)]) (by omega) (by omega) (by omega) (by rw [h4]; exact digs_succ hi)
    have hrun := Tryd.byN_0 s Z xs i wr el ow
    rw [hxl] at hrun
    refine LoopE.grow [128, 134] [136] [128, 130, 132] (triE_of Tryd.tabOk Tryd.I3_ok (ups := [(130, none), (134, some (.cells (intsS (xs ++ [(((s.getD i 0).toNat - 48 : Nat) : Int)])) true 3))]) hrun
      ⟨o1, by simp [intsS], ?_, ⟨by rw [← hxl]; exact cut_all (by simp [intsS]), rfl⟩, o2, o3, o4, o5, trivial⟩ by3_ok (by kernel_rfl) (by kernel_rfl)) hk rfl (by kernel_rfl) (by kernel_rfl)
      (rb := [some (.cells (intsS Z) wr el), some (.cells (intsS (xs ++ [(((s.getD i 0).toNat - 48 : Nat) : Int)])) true 3)]) (by simp only [List.map, AObj.ren, renL_ints]) (by kernel_rfl)
      (upsR := [(134, none), (136, some (.cells (intsS (digs s)) true 3))]) (by simp only [List.map, renU, Option.map_some, Option.map_none, AObj.ren, renL_ints]; rfl)
      rfl (by kernel_rfl) rfl (l := [(128, .cells (intsS Z) wr el), (132, .cells (intsS (digs s)) true 3)]) (by kernel_rfl) (by kernel_rfl) (by kernel_rfl) (r := [some (.cells (intsS Z) wr el), some (.cells (intsS (digs s)) true 3)]) (by simp only [List.map, AObj.ren, renL_ints]) (by kernel_rfl) (by kernel_rfl) rfl
    rw [Bool.and_eq_true, Nat.ble_eq, Nat.ble_eq]; omega
theorem Tryd.by_start (h1 : 1 ≤ s.length) : LoopE Tryd.prog (.loop by3) 25 (some none) [(0, .pl (.string (bs s))), (1, .sl 128 0 Z.length ow), (5, .pl (.slice none 0 0)), (6, .pl (.int .i64 0))] [(128, .cells (intsS Z) wr el)] 130 (.exit 0)
    [(1, .sl 128 0 Z.length ow), (5, .sl 130 0 s.length (.own 1))] [(130, some (.cells (intsS (digs s)) true 3))] 132 := by
  obtain ⟨o1, o2, o3, o4, o5⟩ := by_owed s hs hl 0 (by omega)
  have hk := Tryd.by_loop s hs hl Z wr el ow _ 1 [(((s.getD 0 0).toNat - 48 : Nat) : Int)] rfl (by omega) h1 (by rw [← digs_succ (i := 0) (by omega)]; simp [digs])
  exact LoopE.grow [128, 132] [134] [128, 130] (triE_of Tryd.tabOk Tryd.I3_ok (ups := [(132, some (.cells (intsS [(((s.getD 0 0).toNat - 48 : Nat) : Int)]) true 3))]) (Tryd.byF_0 s Z [] 0 wr el ow)
      ⟨o1, by simp [intsS], o2, o3, o4, o5, trivial⟩ by3_ok (by kernel_rfl) (by kernel_rfl)) hk rfl (by kernel_rfl) (by kernel_rfl)
      (rb := [some (.cells (intsS Z) wr el), some (.cells (intsS [(((s.getD 0 0).toNat - 48 : Nat) : Int)]) true 3)]) (by simp only [List.map, AObj.ren, renL_ints]) (by kernel_rfl)
      (upsR := [(132, none), (134, some (.cells (intsS (digs s)) true 3))]) (by simp only [List.map, renU, Option.map_some, Option.map_none, AObj.ren, renL_ints]; rfl)
      rfl (by kernel_rfl) rfl (l := [(128, .cells (intsS Z) wr el), (130, .cells (intsS (digs s)) true 3)]) (by kernel_rfl) (by kernel_rfl) (by kernel_rfl) (r := [some (.cells (intsS Z) wr el), some (.cells (intsS (digs s)) true 3)]) (by simp only [List.map, AObj.ren, renL_ints]) (by kernel_rfl) (by kernel_rfl) rfl
end
/-! ### with nothing behind -/
def byS0 (s : List UInt8) (i : Nat) : List (Nat × SV) := [(0, .pl (.string (bs s))), (1, .pl (.slice none 0 0)), (5, .sl 128 0 i (.own 1)), (6, .pl (.int .i64 (.ofNat i)))]
theorem Tryd.by_loop0 : ∀ (d i : Nat) (xs : List Int), s.length - i = d → 1 ≤ i → i ≤ s.length → xs = digs (s.take i) →
    LoopE Tryd.prog (.loop by3) 25 (some none) (byS0 s i) [(128, .cells (intsS xs) true 3)] 130 (.exit 0) [(1, .pl (.slice none 0 0)), (5, .sl 130 0 s.length (.own 1))] [(128, none), (130, some (.cells (intsS (digs s)) true 3))] 132 := by
  intro d
  induction d with
  | zero =>
    intro i xs h1 h2 h3 h4
    obtain rfl : i = s.length := by omega
    rw [List.take_length] at h4
    have hxl : xs.length = s.length := by rw [h4]; simp [digs]
    subst h4
    have hrun := Tryd.byC0_0 s [] (digs s) s.length false 0 .no
    rw [hxl] at hrun
    exact LoopE.leaveN [128] [128, 130] (triE_of Tryd.tabOk Tryd.I3_ok (ups := []) hrun ⟨by rw [ltF_f]; omega, trivial⟩ by3_ok (by kernel_rfl) (by kernel_rfl)) (by simp) rfl (by kernel_rfl)
      (l := [(130, .cells (intsS (digs s)) true 3)]) (by kernel_rfl) (by kernel_rfl) (by kernel_rfl) (r := [some (.cells (intsS (digs s)) true 3)]) (by simp only [List.map, AObj.ren, renL_ints]) (by kernel_rfl) (by kernel_rfl) rfl
  | succ d ih =>
    intro i xs h1 h2 h3 h4
    have hi : i < s.length := by omega
    obtain ⟨o1, o2, o3, o4, o5⟩ := by_owed s hs hl i hi
    have hxl : xs.length = i := by rw [h4]; exact digs_len s i h3
    have hk := ih (i + 1) (xs ++ [(((s.getD i 0).toNat - 48 : Nat) : Int)]) (by omega) (by omega) (by omega) (by rw [h4]; exact digs_succ hi)
    have hrun := Tryd.byN0_0 s [] xs i false 0 .no
    rw [hxl] at hrun
    refine LoopE.grow [132] [134] [128, 130] (triE_of Tryd.tabOk Tryd.I3_ok (ups := [(128, none), (132, some (.cells (intsS (xs ++ [(((s.getD i 0).toNat - 48 : Nat) : Int)])) true 3))]) hrun
      ⟨o1, by simp [intsS], ?_, ⟨by rw [← hxl]; exact cut_all (by simp [intsS]), rfl⟩, o2, o3, o4, o5, trivial⟩ by3_ok (by kernel_rfl) (by kernel_rfl)) hk rfl (by kernel_rfl) (by kernel_rfl)
      (rb := [some (.cells (intsS (xs ++ [(((s.getD i 0).toNat - 48 : Nat) : Int)])) true 3)]) (by simp only [List.map, AObj.ren, renL_ints]) (by kernel_rfl)
      (upsR := [(132, none), (134, some (.cells (intsS (digs s)) true 3))]) (by simp only [List.map, renU, Option.map_some, Option.map_none, AObj.ren, renL_ints]; rfl)
      rfl (by kernel_rfl) rfl (l := [(130, .cells (intsS (digs s)) true 3)]) (by kernel_rfl) (by kernel_rfl) (by kernel_rfl) (r := [some (.cells (intsS (digs s)) true 3)]) (by simp only [List.map, AObj.ren, renL_ints]) (by kernel_rfl) (by kernel_rfl) rfl
    rw [Bool.and_eq_true, Nat.ble_eq, Nat.ble_eq]; omega
theorem Tryd.by_start0 (h1 : 1 ≤ s.length) : LoopE Tryd.prog (.loop by3) 25 (some none) [(0, .pl (.string (bs s))), (1, .pl (.slice none 0 0)), (5, .pl (.slice none 0 0)), (6, .pl (.int .i64 0))] [] 128 (.exit 0)
    [(1, .pl (.slice none 0 0)), (5, .sl 128 0 s.length (.own 1))] [(128, some (.cells (intsS (digs s)) true 3))] 130 := by
  obtain ⟨o1, o2, o3, o4, o5⟩ := by_owed s hs hl 0 (by omega)
  have hk := Tryd.by_loop0 s hs hl _ 1 [(((s.getD 0 0).toNat - 48 : Nat) : Int)] rfl (by omega) h1 (by rw [← digs_succ (i := 0) (by omega)]; simp [digs])
  exact LoopE.grow [130] [132] [128] (triE_of Tryd.tabOk Tryd.I3_ok (ups := [(130, some (.cells (intsS [(((s.getD 0 0).toNat - 48 : Nat) : Int)]) true 3))]) (Tryd.byF0_0 s [] [] 0 false 0 .no)
      ⟨o1, by simp [intsS], o2, o3, o4, o5, trivial⟩ by3_ok (by kernel_rfl) (by kernel_rfl)) hk rfl (by kernel_rfl) (by kernel_rfl)
      (rb := [some (.cells (intsS [(((s.getD 0 0).toNat - 48 : Nat) : Int)]) true 3)]) (by simp only [List.map, AObj.ren, renL_ints]) (by kernel_rfl)
      (upsR := [(130, none), (132, some (.cells (intsS (digs s)) true 3))]) (by simp only [List.map, renU, Option.map_some, Option.map_none, AObj.ren, renL_ints]; rfl)
      rfl (by kernel_rfl) rfl (l := [(128, .cells (intsS (digs s)) true 3)]) (by kernel_rfl) (by kernel_rfl) (by kernel_rfl) (r := [some (.cells (intsS (digs s)) true 3)]) (by simp only [List.map, AObj.ren, renL_ints]) (by kernel_rfl) (by kernel_rfl) rfl
end
end Go.Proofs
