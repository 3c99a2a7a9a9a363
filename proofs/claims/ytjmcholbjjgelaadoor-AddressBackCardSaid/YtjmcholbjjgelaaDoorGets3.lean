/- address.Get: what it answers, by the letters of the bits that it sees. -/
import Derived.Test.YtjmcholbjjgelaaDoorGetsD
import Derived.Test.YtjmcholbjjgelaaDoorGets2
namespace Go.Proofs
open Go.Sx Go.RowKit
set_option linter.unusedVariables false
set_option linter.unusedSimpArgs false
set_option maxRecDepth 100000
noncomputable abbrev codeC11 : Code := bodyOf Tryd.f11 11
theorem code11_ok : codeOk codeC11 = true := by kernel_rfl
/-- the first code that is as what is seen as far as both go, and no longer; else whether there was a longer one -/
def scan (s : List UInt8) : List (List UInt8) → Nat → Bool → Sum (Nat × Nat) Bool
  | [], _, more => .inr more
  | c :: r, k, more => if agr c s then (if c.length ≤ s.length then .inl (k, c.length) else scan s r (k + 1) true) else scan s r (k + 1) more
def codeS (L : List (List UInt8)) (s : List UInt8) (k : Nat) (more : Bool) : List (Nat × SV) := [(7, .pl (.string (bs s))), (9, .pl (.bool more)), (29, .sl 130 0 L.length (.own 1)), (30, .pl (.int .i64 (.ofNat L.length))), (31, .pl (.int .i64 (.ofNat k)))]
def Scanned (m : List UInt8) (wr : Bool) (el : Nat) (L : List (List UInt8)) (s : List UInt8) (k : Nat) (more : Bool) : Sum (Nat × Nat) Bool → Prop
  | .inl x => LoopE Tryd.prog (.loop codeC11) 62 (some none) (codeS L s k more) (getB m wr el L) 132 .ret [(4, .pl (.int .i64 (.ofNat x.1))), (5, .pl (.int .i64 (.ofNat x.2))), (6, .pl (.int .i64 0))] [] 132
  | .inr mo => LoopE Tryd.prog (.loop codeC11) 62 (some none) (codeS L s k more) (getB m wr el L) 132 (.exit 0) [(9, .pl (.bool mo))] [] 132
theorem Scanned.round {m : List UInt8} {wr : Bool} {el : Nat} {L : List (List UInt8)} {s : List UInt8} {k k' : Nat} {more more' : Bool} {x : Sum (Nat × Nat) Bool}
    (h : Tri Tryd.prog codeC11 (stE (codeS L s k more) 62 (some none) (meL (getB m wr el L) 132)) .normal (stE (codeS L s k' more') 62 (some none) (meL (getB m wr el L) 132))) (h2 : Scanned m wr el L s k' more' x) : Scanned m wr el L s k more x := by
  cases x with
  | inl x => exact Tri.round h h2
  | inr mo => exact Tri.round h h2
theorem Tryd.code_loop (m : List UInt8) (wr : Bool) (el : Nat) (L : List (List UInt8)) (s : List UInt8) (hL : L.length ≤ 1000) (hc : ∀ c ∈ L, c.length ≤ 1000) : ∀ (d k : Nat) (more : Bool), L.length - k = d → k ≤ L.length → Scanned m wr el L s k more (scan s (L.drop k) k more) := by
  intro d
  induction d with
  | zero =>
    intro k more h1 h2
    obtain rfl : k = L.length := by omega
    rw [List.drop_length]
    exact LoopE.leave (triE_of Tryd.tabOk (noI_ok _) (Tryd.codeC_0 m wr el s L _ more) ⟨by rw [ltF_f]; omega, trivial⟩ code11_ok (by kernel_rfl) (by kernel_rfl)) (by simp)
  | succ d ih =>
    intro k more h1 h2
    have hk : k < L.length := by omega
    have hd : L.drop k = L.getD k [] :: L.drop (k + 1) := by
      rw [List.drop_eq_getElem_cons hk, List.getD_eq_getElem?_getD, List.getElem?_eq_getElem hk]
      rfl
    have hmem : L.getD k [] ∈ L := by
      rw [List.getD_eq_getElem?_getD, List.getElem?_eq_getElem hk]
      exact List.getElem_mem hk
    have hcl := hc _ hmem
    have hlt : ltF (k : Int) (L.length : Int) = true := by rw [ltF_t]; omega
    have hel : elemAt Tryd.tab 9 130 0 L.length (some (k : Int)) = some (.ptr 130 k) := elem_g Tryd.sz9 (by omega) (by omega) (by omega)
    have hpt : partS Tryd.tab 9 (strsS L) k = some (.pl (.string (bs (L.getD k [])))) := part_strs Tryd.agg9 hk
    have hmin : (if ((bs s).size : Int) < ((bs (L.getD k [])).size : Int) then (s.length : Int) else ((L.getD k []).length : Int)) = ((min (L.getD k []).length s.length : Nat) : Int) := ite_min _ _
    have hw : wrap64F ((k : Int) + 1) = ((k + 1 : Nat) : Int) := by rw [show ((k + 1 : Nat) : Int) = (k : Int) + 1 by omega, wrap64_id]; omega
    obtain ⟨c1, c2⟩ := Tryd.cmp_loop m wr el L (L.getD k []) s k more (by omega) _ 0 rfl (by omega)
    rw [hd]
    simp only [scan]
    by_cases ha : agr (L.getD k []) s
    · rw [if_pos ha]
      have hlp := LoopE.here (c1 fun j _ => ha j) rfl (by kernel_rfl)
      by_cases hle : (L.getD k []).length ≤ s.length
      · rw [if_pos hle]
        exact LoopE.leave (triE_of Tryd.tabOk (noI_ok _) (Tryd.codeR_0 m wr el s L k more) ⟨by rw [leF_t]; omega, hlp, hmin, hpt, hel, hlt, trivial⟩ code11_ok (by kernel_rfl) (by kernel_rfl)) (by simp)
      · rw [if_neg hle]
        exact Scanned.round (triE_of Tryd.tabOk (noI_ok _) (ups := []) (Tryd.codeM_1 m wr el s L k more) ⟨hw, by rw [leF_f]; omega, hlp, hmin, hpt, hel, hlt, trivial⟩ code11_ok (by kernel_rfl) (by kernel_rfl)) (ih (k + 1) true (by omega) (by omega))
    · rw [if_neg ha]
      have hlp := LoopE.here (c2 fun h => ha fun j => h j (by omega)) rfl (by kernel_rfl)
      exact Scanned.round (triE_of Tryd.tabOk (noI_ok _) (ups := []) (Tryd.codeN_0 m wr el s L k more) ⟨hw, hlp, hmin, hpt, hel, hlt, trivial⟩ code11_ok (by kernel_rfl) (by kernel_rfl)) (ih (k + 1) more (by omega) (by omega))
/-! ### HasPrefix, begins -/
theorem Tryd.hasPrefix41 (s w : List UInt8) (hs : s.length ≤ 1000000000000) (hw : w.length ≤ 1000000000000) : CallE Tryd.prog 41 [.pl (.string (bs s)), .pl (.string (bs w))] [] 128 (.pl (.bool (decide (w <+: s)))) [] 128 := by
  by_cases h : w.length ≤ s.length
  · by_cases e : s.take w.length = w
    · rw [decide_eq_true (prefix_take.2 ⟨h, e⟩)]
      exact callE_of Tryd.tabOk (noI_ok _) (Tryd.hasA_0 s w) ⟨by rw [beq_toList_t]; exact e, cut_pre h, by rw [leF_t]; omega, trivial⟩ (by kernel_rfl) (by kernel_rfl)
    · rw [decide_eq_false (fun hp => e (prefix_take.1 hp).2)]
      exact callE_of Tryd.tabOk (noI_ok _) (Tryd.hasA_1 s w) ⟨by rw [beq_toList_f]; exact e, cut_pre h, by rw [leF_t]; omega, trivial⟩ (by kernel_rfl) (by kernel_rfl)
  · rw [decide_eq_false (fun hp => h (prefix_take.1 hp).1)]
    exact callE_of Tryd.tabOk (noI_ok _) (Tryd.hasB_0 s w) ⟨by rw [leF_f]; omega, trivial⟩ (by kernel_rfl) (by kernel_rfl)
theorem Tryd.hasPrefix (s w : List UInt8) (hs : s.length ≤ 1000000000000) (hw : w.length ≤ 1000000000000) : CallE Tryd.prog 28 [.pl (.string (bs s)), .pl (.string (bs w))] [] 128 (.pl (.bool (decide (w <+: s)))) [] 128 :=
  callE_of Tryd.tabOk (noI_ok _) (Tryd.has_0 s w _) ⟨CallE.here (Tryd.hasPrefix41 s w hs hw) (by kernel_rfl), trivial⟩ (by kernel_rfl) (by kernel_rfl)
theorem Tryd.begins (s w : List UInt8) (hs : s.length ≤ 1000000000000) (hw : w.length ≤ 1000000000000) : CallE Tryd.prog 45 [.pl (.string (bs s)), .pl (.string (bs w))] [] 128 (.pl (.bool (decide (w <+: s)))) [] 128 := by
  by_cases h : w.length ≤ s.length
  · by_cases e : s.take w.length = w
    · rw [decide_eq_true (prefix_take.2 ⟨h, e⟩)]
      exact callE_of Tryd.tabOk (noI_ok _) (Tryd.begA_0 s w) ⟨by rw [beq_toList_t]; exact e, cut_pre h, by rw [leF_t]; omega, trivial⟩ (by kernel_rfl) (by kernel_rfl)
    · rw [decide_eq_false (fun hp => e (prefix_take.1 hp).2)]
      exact callE_of Tryd.tabOk (noI_ok _) (Tryd.begA_1 s w) ⟨by rw [beq_toList_f]; exact e, cut_pre h, by rw [leF_t]; omega, trivial⟩ (by kernel_rfl) (by kernel_rfl)
  · rw [decide_eq_false (fun hp => h (prefix_take.1 hp).1)]
    exact callE_of Tryd.tabOk (noI_ok _) (Tryd.begB_0 s w) ⟨by rw [leF_f]; omega, trivial⟩ (by kernel_rfl) (by kernel_rfl)
/-! ### Get -/
def zeros15 : List UInt8 := [48, 48, 48, 48, 48, 48, 48, 48, 48, 48, 48, 48, 48, 48, 48]
noncomputable def getR (s : List UInt8) : Int × Int × Int :=
  if s = zeros15 then (34, 0, 0) else match scan s Tryd.codesL 0 (decide (s <+: zeros15)) with
    | .inl x => (x.1, x.2, 0)
    | .inr true => (0, 0, 5)
    | .inr false => (0, 0, 7)
noncomputable def tabB (m : List UInt8) (wr : Bool) (el : Nat) : List (Nat × AObj) := [(7, .cells (tabCells .u8 Tryd.tab64) false 0), (128, .cells (bytesS m) wr el)]
noncomputable def tri3 (r : Int × Int × Int) : SV := .pl (.tuple #[.int .i64 r.1, .int .i64 r.2.1, .int .i64 r.2.2])
theorem Tryd.codesL_len : Tryd.codesL.length ≤ 1000 ∧ ∀ c ∈ Tryd.codesL, c.length ≤ 1000 := by
  have h : (Nat.ble Tryd.codesL.length 1000 && Tryd.codesL.all fun c => Nat.ble c.length 1000) = true := by kernel_rfl
  simp only [Bool.and_eq_true, List.all_eq_true, Nat.ble_eq] at h
  exact h
theorem Tryd.codes29_0 : finE [7, 128] (callS Tryd.prog Tryd.tab (told Tryd.prog Tryd.I3) 60 29 [] ⟨pairs [(7, .cells (tabCells .u8 Tryd.tab64) false 0)], 128, 128, [], []⟩)
  = some (.sl 128 0 34 (.own 1), 130, [(7, .cells (tabCells .u8 Tryd.tab64) false 0), (128, .cells (strsS Tryd.codesL) true 9)], True) := by kernel_rfl
theorem Tryd.codes29 : CallE Tryd.prog 29 [] [(7, .cells (tabCells .u8 Tryd.tab64) false 0)] 128 (.sl 128 0 34 (.own 1)) [(128, some (.cells (strsS Tryd.codesL) true 9))] 130 :=
  callE_of Tryd.tabOk Tryd.I3_ok Tryd.codes29_0 trivial (by kernel_rfl) (by kernel_rfl)
theorem Tryd.codes29_at : CallT Tryd.prog 29 [] [(7, .cells (tabCells .u8 Tryd.tab64) false 0)] 130 (.sl 130 0 34 (.own 1)) [(130, some (.cells (strsS Tryd.codesL) true 9))] 132 :=
  CallE.at Tryd.codes29 [] 130 (by kernel_rfl) rfl (by simp only [List.map, renB, AObj.ren, renL_tab]; rfl) rfl (by simp only [List.map, renU, AObj.ren, renL_strs]; rfl) rfl
theorem Tryd.get_in (m : List UInt8) (n a : Nat) (wr : Bool) (el : Nat) (ow : Ow) (hn : n ≤ m.length) (hl : n ≤ 1000000000000) (ha : a ≤ 8 * n) : CallE Tryd.prog 11 [.sl 128 0 n ow, .pl (.int .i64 (.ofNat a))] (tabB m wr el) 130 (tri3 (getR (seenB m n a 15))) [] 130 := by
  have hs : (seenB m n a 15).length ≤ 15 := by rw [seenB_len]; exact Nat.min_le_left _ _
  generalize hse : seenB m n a 15 = s at hs
  have h25 := CallE.here (Tryd.count25 n ow hl) (by kernel_rfl)
  have h26 := CallE.here (Tryd.seen m n a wr el ow hn hl ha) (by kernel_rfl)
  rw [hse] at h26
  have hle : ltF ((8 * n : Nat) : Int) (a : Int) = false := by rw [ltF_f]; omega
  have hge : ltF (a : Int) 0 = false := by rw [ltF_f]; omega
  have fin : ∀ {sv : SV} {M : Nat} , CallE Tryd.prog 11 [.sl 128 0 n ow, .pl (.int .i64 (.ofNat a))] (tabB m wr el) 130 sv [] M → M = 130 ∨ M = 132 → sv.ren (alOf [] 130 M) = sv → CallE Tryd.prog 11 [.sl 128 0 n ow, .pl (.int .i64 (.ofNat a))] (tabB m wr el) 130 sv [] 130 := fun h hM hsv => by
    rcases hM with rfl | rfl
    · exact h
    · exact CallE.forget h rfl (ks := [7, 128]) (by kernel_rfl) (l := tabB m wr el) (by kernel_rfl) (by kernel_rfl) (by simp only [tabB, List.map, renB, AObj.ren, renL_bytes, renL_tab]; rfl) hsv
  have h28 := CallE.at (Tryd.hasPrefix zeros15 s (by decide) (by omega)) [] 130 (by kernel_rfl) rfl rfl rfl rfl rfl
  have hlp := Tryd.code_loop m wr el Tryd.codesL s Tryd.codesL_len.1 Tryd.codesL_len.2 _ 0 (decide (s <+: zeros15)) rfl (Nat.zero_le _)
  rw [List.drop_zero] at hlp
  unfold getR
  by_cases hz : s = zeros15
  · rw [if_pos hz]
    exact fin (callE_of Tryd.tabOk Tryd.I3_ok (ups := []) (Tryd.getZ_0 m n a wr el ow s 0 0) ⟨by rw [bs_toList, hz]; rfl, h26, hle, h25, hge, trivial⟩ (by kernel_rfl) (by kernel_rfl)) (.inl rfl) rfl
  · rw [if_neg hz]
    have hne : ((bs s).toList == zeros15) = false := by rw [bs_toList]; simpa using hz
    cases hsc : scan s Tryd.codesL 0 (decide (s <+: zeros15)) with
    | inl x =>
      rw [hsc] at hlp
      cases hp : decide (s <+: zeros15) with
      | true =>
        rw [hp] at h28 hlp
        exact fin (callE_of Tryd.tabOk Tryd.I3_ok (ups := []) (Tryd.getA_0 m n a wr el ow s x.1 x.2) ⟨LoopE.here hlp rfl (by kernel_rfl), Tryd.codes29_at, h28, hne, h26, hle, h25, hge, trivial⟩ (by kernel_rfl) (by kernel_rfl)) (.inr rfl) rfl
      | false =>
        rw [hp] at h28 hlp
        exact fin (callE_of Tryd.tabOk Tryd.I3_ok (ups := []) (Tryd.getB_0 m n a wr el ow s x.1 x.2) ⟨LoopE.here hlp rfl (by kernel_rfl), Tryd.codes29_at, h28, hne, h26, hle, h25, hge, trivial⟩ (by kernel_rfl) (by kernel_rfl)) (.inr rfl) rfl
    | inr mo =>
      rw [hsc] at hlp
      cases hp : decide (s <+: zeros15) with
      | true =>
        rw [hp] at h28 hlp
        cases mo with
        | true => exact fin (callE_of Tryd.tabOk Tryd.I3_ok (ups := []) (Tryd.getC_0 m n a wr el ow s 0 0) ⟨LoopE.here hlp rfl (by kernel_rfl), Tryd.codes29_at, h28, hne, h26, hle, h25, hge, trivial⟩ (by kernel_rfl) (by kernel_rfl)) (.inr rfl) rfl
        | false => exact fin (callE_of Tryd.tabOk Tryd.I3_ok (ups := []) (Tryd.getF_0 m n a wr el ow s 0 0) ⟨LoopE.here hlp rfl (by kernel_rfl), Tryd.codes29_at, h28, hne, h26, hle, h25, hge, trivial⟩ (by kernel_rfl) (by kernel_rfl)) (.inr rfl) rfl
      | false =>
        rw [hp] at h28 hlp
        cases mo with
        | true => exact fin (callE_of Tryd.tabOk Tryd.I3_ok (ups := []) (Tryd.getD_0 m n a wr el ow s 0 0) ⟨LoopE.here hlp rfl (by kernel_rfl), Tryd.codes29_at, h28, hne, h26, hle, h25, hge, trivial⟩ (by kernel_rfl) (by kernel_rfl)) (.inr rfl) rfl
        | false => exact fin (callE_of Tryd.tabOk Tryd.I3_ok (ups := []) (Tryd.getE_0 m n a wr el ow s 0 0) ⟨LoopE.here hlp rfl (by kernel_rfl), Tryd.codes29_at, h28, hne, h26, hle, h25, hge, trivial⟩ (by kernel_rfl) (by kernel_rfl)) (.inr rfl) rfl
theorem Tryd.get_out (m : List UInt8) (n a : Nat) (wr : Bool) (el : Nat) (ow : Ow) (hl : n ≤ 1000000000000) (ha : ¬ a ≤ 8 * n) : CallE Tryd.prog 11 [.sl 128 0 n ow, .pl (.int .i64 (.ofNat a))] (tabB m wr el) 130 (tri3 (0, 0, 5)) [] 130 := by
  have h25 := CallE.here (Tryd.count25 n ow hl) (by kernel_rfl)
  exact callE_of Tryd.tabOk Tryd.I3_ok (ups := []) (Tryd.getO_0 m n a wr el ow) ⟨by rw [ltF_t]; omega, h25, by rw [ltF_f]; omega, trivial⟩ (by kernel_rfl) (by kernel_rfl)
theorem Tryd.get_neg (m : List UInt8) (n : Nat) (a : Int) (wr : Bool) (el : Nat) (ow : Ow) (ha : a < 0) : CallE Tryd.prog 11 [.sl 128 0 n ow, .pl (.int .i64 a)] (tabB m wr el) 130 (tri3 (0, 0, 3)) [] 130 :=
  callE_of Tryd.tabOk Tryd.I3_ok (ups := []) (Tryd.getN_0 m n a wr el ow) ⟨by rw [ltF_t]; omega, trivial⟩ (by kernel_rfl) (by kernel_rfl)
end Go.Proofs
