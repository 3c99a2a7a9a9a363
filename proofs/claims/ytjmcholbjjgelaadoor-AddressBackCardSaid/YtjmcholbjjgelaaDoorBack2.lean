/- AddressBack, walked, and its plain law: what follows a code never changes it. -/
import Derived.Test.YtjmcholbjjgelaaDoorBack1
import Derived.Test.YtjmcholbjjgelaaDoorBackB
import Derived.Test.YtjmcholbjjgelaaDoorWalk
namespace Go.Proofs
open Go.Sx Go.RowKit
set_option linter.unusedVariables false
set_option linter.unusedSimpArgs false
set_option maxRecDepth 100000
theorem digs_length (s : List UInt8) : (digs s).length = s.length := by simp [digs]
theorem Tryd.bytesZ (s : List UInt8) (Z : List Int) (wr : Bool) (el : Nat) (ow : Ow) (hs : isBits s) (h1 : 1 ≤ s.length) (h2 : s.length ≤ 1000) (h3 : Z.length ≤ 1000) :
    ∃ o, o.length = (s.length + Z.length + 7) / 8 ∧ (∀ k, bitN o k = if k < s.length + Z.length then par ((digs s ++ Z).getD k 0) else 0) ∧
      CallE Tryd.prog 24 [.pl (.string (bs s)), .sl 128 0 Z.length ow] [(128, .cells (intsS Z) wr el)] 130 (.sl 130 0 o.length (.own 1)) [(130, some (.cells (bytesS o) true 5))] 132 := by
  have hx := digs_length s
  have hxz : (digs s ++ Z).length = s.length + Z.length := by rw [List.length_append, hx]
  obtain ⟨o, e1, e2, e3⟩ := Tryd.bits34 (digs s ++ Z) true 3 (.own 1) (by omega)
  rw [hxz] at e1 e2 e3
  refine ⟨o, e1, e2, ?_⟩
  rw [e1]
  have hrun := Tryd.byZ_0 s Z (digs s) wr el ow o ((s.length + Z.length + 7) / 8)
  rw [hx] at hrun
  have t34 := CallE.at e3 [132] 134 (by kernel_rfl) (args' := [.sl 132 0 (s.length + Z.length) (.own 1)]) rfl (bl' := [(132, .cells (intsS (digs s ++ Z)) true 3)]) (by simp only [List.map, renB, AObj.ren, renL_ints]; rfl) (sv' := .sl 134 0 ((s.length + Z.length + 7) / 8) (.own 1)) rfl (ups' := [(134, some (.cells (bytesS o) true 5))]) (by simp only [List.map, renU, Option.map_some, AObj.ren, renL_bytes]; rfl) rfl
  have h := callE_of Tryd.tabOk Tryd.I3_ok (ups := [(134, some (.cells (bytesS o) true 5))]) hrun ⟨t34, by simp [intsS], by rw [Bool.and_eq_true, Nat.ble_eq, Nat.ble_eq]; omega, ⟨by rw [← hx]; exact cut_all (by simp [intsS]), cut_all (by simp [intsS])⟩,
    LoopE.here (Tryd.by_start s hs (by omega) Z wr el ow h1) rfl (by kernel_rfl), trivial⟩ (by kernel_rfl) (by kernel_rfl)
  exact CallE.norm (al := [134]) (ks := [128, 130]) h rfl (by kernel_rfl) (by kernel_rfl) (normOk_of (l := [(128, .cells (intsS Z) wr el), (130, .cells (bytesS o) true 5)]) (r := [some (.cells (intsS Z) wr el), some (.cells (bytesS o) true 5)]) (by kernel_rfl) (by kernel_rfl) (by simp only [List.map, AObj.ren, renL_ints, renL_bytes]) (by kernel_rfl)) (by rfl) rfl
theorem Tryd.bytes0 (s : List UInt8) (hs : isBits s) (h1 : 1 ≤ s.length) (h2 : s.length ≤ 1000) :
    ∃ o, o.length = (s.length + 7) / 8 ∧ (∀ k, bitN o k = if k < s.length then par ((digs s).getD k 0) else 0) ∧
      CallE Tryd.prog 24 [.pl (.string (bs s)), .pl (.slice none 0 0)] [] 128 (.sl 128 0 o.length (.own 1)) [(128, some (.cells (bytesS o) true 5))] 130 := by
  have hx := digs_length s
  obtain ⟨o, e1, e2, e3⟩ := Tryd.bits34 (digs s) true 3 (.own 1) (by omega)
  rw [hx] at e1 e2 e3
  refine ⟨o, e1, e2, ?_⟩
  rw [e1]
  have hrun := Tryd.byZ0_0 s (digs s) o ((s.length + 7) / 8)
  rw [hx] at hrun
  have h := callE_of Tryd.tabOk Tryd.I3_ok (ups := [(130, some (.cells (bytesS o) true 5))]) hrun ⟨CallE.here e3 (by kernel_rfl), LoopE.here (Tryd.by_start0 s hs (by omega) h1) rfl (by kernel_rfl), trivial⟩ (by kernel_rfl) (by kernel_rfl)
  exact CallE.norm (al := [130]) (ks := [128]) h rfl (by kernel_rfl) (by kernel_rfl) (normOk_of (l := [(128, .cells (bytesS o) true 5)]) (r := [some (.cells (bytesS o) true 5)]) (by kernel_rfl) (by kernel_rfl) (by simp only [List.map, AObj.ren, renL_bytes]) (by kernel_rfl)) (by rfl) rfl
theorem Tryd.gts (m : List UInt8) (n : Nat) (a : Int) (wr : Bool) (el : Nat) (ow : Ow) (r : Int × Int × Int) (h : CallE Tryd.prog 11 [.sl 128 0 n ow, .pl (.int .i64 a)] (tabB m wr el) 130 (tri3 r) [] 130) :
    CallE Tryd.prog 22 [.sl 128 0 n ow, .pl (.int .i64 a), .pl (.int .i64 r.1), .pl (.int .i64 r.2.1), .pl (.int .i64 r.2.2)] (tabB m wr el) 130 (.pl (.bool true)) [] 130 :=
  callE_of Tryd.tabOk Tryd.I3_ok (Tryd.gts_0 m n a r.1 r.2.1 r.2.2 wr el ow) ⟨by rw [eqF_t], by rw [eqF_t], by rw [eqF_t], CallE.here h (by kernel_rfl), trivial⟩ (by kernel_rfl) (by kernel_rfl)
noncomputable def tab7 : List (Nat × AObj) := [(7, .cells (tabCells .u8 Tryd.tab64) false 0)]
theorem Tryd.put (d : Nat) (hd : d < 34) : CallE Tryd.prog 15 [.pl (.int .i64 (.ofNat d))] tab7 128 (.pl (.tuple #[.string (bs (Tryd.codesL.getD d [])), .int .i64 0])) [] 128 := by
  have h := callE_of Tryd.tabOk Tryd.I3_ok (ups := []) (Tryd.put_0 d) ⟨part_strs Tryd.agg9 (by rw [Tryd.codesL_34]; exact hd), elem_g Tryd.sz9 (by omega) (by omega) (by omega), CallE.here Tryd.codes29 (by kernel_rfl), by rw [leF_f]; omega, by rw [ltF_f]; omega, trivial⟩ (by kernel_rfl) (by kernel_rfl)
  exact CallE.forget h rfl (ks := [7]) (by kernel_rfl) (l := tab7) (by kernel_rfl) (by kernel_rfl) (by simp only [tab7, List.map, renB, AObj.ren, renL_tab]; rfl) rfl
theorem Tryd.code16_all : (List.range 34).map (fun d => finE [] (callS Tryd.prog Tryd.tab (told Tryd.prog Tryd.I3) 400 16 [.pl (.string (bs (Tryd.codesL.getD d [])))] ⟨pairs [], 128, 128, [], []⟩)) =
    (List.range 34).map (fun _ => some (.pl (.bool true), 128, [], True)) := by kernel_rfl
theorem Tryd.code16 (d : Nat) (hd : d < 34) : CallE Tryd.prog 16 [.pl (.string (bs (Tryd.codesL.getD d [])))] [] 128 (.pl (.bool true)) [] 128 :=
  callE_of Tryd.tabOk Tryd.I3_ok (map_all Tryd.code16_all d (List.mem_range.2 hd)) trivial (by kernel_rfl) (by kernel_rfl)
noncomputable def Tryd.c6 : Capsule := { k := 6, args := [], bs := [], sv := .pl (.bool true), os := [] }
theorem Tryd.c6_run : capFin [] (callS Tryd.prog Tryd.tab Tryd.I3 2000 6 [] (meOf Tryd.tabs)) = some (.pl (.bool true), []) := by kernel_rfl
noncomputable def Tryd.I4 : Intr := orI Tryd.I3 (capI Tryd.tabs Tryd.c6)
theorem Tryd.I4_ok : IntrOk Tryd.prog Tryd.I4 := Tryd.I3_ok.or (cap_ok Tryd.tabOk Tryd.I3_ok (n := 2000) (by kernel_rfl) Tryd.c6_run (by kernel_rfl))
theorem Tryd.known6_0 : finE [7] (callS Tryd.prog Tryd.tab (told Tryd.prog Tryd.I4) 60 6 [] ⟨pairs tab7, 128, 128, [], []⟩) = some (.pl (.bool true), 128, tab7, True) := by kernel_rfl
theorem Tryd.known6 : CallE Tryd.prog 6 [] tab7 128 (.pl (.bool true)) [] 128 :=
  callE_of Tryd.tabOk Tryd.I4_ok Tryd.known6_0 trivial (by kernel_rfl) (by kernel_rfl)
end Go.Proofs

namespace Go.Proofs
open Go.Sx Go.RowKit
set_option linter.unusedVariables false
set_option linter.unusedSimpArgs false
set_option maxRecDepth 100000
theorem codes_getD {k : Nat} (hk : k < 34) : Tryd.L35.getD k [] = Tryd.codesL.getD k [] := by
  rw [Tryd.L35_eq, List.getD_eq_getElem?_getD, List.getElem?_append_left (by rw [Tryd.codesL_34]; exact hk), List.getD_eq_getElem?_getD]
theorem codes_pre (i k : Nat) (hi : i < 34) (hk : k < 34) (h : i ≠ k) : ¬ Tryd.codesL.getD k [] <+: Tryd.codesL.getD i [] := by
  have := Tryd.L35_pre i k (by rw [Tryd.L35_len]; omega) (by rw [Tryd.L35_len]; omega) h
  rwa [codes_getD hi, codes_getD hk] at this
theorem first_at {s c : List UInt8} : ∀ (C : List (List UInt8)) (d k : Nat), d < C.length → C.getD d [] = c → c <+: s → (∀ j, j < d → ¬ C.getD j [] <+: s) → first s C k = some (k + d, c.length)
  | [], d, k, h, _, _, _ => by cases h
  | x :: r, 0, k, h, hc, hp, _ => by
    simp only [List.getD_cons_zero] at hc
    subst hc
    simp only [first]
    rw [if_pos hp]
    rfl
  | x :: r, d + 1, k, h, hc, hp, hn => by
    simp only [List.getD_cons_succ] at hc
    have h0 := hn 0 (by omega)
    simp only [List.getD_cons_zero] at h0
    simp only [first]
    rw [if_neg h0, first_at r d (k + 1) (by simpa using h) hc hp fun j hj => by have := hn (j + 1) (by omega); simpa using this]
    rw [show k + 1 + d = k + (d + 1) by omega]
theorem getR_code {s : List UInt8} {d : Nat} (hd : d < 34) (hp : Tryd.codesL.getD d [] <+: s) : getR s = ((d : Int), ((Tryd.codesL.getD d []).length : Int), 0) := by
  have hm : Tryd.codesL.getD d [] ∈ Tryd.codesL := getD_mem (by rw [Tryd.codesL_34]; exact hd)
  unfold getR
  have hz : ¬ s = zeros15 := fun e => by subst e; exact (Tryd.codes_not_zeros _ hm).1 hp
  rw [if_neg hz, scan_first, first_at Tryd.codesL d 0 (by rw [Tryd.codesL_34]; exact hd) rfl hp fun j hj hq => ?_]
  · rw [Nat.zero_add]
  · rcases List.prefix_or_prefix_of_prefix hp hq with h | h
    · exact codes_pre j d (by omega) hd (by omega) h
    · exact codes_pre d j hd (by omega) (by omega) h
theorem getR_cut {s : List UInt8} {d : Nat} (hd : d < 34) (hp : s <+: Tryd.codesL.getD d []) (hl : s.length < (Tryd.codesL.getD d []).length) : getR s = (0, 0, 5) := by
  have hm : Tryd.codesL.getD d [] ∈ Tryd.codesL := getD_mem (by rw [Tryd.codesL_34]; exact hd)
  have h15 := Tryd.codes15 _ hm
  have hn : first s Tryd.codesL 0 = none := none_first fun c hc hq => by
    obtain ⟨k, hk, rfl⟩ := List.mem_iff_getElem.1 hc
    have hk' := hk
    rw [Tryd.codesL_34] at hk'
    replace hq : Tryd.codesL.getD k [] <+: s := by rw [List.getD_eq_getElem?_getD, List.getElem?_eq_getElem hk]; exact hq
    by_cases hkd : k = d
    · subst hkd
      have := (prefix_take.1 hq).1
      omega
    · exact codes_pre d k hd hk' (fun h => hkd h.symm) (hq.trans hp)
  unfold getR
  rw [if_neg (fun e => by rw [e] at hl; have : zeros15.length = 15 := rfl; omega), scan_first, hn]
  have hlong : longer s Tryd.codesL = true := by
    unfold longer
    rw [List.any_eq_true]
    refine ⟨_, hm, ?_⟩
    rw [Bool.and_eq_true, decide_eq_true_eq]
    refine ⟨agr_comm.1 (agr_prefix.2 hp).1, ?_⟩
    simp only [Bool.not_eq_true', decide_eq_false_iff_not]
    omega
  rw [hlong, Bool.or_true]
theorem par_dig {x : UInt8} (h : x.toNat = 48 ∨ x.toNat = 49) : UInt8.ofNat (48 + par (((x.toNat - 48 : Nat) : Int))) = x := by
  apply UInt8.toNat_inj.1
  rcases h with h | h <;> rw [h] <;> decide
theorem digs_at {s : List UInt8} {Z : List Int} {k : Nat} (h : k < s.length) : (digs s ++ Z).getD k 0 = (((s.getD k 0).toNat - 48 : Nat) : Int) := by
  rw [List.getD_eq_getElem?_getD, List.getElem?_append_left (by rw [show (digs s).length = s.length by simp [digs]]; exact h), List.getD_eq_getElem?_getD]
  unfold digs
  rw [List.getElem?_map, List.getElem?_eq_getElem h]
  rfl
theorem seen_take {o c : List UInt8} {Z : List Int} {n K : Nat} (hc : isBits c) (hb : ∀ k, bitN o k = if k < c.length + Z.length then par ((digs c ++ Z).getD k 0) else 0) (hK : K ≤ 8 * n) (hKc : K ≤ c.length) : seenB o n 0 K = c.take K := by
  unfold seenB
  refine List.ext_getElem (by simp; omega) fun i h1 h2 => ?_
  simp only [List.length_map, List.length_range] at h1
  have hi : i < c.length := by omega
  rw [List.getElem_map, List.getElem_range, Nat.zero_add, hb i, if_pos (by omega), digs_at hi, par_dig (hc i hi), List.getElem_take, List.getD_eq_getElem?_getD, List.getElem?_eq_getElem hi]
  rfl
theorem seen_pre {o c : List UInt8} {Z : List Int} {n : Nat} (hc : isBits c) (h15 : c.length ≤ 15) (hb : ∀ k, bitN o k = if k < c.length + Z.length then par ((digs c ++ Z).getD k 0) else 0) (hn : c.length ≤ 8 * n) : c <+: seenB o n 0 15 := by
  rw [prefix_take]
  refine ⟨by rw [seenB_len]; omega, ?_⟩
  have h1 : (seenB o n 0 15).take c.length = seenB o n 0 c.length := by
    unfold seenB
    rw [← List.map_take, List.take_range]
    congr 2
    omega
  rw [h1, seen_take hc hb hn (Nat.le_refl _), List.take_length]
theorem bitN_cons (x : UInt8) (o : List UInt8) (k : Nat) : bitN (x :: o) (8 + k) = bitN o k := by
  unfold bitN
  rw [show (8 + k) / 8 = k / 8 + 1 by omega, show (8 + k) % 8 = k % 8 by omega, List.getD_cons_succ]
theorem seenB_cons (x : UInt8) (o : List UInt8) (n K : Nat) : seenB (x :: o) (1 + n) 8 K = seenB o n 0 K := by
  unfold seenB
  rw [show 8 * (1 + n) - 8 = 8 * n - 0 by omega]
  refine List.map_congr_left fun i _ => ?_
  rw [bitN_cons, Nat.zero_add]
end Go.Proofs

namespace Go.Proofs
open Go.Sx Go.RowKit
set_option linter.unusedVariables false
set_option linter.unusedSimpArgs false
set_option maxRecDepth 100000
theorem Tryd.codes_ok (d : Nat) (hd : d < 34) : isBits (Tryd.codesL.getD d []) ∧ 1 ≤ (Tryd.codesL.getD d []).length ∧ (Tryd.codesL.getD d []).length ≤ 15 := by
  have hm : Tryd.codesL.getD d [] ∈ Tryd.codesL := getD_mem (by rw [Tryd.codesL_34]; exact hd)
  have h := Tryd.L35_codes _ (by rw [Tryd.L35_eq]; exact List.mem_append_left _ hm)
  exact ⟨h.1.1, h.1.2.1, h.2⟩
theorem Tryd.back_run (Z : List Int) (a : Int) : ∃ n hs m', callS Tryd.prog Tryd.tab (told Tryd.prog Tryd.I3) n 7 [.pl (.int .i64 a), .sl 128 0 Z.length .no] (meA (tabHeap Tryd.tabs) [intsS Z] hs) = some (.pl (.bool true), m') ∧ AllP m'.vc := by
  obtain ⟨p1, p2⟩ := pick_range a 34 (by omega)
  obtain ⟨d, hp⟩ := Int.eq_ofNat_of_zero_le p1
  have hd : d < 34 := by omega
  have t14 : CallT Tryd.prog 14 [.pl (.int .i64 a), .pl (.int .i64 34)] [] 130 (.pl (.int .i64 (d : Int))) [] 130 := by
    rw [← hp]
    exact plain_call (args := [.int .i64 a, .int .i64 34]) (Tryd.pick34 a) 130 rfl rfl
  have t6 : CallT Tryd.prog 6 [] tab7 130 (.pl (.bool true)) [] 130 := CallE.at Tryd.known6 [] 130 (by kernel_rfl) rfl (by simp only [tab7, List.map, renB, AObj.ren, renL_tab]; rfl) rfl rfl rfl
  by_cases hlen : 60 < Z.length
  · obtain ⟨m', e1, _, _, e2⟩ := finE_spec (Tryd.backO_0 Z a d)
    exact ⟨_, _, m', e1, by rw [← e2]; exact ⟨by rw [ltF_t]; omega, t14, t6, trivial⟩⟩
  · obtain ⟨hc, hc1, hc15⟩ := Tryd.codes_ok d hd
    have t15 := CallE.at (Tryd.put d hd) [] 130 (by kernel_rfl) rfl (bl' := tab7) (by simp only [tab7, List.map, renB, AObj.ren, renL_tab]; rfl) rfl (ups' := []) rfl rfl
    have t16 := CallE.at (Tryd.code16 d hd) [] 130 (by kernel_rfl) rfl (bl' := []) rfl rfl (ups' := []) rfl rfl
    have hcode : ∀ s : List UInt8, Tryd.codesL.getD d [] <+: s → getR s = ((d : Int), ((Tryd.codesL.getD d []).length : Int), 0) := fun s h => getR_code hd h
    have hcut : ∀ s : List UInt8, s <+: Tryd.codesL.getD d [] → s.length < (Tryd.codesL.getD d []).length → getR s = (0, 0, 5) := fun s h1 h2 => getR_cut hd h1 h2
    generalize Tryd.codesL.getD d [] = c at *
    obtain ⟨o, o1, o2, o3⟩ := Tryd.bytesZ c Z false 0 .no hc hc1 (by omega) (by omega)
    obtain ⟨w, w1, w2, w3⟩ := Tryd.bytes0 c hc hc1 (by omega)
    obtain ⟨m', e1, _, _, e2⟩ := finE_spec (Tryd.backR_0 Z a d c o w)
    refine ⟨_, _, m', e1, ?_⟩
    rw [← e2]
    have g1 := Tryd.gts o o.length 0 true 5 (.own 1) ((d : Int), (c.length : Int), 0) (by
      have := Tryd.get_in o o.length 0 true 5 (.own 1) (Nat.le_refl _) (by omega) (by omega)
      rw [hcode _ (seen_pre hc hc15 o2 (by omega))] at this
      exact this)
    have g2 := Tryd.gts (7 :: o) (1 + o.length) 8 true 5 (.own 1) ((d : Int), (c.length : Int), 0) (by
      have := Tryd.get_in (7 :: o) (1 + o.length) 8 true 5 (.own 1) (by rw [List.length_cons]; omega) (by omega) (by omega)
      rw [seenB_cons, hcode _ (seen_pre hc hc15 o2 (by omega))] at this
      exact this)
    have g3 := Tryd.gts w ((c.length - 1) / 8) 0 true 5 (.room w.length) (0, 0, 5) (by
      have := Tryd.get_in w ((c.length - 1) / 8) 0 true 5 (.room w.length) (by omega) (by omega) (by omega)
      have e : seenB w ((c.length - 1) / 8) 0 15 = c.take (8 * ((c.length - 1) / 8)) := by
        rw [seenB_full (i := 15) (K := 8 * ((c.length - 1) / 8)) (by omega)]
        exact seen_take (Z := []) hc (by simpa using w2) (Nat.le_refl _) (by omega)
      rw [e, hcut _ (List.take_prefix _ _) (by rw [List.length_take]; omega)] at this
      exact this)
    have u1 := CallE.at g1 [130] 132 (by kernel_rfl) (args' := [.sl 130 0 o.length (.own 1), .pl (.int .i64 0), .pl (.int .i64 (d : Int)), .pl (.int .i64 (c.length : Int)), .pl (.int .i64 0)]) rfl
      (bl' := [(7, .cells (tabCells .u8 Tryd.tab64) false 0), (130, .cells (bytesS o) true 5)]) (by simp only [tabB, List.map, renB, AObj.ren, renL_bytes, renL_tab]; rfl) rfl (ups' := []) rfl rfl
    have u2 := CallE.at g2 [136] 138 (by kernel_rfl) (args' := [.sl 136 0 (1 + o.length) (.own 1), .pl (.int .i64 8), .pl (.int .i64 (d : Int)), .pl (.int .i64 (c.length : Int)), .pl (.int .i64 0)]) rfl
      (bl' := [(7, .cells (tabCells .u8 Tryd.tab64) false 0), (136, .cells (bytesS (7 :: o)) true 5)]) (by simp only [tabB, List.map, renB, AObj.ren, renL_bytes, renL_tab]; rfl) rfl (ups' := []) rfl rfl
    have u3 := CallE.at g3 [138] 140 (by kernel_rfl) (args' := [.sl 138 0 ((c.length - 1) / 8) (.room w.length), .pl (.int .i64 0), .pl (.int .i64 0), .pl (.int .i64 0), .pl (.int .i64 5)]) rfl
      (bl' := [(7, .cells (tabCells .u8 Tryd.tab64) false 0), (138, .cells (bytesS w) true 5)]) (by simp only [tabB, List.map, renB, AObj.ren, renL_bytes, renL_tab]; rfl) rfl (ups' := []) rfl rfl
    have b1 := CallE.here o3 (by kernel_rfl)
    have b2 := CallE.at o3 [128] 134 (by kernel_rfl) (args' := [.pl (.string (bs c)), .sl 128 0 Z.length .no]) rfl (bl' := [(128, .cells (intsS Z) false 0)]) (by simp only [List.map, renB, AObj.ren, renL_ints]; rfl) (sv' := .sl 134 0 o.length (.own 1)) rfl
      (ups' := [(134, some (.cells (bytesS o) true 5))]) (by simp only [List.map, renU, Option.map_some, AObj.ren, renL_bytes]; rfl) rfl
    have b3 := CallE.at w3 [] 138 (by kernel_rfl) (args' := [.pl (.string (bs c)), .pl (.slice none 0 0)]) rfl (bl' := []) rfl (sv' := .sl 138 0 w.length (.own 1)) rfl
      (ups' := [(138, some (.cells (bytesS w) true 5))]) (by simp only [List.map, renU, Option.map_some, AObj.ren, renL_bytes]; rfl) rfl
    refine ⟨u3, ?_, ?_, ?_, b3, u2, (by kernel_rfl), ?_, ⟨rfl, cut_all (by simp [bytesS])⟩, b2, u1, b1, t16, t15, by rw [ltF_f]; omega, t14, t6, trivial⟩
    · rw [cutSl_ok (lo := 0) (hi := (c.length - 1) / 8) (l := none) (boundI_le (by show (c.length - 1) / 8 ≤ w.length; omega)) rfl]
      simp [cutOw, mostOf]
    · rw [show (8 : Int) = ((8 : Nat) : Int) from rfl, ← Int.ofNat_tdiv]; exact wrap_small _ (by omega)
    · rw [show ((c.length - 1 : Nat) : Int) = (c.length : Int) - 1 by omega, wrap64_id]; omega
    · rw [Bool.and_eq_true, Nat.ble_eq, Nat.ble_eq]; omega
end Go.Proofs
