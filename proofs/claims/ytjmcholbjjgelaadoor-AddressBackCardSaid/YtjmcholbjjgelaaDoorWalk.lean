/- praxinoscopelaw04.AddressWalk, walked: its loop by rounds, what it calls by what that answers. -/
import Derived.Test.YtjmcholbjjgelaaDoorWalkX
import Derived.Test.YtjmcholbjjgelaaDoorWalkY
namespace Go.Proofs
open Go.Sx Go.RowKit
set_option linter.unusedVariables false
set_option linter.unusedSimpArgs false
set_option maxRecDepth 100000
def pick (x n : Int) : Int := if x.tmod n < 0 then x.tmod n + n else x.tmod n
theorem pick_range (x n : Int) (h : 0 < n) : 0 ≤ pick x n ∧ pick x n < n := by
  have h1 := Int.tmod_lt_of_pos x h
  have h2 : -n < x.tmod n := by
    have := Int.lt_tmod_of_pos x h
    omega
  unfold pick
  split <;> omega
theorem Tryd.pick34 (x : Int) : CallE Tryd.prog 14 [.pl (.int .i64 x), .pl (.int .i64 34)] [] 128 (.pl (.int .i64 (pick x 34))) [] 128 := by
  have hr := pick_range x 34 (by omega)
  unfold pick at hr ⊢
  split
  · rename_i h
    rw [if_pos h] at hr
    exact callE_of Tryd.tabOk (noI_ok _) (Tryd.pick34_0 x) (by simp only [ltF_t, ltF_f, wrap64_id, wrap_i64, and_true]; omega) rfl rfl
  · rename_i h
    exact callE_of Tryd.tabOk (noI_ok _) (Tryd.pick34_1 x) (by simp only [ltF_t, ltF_f, wrap64_id, wrap_i64, and_true]; omega) rfl rfl
theorem Tryd.pick33 (x : Int) : CallE Tryd.prog 14 [.pl (.int .i64 x), .pl (.int .i64 33)] [] 128 (.pl (.int .i64 (pick x 33))) [] 128 := by
  have hr := pick_range x 33 (by omega)
  unfold pick at hr ⊢
  split
  · rename_i h
    rw [if_pos h] at hr
    exact callE_of Tryd.tabOk (noI_ok _) (Tryd.pick33_0 x) (by simp only [ltF_t, ltF_f, wrap64_id, wrap_i64, and_true]; omega) rfl rfl
  · rename_i h
    exact callE_of Tryd.tabOk (noI_ok _) (Tryd.pick33_1 x) (by simp only [ltF_t, ltF_f, wrap64_id, wrap_i64, and_true]; omega) rfl rfl
theorem Tryd.next_over (a d : Int) (h1 : 0 ≤ a) (h2 : a ≤ 33) (h3 : 1 ≤ d) (h4 : d ≤ 33) (h5 : 33 < a + d) : CallE Tryd.prog 18 [.pl (.int .i64 a), .pl (.int .i64 d)] [] 128 (.pl (.tuple #[.int .i64 0, .int .i64 13])) [] 128 :=
  callE_of Tryd.tabOk (noI_ok _) (Tryd.next_0 a d) (by simp only [ltF_t, ltF_f, wrap64_id, wrap_i64, and_true]; omega) rfl rfl
theorem Tryd.next_in (a d : Int) (h1 : 0 ≤ a) (h2 : a ≤ 33) (h3 : 1 ≤ d) (h4 : d ≤ 33) (h5 : ¬ 33 < a + d) : CallE Tryd.prog 18 [.pl (.int .i64 a), .pl (.int .i64 d)] [] 128 (.pl (.tuple #[.int .i64 (a + d), .int .i64 0])) [] 128 :=
  callE_of Tryd.tabOk (noI_ok _) (Tryd.next_1 a d) (by simp only [ltF_t, ltF_f, wrap64_id, wrap_i64, and_true]; omega) rfl rfl
theorem Tryd.row_in (a : Int) (h1 : 1 ≤ a) (h2 : a ≤ 33) : CallE Tryd.prog 20 [.pl (.int .i64 a)] [] 128 (.pl (.tuple #[.int .i64 ((a - 1) / 11), .int .i64 ((a - 1) % 11), .int .i64 0])) [] 128 := by
  have e1 : (a - 1).tdiv 11 = (a - 1) / 11 := Int.tdiv_eq_ediv_of_nonneg (by omega)
  have e2 : (a - 1).tmod 11 = (a - 1) % 11 := Int.tmod_eq_emod_of_nonneg (by omega)
  rw [← e1, ← e2]
  exact callE_of Tryd.tabOk (noI_ok _) (Tryd.row_0 a) (by rw [e1]; simp only [ltF_t, ltF_f, wrap64_id, wrap_i64, and_true]; omega) rfl rfl
theorem Tryd.agg3 : isAgg? Tryd.tab 3 = some false := by kernel_rfl
theorem Tryd.sz3 : sizeOf? Tryd.tab 3 = some 1 := by kernel_rfl

def walkS (l : List Int) (a i : Nat) : List (Nat × SV) := [(0, .sl 128 0 l.length .no), (3, .pl (.bool true)), (4, .pl (.int .i64 (.ofNat a))), (5, .pl (.int .i64 (.ofNat i)))]
def walkB (l : List Int) : List (Nat × AObj) := [(128, .cells (intsS l) false 0)]
noncomputable abbrev walkC : Code := bodyOf Tryd.f8 4
theorem walk_ok : codeOk walkC = true := by kernel_rfl
theorem Tryd.walk_loop (l : List Int) : ∀ (n i a : Nat), 33 - i ≤ n → i ≤ 33 → a ≤ 33 →
    LoopE Tryd.prog (.loop walkC) 94 (some none) (walkS l a i) (walkB l) 130 .ret [(2, .pl (.bool true))] [] 130 ∨ LoopE Tryd.prog (.loop walkC) 94 (some none) (walkS l a i) (walkB l) 130 (.exit 0) [(3, .pl (.bool true))] [] 130 := by
  intro n
  induction n with
  | zero =>
    intro i a hn hi ha
    have e : i = 33 := by omega
    subst e
    right
    by_cases h : 33 < l.length
    · exact LoopE.leave (triE_of Tryd.tabOk (noI_ok _) (Tryd.walkC_0 l a 33) (by simp only [ltF_t, ltF_f, wrap64_id, wrap_i64, and_true]; omega) walk_ok (by kernel_rfl) (by kernel_rfl)) (by simp)
    · exact LoopE.leave (triE_of Tryd.tabOk (noI_ok _) (Tryd.walkC_1 l a 33) (by simp only [ltF_t, ltF_f, wrap64_id, wrap_i64, and_true]; omega) walk_ok (by kernel_rfl) (by kernel_rfl)) (by simp)
  | succ n ih =>
    intro i a hn hi ha
    by_cases h : i < l.length ∧ i < 33
    · obtain ⟨h1, h2⟩ := h
      obtain ⟨p1, p2⟩ := pick_range (l.getD i 0) 33 (by omega)
      obtain ⟨p, hp⟩ := Int.eq_ofNat_of_zero_le p1
      have c1 : CallT Tryd.prog 14 [.pl (.int .i64 (l.getD i 0)), .pl (.int .i64 33)] [] 130 (.pl (.int .i64 (p : Int))) [] 130 := by
        rw [← hp]
        exact plain_call (args := [.int .i64 (l.getD i 0), .int .i64 33]) (Tryd.pick33 (l.getD i 0)) 130 rfl rfl
      have hlt : ltF (i : Int) (l.length : Int) = true := by rw [ltF_t]; omega
      have hlt2 : ltF (i : Int) 33 = true := by rw [ltF_t]; omega
      have hel : elemAt Tryd.tab 3 128 0 l.length (some (i : Int)) = some (.ptr 128 i) := elem_g Tryd.sz3 (by omega) (by omega) (by simp)
      have hpt : partS Tryd.tab 3 (intsS l) i = some (.pl (.int .i64 (l.getD i 0))) := part_ints Tryd.agg3 h1
      have hw : wrap64F (1 + (p : Int)) = ((p + 1 : Nat) : Int) := by
        rw [show ((p + 1 : Nat) : Int) = 1 + (p : Int) by omega, wrap64_id]; omega
      by_cases ho : 33 < a + (p + 1)
      · left
        have c2 := plain_call (args := [.int .i64 (a : Int), .int .i64 ((p + 1 : Nat) : Int)]) (Tryd.next_over a ((p + 1 : Nat) : Int) (by omega) (by omega) (by omega) (by omega) (by omega)) 130 rfl rfl
        exact LoopE.leave (triE_of Tryd.tabOk (noI_ok _) (Tryd.walkA_0 l a i p (p + 1)) ⟨by rw [ltF_t]; omega, by rw [wrap64_id]; omega, c2, hw, c1, hpt, hel, hlt2, hlt, trivial⟩ walk_ok (by kernel_rfl) (by kernel_rfl)) (by simp)
      · have c2 := plain_call (args := [.int .i64 (a : Int), .int .i64 ((p + 1 : Nat) : Int)]) (Tryd.next_in a ((p + 1 : Nat) : Int) (by omega) (by omega) (by omega) (by omega) (by omega)) 130 rfl rfl
        rw [show ((a : Int) + ((p + 1 : Nat) : Int)) = ((a + (p + 1) : Nat) : Int) by omega] at c2
        have c3 := plain_call (args := [.int .i64 ((a + (p + 1) : Nat) : Int)]) (Tryd.row_in ((a + (p + 1) : Nat) : Int) (by omega) (by omega)) 130 rfl rfl
        have hround := triE_of Tryd.tabOk (noI_ok _) (ups := []) (Tryd.walkB_0 l a i p (p + 1) ((((a + (p + 1) : Nat) : Int) - 1) / 11) ((((a + (p + 1) : Nat) : Int) - 1) % 11))
          ⟨by rw [show ((i + 1 : Nat) : Int) = (i : Int) + 1 by omega, wrap64_id]; omega, by rw [ltF_f]; omega, by rw [ltF_f]; omega, by rw [ltF_f]; omega, by rw [ltF_f]; omega, by rw [neF_f]; omega, by rw [wrap64_id]; omega, by rw [wrap64_id]; omega, by rw [wrap64_id]; omega,
            by rw [neF_f]; omega, by rw [wrap64_id]; omega, c3, by rw [ltF_f]; omega, by rw [wrap64_id]; omega, c2, hw, c1, hpt, hel, hlt2, hlt, trivial⟩ walk_ok (by kernel_rfl) (by kernel_rfl)
        rcases ih (i + 1) (a + (p + 1)) (by omega) (by omega) (by omega) with h3 | h3
        · exact .inl (Tri.round hround h3)
        · exact .inr (Tri.round hround h3)
    · right
      by_cases h1 : i < l.length
      · exact LoopE.leave (triE_of Tryd.tabOk (noI_ok _) (Tryd.walkC_0 l a i) (by simp only [ltF_t, ltF_f, wrap64_id, wrap_i64, and_true]; omega) walk_ok (by kernel_rfl) (by kernel_rfl)) (by simp)
      · exact LoopE.leave (triE_of Tryd.tabOk (noI_ok _) (Tryd.walkC_1 l a i) (by simp only [ltF_t, ltF_f, wrap64_id, wrap_i64, and_true]; omega) walk_ok (by kernel_rfl) (by kernel_rfl)) (by simp)
theorem Tryd.walk_run (l : List Int) : ∃ n hs m', callS Tryd.prog Tryd.tab (told Tryd.prog Tryd.I3) n 8 [.sl 128 0 l.length .no] (meA (tabHeap Tryd.tabs) [intsS l] hs) = some (.pl (.bool true), m') ∧ AllP m'.vc := by
  rcases Tryd.walk_loop l 33 0 0 (by omega) (by omega) (by omega) with h | h
  · obtain ⟨m', h1, _, _, h2⟩ := finE_spec (Tryd.walkRunA_0 l)
    exact ⟨_, _, m', h1, by rw [← h2]; exact ⟨LoopE.here h rfl rfl, trivial⟩⟩
  · obtain ⟨m', h1, _, _, h2⟩ := finE_spec (Tryd.walkRunC_0 l)
    exact ⟨_, _, m', h1, by rw [← h2]; exact ⟨LoopE.here h rfl rfl, trivial⟩⟩
end Go.Proofs
