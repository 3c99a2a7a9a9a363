/- Functions of this seat that take and give plain values: what each answers. -/
import Derived.Test.YtjmcholbjjgelaaDoorCaps
import Derived.Test.YtjmcholbjjgelaaDoorSxLem
namespace Go.Proofs
open Go.Sx
set_option linter.unusedVariables false
set_option maxRecDepth 100000
/-- the next address -/
def nextN (a d : Int) : Int := if a < 0 then 0 else if 33 < a then 0 else if d < 1 then 0 else if 33 < d then 0 else if 33 < a + d then 0 else a + d
def nextE (a d : Int) : Int := if a < 0 then 3 else if 33 < a then 3 else if d < 1 then 3 else if 33 < d then 3 else if 33 < a + d then 13 else 0
/-- an address's row and column -/
def rowR (a : Int) : Int := if a < 1 then 0 else if 33 < a then 0 else Int.tdiv (a - 1) 11
def rowC (a : Int) : Int := if a < 1 then 0 else if 33 < a then 0 else Int.tmod (a - 1) 11
def rowE (a : Int) : Int := if a < 1 then 3 else if 33 < a then 3 else 0
/-- what is left, never below nought -/
def pickN (x n : Int) : Int := if Int.tmod x n < 0 then Int.tmod x n + n else Int.tmod x n
/-- a difference's code -/
def codeAt (d : Int) : ByteArray := ⟨(Tryd.codesL.getD d.toNat []).toArray⟩
def putS (d : Int) : ByteArray := if d < 0 then ⟨#[]⟩ else if 33 < d then ⟨#[]⟩ else codeAt d
def putE (d : Int) : Int := if d < 0 then 3 else if 33 < d then 3 else 0
theorem codesS_eq : Tryd.codesS = Tryd.codesL.map fun l => .pl (.string ⟨l.toArray⟩) := by kernel_rfl
theorem part9 (l : List SV) (k : Nat) : partS Tryd.tab 9 l k = listAt l k := by kernel_rfl
theorem codeAt_load {d : Int} (h0 : 0 ≤ d) (h1 : d ≤ 33) : partS Tryd.tab 9 Tryd.codesS (Int.toNat d) = some (.pl (.string (codeAt d))) := by
  have hk : Int.toNat d < Tryd.codesL.length := by
    have : Tryd.codesL.length = 34 := by kernel_rfl
    omega
  rw [part9, listAt_eq, codesS_eq, List.getElem?_map, List.getElem?_eq_getElem hk]
  simp [codeAt, List.getD_eq_getElem?_getD, List.getElem?_eq_getElem hk]
theorem refAt_load {d : Int} (h0 : 0 ≤ d) (h1 : d ≤ 33) : partS Tryd.tab 9 Tryd.refS (Int.toNat d) = some (.pl (.string (codeAt d))) := by
  rw [← codeAt_load h0 h1, part9, part9, listAt_eq, listAt_eq, Tryd.refS, List.getElem?_append_left]
  have : Tryd.codesS.length = 34 := by kernel_rfl
  omega

theorem Tryd.next18_0 (a d : Int) : finQ [] (callS Tryd.prog Tryd.tab (told Tryd.prog noI) 60 18 [.pl (.int .i64 a), .pl (.int .i64 d)] (meA [] [] [.val 1 1 (.pl (.bool true))])) = some (.pl (.tuple #[.int .i64 0, .int .i64 3]), [], (ltF a 0 = true ∧ True)) := by kernel_rfl
theorem Tryd.next18_1 (a d : Int) : finQ [] (callS Tryd.prog Tryd.tab (told Tryd.prog noI) 60 18 [.pl (.int .i64 a), .pl (.int .i64 d)] (meA [] [] [.val 1 1 (.pl (.bool false)), .val 1 4 (.pl (.bool true))])) = some (.pl (.tuple #[.int .i64 0, .int .i64 3]), [], (ltF 33 a = true ∧ (ltF a 0 = false ∧ True))) := by kernel_rfl
theorem Tryd.next18_2 (a d : Int) : finQ [] (callS Tryd.prog Tryd.tab (told Tryd.prog noI) 60 18 [.pl (.int .i64 a), .pl (.int .i64 d)] (meA [] [] [.val 1 1 (.pl (.bool false)), .val 1 4 (.pl (.bool false)), .val 1 8 (.pl (.bool true))])) = some (.pl (.tuple #[.int .i64 0, .int .i64 3]), [], (ltF d 1 = true ∧ (ltF 33 a = false ∧ (ltF a 0 = false ∧ True)))) := by kernel_rfl
theorem Tryd.next18_3 (a d : Int) : finQ [] (callS Tryd.prog Tryd.tab (told Tryd.prog noI) 60 18 [.pl (.int .i64 a), .pl (.int .i64 d)] (meA [] [] [.val 1 1 (.pl (.bool false)), .val 1 4 (.pl (.bool false)), .val 1 8 (.pl (.bool false)), .val 1 12 (.pl (.bool true))])) = some (.pl (.tuple #[.int .i64 0, .int .i64 3]), [], (ltF 33 d = true ∧ (ltF d 1 = false ∧ (ltF 33 a = false ∧ (ltF a 0 = false ∧ True))))) := by kernel_rfl
theorem Tryd.next18_4 (a d : Int) : finQ [] (callS Tryd.prog Tryd.tab (told Tryd.prog noI) 60 18 [.pl (.int .i64 a), .pl (.int .i64 d)] (meA [] [] [.val 1 1 (.pl (.bool false)), .val 1 4 (.pl (.bool false)), .val 1 8 (.pl (.bool false)), .val 1 12 (.pl (.bool false)), .val 3 2 (.pl (.int .i64 (a + d))), .val 3 3 (.pl (.bool true))])) = some (.pl (.tuple #[.int .i64 0, .int .i64 13]), [], (ltF 33 (a + d) = true ∧ (wrapF .i64 (a + d) = a + d ∧ (ltF 33 d = false ∧ (ltF d 1 = false ∧ (ltF 33 a = false ∧ (ltF a 0 = false ∧ True))))))) := by kernel_rfl
theorem Tryd.next18_5 (a d : Int) : finQ [] (callS Tryd.prog Tryd.tab (told Tryd.prog noI) 60 18 [.pl (.int .i64 a), .pl (.int .i64 d)] (meA [] [] [.val 1 1 (.pl (.bool false)), .val 1 4 (.pl (.bool false)), .val 1 8 (.pl (.bool false)), .val 1 12 (.pl (.bool false)), .val 3 2 (.pl (.int .i64 (a + d))), .val 3 3 (.pl (.bool false)), .val 5 2 (.pl (.int .i64 (a + d)))])) = some (.pl (.tuple #[.int .i64 (a + d), .int .i64 0]), [], (wrapF .i64 (a + d) = a + d ∧ (ltF 33 (a + d) = false ∧ (wrapF .i64 (a + d) = a + d ∧ (ltF 33 d = false ∧ (ltF d 1 = false ∧ (ltF 33 a = false ∧ (ltF a 0 = false ∧ True)))))))) := by kernel_rfl
theorem Tryd.next18 (a d : Int)  : Sx.Good Tryd.prog Tryd.tab noI 18 [.pl (.int .i64 a), .pl (.int .i64 d)] (meA [] []) [] (.pl (.tuple #[.int .i64 (nextN a d), .int .i64 (nextE a d)])) [] := by
  by_cases h0 : a < 0
  · rw [show .pl (.tuple #[.int .i64 (nextN a d), .int .i64 (nextE a d)]) = (.pl (.tuple #[.int .i64 0, .int .i64 3]) : SV) from by simp [nextN, nextE, h0]]
    exact good_of (Tryd.next18_0 a d) ⟨(ltF_t (by omega)), trivial⟩
  · by_cases h1 : 33 < a
    · rw [show .pl (.tuple #[.int .i64 (nextN a d), .int .i64 (nextE a d)]) = (.pl (.tuple #[.int .i64 0, .int .i64 3]) : SV) from by simp [nextN, nextE, h0, h1]]
      exact good_of (Tryd.next18_1 a d) ⟨(ltF_t (by omega)), (ltF_f (by omega)), trivial⟩
    · by_cases h2 : d < 1
      · rw [show .pl (.tuple #[.int .i64 (nextN a d), .int .i64 (nextE a d)]) = (.pl (.tuple #[.int .i64 0, .int .i64 3]) : SV) from by simp [nextN, nextE, h0, h1, h2]]
        exact good_of (Tryd.next18_2 a d) ⟨(ltF_t (by omega)), (ltF_f (by omega)), (ltF_f (by omega)), trivial⟩
      · by_cases h3 : 33 < d
        · rw [show .pl (.tuple #[.int .i64 (nextN a d), .int .i64 (nextE a d)]) = (.pl (.tuple #[.int .i64 0, .int .i64 3]) : SV) from by simp [nextN, nextE, h0, h1, h2, h3]]
          exact good_of (Tryd.next18_3 a d) ⟨(ltF_t (by omega)), (ltF_f (by omega)), (ltF_f (by omega)), (ltF_f (by omega)), trivial⟩
        · by_cases h4 : 33 < (a + d)
          · rw [show .pl (.tuple #[.int .i64 (nextN a d), .int .i64 (nextE a d)]) = (.pl (.tuple #[.int .i64 0, .int .i64 13]) : SV) from by simp [nextN, nextE, h0, h1, h2, h3, h4]]
            exact good_of (Tryd.next18_4 a d) ⟨(ltF_t (by omega)), (wrapF_ok (by omega) (by omega)), (ltF_f (by omega)), (ltF_f (by omega)), (ltF_f (by omega)), (ltF_f (by omega)), trivial⟩
          · rw [show .pl (.tuple #[.int .i64 (nextN a d), .int .i64 (nextE a d)]) = (.pl (.tuple #[.int .i64 (a + d), .int .i64 0]) : SV) from by simp [nextN, nextE, h0, h1, h2, h3, h4]]
            exact good_of (Tryd.next18_5 a d) ⟨(wrapF_ok (by omega) (by omega)), (ltF_f (by omega)), (wrapF_ok (by omega) (by omega)), (ltF_f (by omega)), (ltF_f (by omega)), (ltF_f (by omega)), (ltF_f (by omega)), trivial⟩
theorem Tryd.next19_0 (a d : Int) : finQ [] (callS Tryd.prog Tryd.tab (told Tryd.prog noI) 60 19 [.pl (.int .i64 a), .pl (.int .i64 d)] (meA [] [] [.val 1 1 (.pl (.bool true))])) = some (.pl (.tuple #[.int .i64 0, .int .i64 3]), [], (ltF a 0 = true ∧ True)) := by kernel_rfl
theorem Tryd.next19_1 (a d : Int) : finQ [] (callS Tryd.prog Tryd.tab (told Tryd.prog noI) 60 19 [.pl (.int .i64 a), .pl (.int .i64 d)] (meA [] [] [.val 1 1 (.pl (.bool false)), .val 1 4 (.pl (.bool true))])) = some (.pl (.tuple #[.int .i64 0, .int .i64 3]), [], (ltF 33 a = true ∧ (ltF a 0 = false ∧ True))) := by kernel_rfl
theorem Tryd.next19_2 (a d : Int) : finQ [] (callS Tryd.prog Tryd.tab (told Tryd.prog noI) 60 19 [.pl (.int .i64 a), .pl (.int .i64 d)] (meA [] [] [.val 1 1 (.pl (.bool false)), .val 1 4 (.pl (.bool false)), .val 1 8 (.pl (.bool true))])) = some (.pl (.tuple #[.int .i64 0, .int .i64 3]), [], (ltF d 1 = true ∧ (ltF 33 a = false ∧ (ltF a 0 = false ∧ True)))) := by kernel_rfl
theorem Tryd.next19_3 (a d : Int) : finQ [] (callS Tryd.prog Tryd.tab (told Tryd.prog noI) 60 19 [.pl (.int .i64 a), .pl (.int .i64 d)] (meA [] [] [.val 1 1 (.pl (.bool false)), .val 1 4 (.pl (.bool false)), .val 1 8 (.pl (.bool false)), .val 1 12 (.pl (.bool true))])) = some (.pl (.tuple #[.int .i64 0, .int .i64 3]), [], (ltF 33 d = true ∧ (ltF d 1 = false ∧ (ltF 33 a = false ∧ (ltF a 0 = false ∧ True))))) := by kernel_rfl
theorem Tryd.next19_4 (a d : Int) : finQ [] (callS Tryd.prog Tryd.tab (told Tryd.prog noI) 60 19 [.pl (.int .i64 a), .pl (.int .i64 d)] (meA [] [] [.val 1 1 (.pl (.bool false)), .val 1 4 (.pl (.bool false)), .val 1 8 (.pl (.bool false)), .val 1 12 (.pl (.bool false)), .val 3 2 (.pl (.int .i64 (a + d))), .val 3 3 (.pl (.bool true))])) = some (.pl (.tuple #[.int .i64 0, .int .i64 13]), [], (ltF 33 (a + d) = true ∧ (wrapF .i64 (a + d) = a + d ∧ (ltF 33 d = false ∧ (ltF d 1 = false ∧ (ltF 33 a = false ∧ (ltF a 0 = false ∧ True))))))) := by kernel_rfl
theorem Tryd.next19_5 (a d : Int) : finQ [] (callS Tryd.prog Tryd.tab (told Tryd.prog noI) 60 19 [.pl (.int .i64 a), .pl (.int .i64 d)] (meA [] [] [.val 1 1 (.pl (.bool false)), .val 1 4 (.pl (.bool false)), .val 1 8 (.pl (.bool false)), .val 1 12 (.pl (.bool false)), .val 3 2 (.pl (.int .i64 (a + d))), .val 3 3 (.pl (.bool false)), .val 5 2 (.pl (.int .i64 (a + d)))])) = some (.pl (.tuple #[.int .i64 (a + d), .int .i64 0]), [], (wrapF .i64 (a + d) = a + d ∧ (ltF 33 (a + d) = false ∧ (wrapF .i64 (a + d) = a + d ∧ (ltF 33 d = false ∧ (ltF d 1 = false ∧ (ltF 33 a = false ∧ (ltF a 0 = false ∧ True)))))))) := by kernel_rfl
theorem Tryd.next19 (a d : Int)  : Sx.Good Tryd.prog Tryd.tab noI 19 [.pl (.int .i64 a), .pl (.int .i64 d)] (meA [] []) [] (.pl (.tuple #[.int .i64 (nextN a d), .int .i64 (nextE a d)])) [] := by
  by_cases h0 : a < 0
  · rw [show .pl (.tuple #[.int .i64 (nextN a d), .int .i64 (nextE a d)]) = (.pl (.tuple #[.int .i64 0, .int .i64 3]) : SV) from by simp [nextN, nextE, h0]]
    exact good_of (Tryd.next19_0 a d) ⟨(ltF_t (by omega)), trivial⟩
  · by_cases h1 : 33 < a
    · rw [show .pl (.tuple #[.int .i64 (nextN a d), .int .i64 (nextE a d)]) = (.pl (.tuple #[.int .i64 0, .int .i64 3]) : SV) from by simp [nextN, nextE, h0, h1]]
      exact good_of (Tryd.next19_1 a d) ⟨(ltF_t (by omega)), (ltF_f (by omega)), trivial⟩
    · by_cases h2 : d < 1
      · rw [show .pl (.tuple #[.int .i64 (nextN a d), .int .i64 (nextE a d)]) = (.pl (.tuple #[.int .i64 0, .int .i64 3]) : SV) from by simp [nextN, nextE, h0, h1, h2]]
        exact good_of (Tryd.next19_2 a d) ⟨(ltF_t (by omega)), (ltF_f (by omega)), (ltF_f (by omega)), trivial⟩
      · by_cases h3 : 33 < d
        · rw [show .pl (.tuple #[.int .i64 (nextN a d), .int .i64 (nextE a d)]) = (.pl (.tuple #[.int .i64 0, .int .i64 3]) : SV) from by simp [nextN, nextE, h0, h1, h2, h3]]
          exact good_of (Tryd.next19_3 a d) ⟨(ltF_t (by omega)), (ltF_f (by omega)), (ltF_f (by omega)), (ltF_f (by omega)), trivial⟩
        · by_cases h4 : 33 < (a + d)
          · rw [show .pl (.tuple #[.int .i64 (nextN a d), .int .i64 (nextE a d)]) = (.pl (.tuple #[.int .i64 0, .int .i64 13]) : SV) from by simp [nextN, nextE, h0, h1, h2, h3, h4]]
            exact good_of (Tryd.next19_4 a d) ⟨(ltF_t (by omega)), (wrapF_ok (by omega) (by omega)), (ltF_f (by omega)), (ltF_f (by omega)), (ltF_f (by omega)), (ltF_f (by omega)), trivial⟩
          · rw [show .pl (.tuple #[.int .i64 (nextN a d), .int .i64 (nextE a d)]) = (.pl (.tuple #[.int .i64 (a + d), .int .i64 0]) : SV) from by simp [nextN, nextE, h0, h1, h2, h3, h4]]
            exact good_of (Tryd.next19_5 a d) ⟨(wrapF_ok (by omega) (by omega)), (ltF_f (by omega)), (wrapF_ok (by omega) (by omega)), (ltF_f (by omega)), (ltF_f (by omega)), (ltF_f (by omega)), (ltF_f (by omega)), trivial⟩
theorem Tryd.row20_0 (a : Int) : finQ [] (callS Tryd.prog Tryd.tab (told Tryd.prog noI) 60 20 [.pl (.int .i64 a)] (meA [] [] [.val 1 1 (.pl (.bool true))])) = some (.pl (.tuple #[.int .i64 0, .int .i64 0, .int .i64 3]), [], (ltF a 1 = true ∧ True)) := by kernel_rfl
theorem Tryd.row20_1 (a : Int) : finQ [] (callS Tryd.prog Tryd.tab (told Tryd.prog noI) 60 20 [.pl (.int .i64 a)] (meA [] [] [.val 1 1 (.pl (.bool false)), .val 1 4 (.pl (.bool true))])) = some (.pl (.tuple #[.int .i64 0, .int .i64 0, .int .i64 3]), [], (ltF 33 a = true ∧ (ltF a 1 = false ∧ True))) := by kernel_rfl
theorem Tryd.row20_2 (a : Int) : finQ [] (callS Tryd.prog Tryd.tab (told Tryd.prog noI) 60 20 [.pl (.int .i64 a)] (meA [] [] [.val 1 1 (.pl (.bool false)), .val 1 4 (.pl (.bool false)), .val 3 1 (.pl (.int .i64 (a - 1))), .val 3 2 (.pl (.int .i64 (Int.tdiv (a - 1) 11))), .val 3 4 (.pl (.int .i64 (a - 1)))])) = some (.pl (.tuple #[.int .i64 (Int.tdiv (a - 1) 11), .int .i64 (Int.tmod (a - 1) 11), .int .i64 0]), [], (wrapF .i64 (a - 1) = a - 1 ∧ (IntKind.wrap .i64 (Int.tdiv (a - 1) 11) = Int.tdiv (a - 1) 11 ∧ (wrapF .i64 (a - 1) = a - 1 ∧ (ltF 33 a = false ∧ (ltF a 1 = false ∧ True)))))) := by kernel_rfl
theorem Tryd.row20 (a : Int)  : Sx.Good Tryd.prog Tryd.tab noI 20 [.pl (.int .i64 a)] (meA [] []) [] (.pl (.tuple #[.int .i64 (rowR a), .int .i64 (rowC a), .int .i64 (rowE a)])) [] := by
  by_cases h0 : a < 1
  · rw [show .pl (.tuple #[.int .i64 (rowR a), .int .i64 (rowC a), .int .i64 (rowE a)]) = (.pl (.tuple #[.int .i64 0, .int .i64 0, .int .i64 3]) : SV) from by simp [rowR, rowC, rowE, h0]]
    exact good_of (Tryd.row20_0 a) ⟨(ltF_t (by omega)), trivial⟩
  · by_cases h1 : 33 < a
    · rw [show .pl (.tuple #[.int .i64 (rowR a), .int .i64 (rowC a), .int .i64 (rowE a)]) = (.pl (.tuple #[.int .i64 0, .int .i64 0, .int .i64 3]) : SV) from by simp [rowR, rowC, rowE, h0, h1]]
      exact good_of (Tryd.row20_1 a) ⟨(ltF_t (by omega)), (ltF_f (by omega)), trivial⟩
    · rw [show .pl (.tuple #[.int .i64 (rowR a), .int .i64 (rowC a), .int .i64 (rowE a)]) = (.pl (.tuple #[.int .i64 (Int.tdiv (a - 1) 11), .int .i64 (Int.tmod (a - 1) 11), .int .i64 0]) : SV) from by simp [rowR, rowC, rowE, h0, h1]]
      exact good_of (Tryd.row20_2 a) ⟨(wrapF_ok (by omega) (by omega)), (wrap_ok (by rw [Int.tdiv_eq_ediv_of_nonneg (by omega)]; omega) (by rw [Int.tdiv_eq_ediv_of_nonneg (by omega)]; omega)), (wrapF_ok (by omega) (by omega)), (ltF_f (by omega)), (ltF_f (by omega)), trivial⟩
theorem Tryd.row21_0 (a : Int) : finQ [] (callS Tryd.prog Tryd.tab (told Tryd.prog noI) 60 21 [.pl (.int .i64 a)] (meA [] [] [.val 1 1 (.pl (.bool true))])) = some (.pl (.tuple #[.int .i64 0, .int .i64 0, .int .i64 3]), [], (ltF a 1 = true ∧ True)) := by kernel_rfl
theorem Tryd.row21_1 (a : Int) : finQ [] (callS Tryd.prog Tryd.tab (told Tryd.prog noI) 60 21 [.pl (.int .i64 a)] (meA [] [] [.val 1 1 (.pl (.bool false)), .val 1 4 (.pl (.bool true))])) = some (.pl (.tuple #[.int .i64 0, .int .i64 0, .int .i64 3]), [], (ltF 33 a = true ∧ (ltF a 1 = false ∧ True))) := by kernel_rfl
theorem Tryd.row21_2 (a : Int) : finQ [] (callS Tryd.prog Tryd.tab (told Tryd.prog noI) 60 21 [.pl (.int .i64 a)] (meA [] [] [.val 1 1 (.pl (.bool false)), .val 1 4 (.pl (.bool false)), .val 3 1 (.pl (.int .i64 (a - 1))), .val 3 2 (.pl (.int .i64 (Int.tdiv (a - 1) 11))), .val 3 4 (.pl (.int .i64 (a - 1)))])) = some (.pl (.tuple #[.int .i64 (Int.tdiv (a - 1) 11), .int .i64 (Int.tmod (a - 1) 11), .int .i64 0]), [], (wrapF .i64 (a - 1) = a - 1 ∧ (IntKind.wrap .i64 (Int.tdiv (a - 1) 11) = Int.tdiv (a - 1) 11 ∧ (wrapF .i64 (a - 1) = a - 1 ∧ (ltF 33 a = false ∧ (ltF a 1 = false ∧ True)))))) := by kernel_rfl
theorem Tryd.row21 (a : Int)  : Sx.Good Tryd.prog Tryd.tab noI 21 [.pl (.int .i64 a)] (meA [] []) [] (.pl (.tuple #[.int .i64 (rowR a), .int .i64 (rowC a), .int .i64 (rowE a)])) [] := by
  by_cases h0 : a < 1
  · rw [show .pl (.tuple #[.int .i64 (rowR a), .int .i64 (rowC a), .int .i64 (rowE a)]) = (.pl (.tuple #[.int .i64 0, .int .i64 0, .int .i64 3]) : SV) from by simp [rowR, rowC, rowE, h0]]
    exact good_of (Tryd.row21_0 a) ⟨(ltF_t (by omega)), trivial⟩
  · by_cases h1 : 33 < a
    · rw [show .pl (.tuple #[.int .i64 (rowR a), .int .i64 (rowC a), .int .i64 (rowE a)]) = (.pl (.tuple #[.int .i64 0, .int .i64 0, .int .i64 3]) : SV) from by simp [rowR, rowC, rowE, h0, h1]]
      exact good_of (Tryd.row21_1 a) ⟨(ltF_t (by omega)), (ltF_f (by omega)), trivial⟩
    · rw [show .pl (.tuple #[.int .i64 (rowR a), .int .i64 (rowC a), .int .i64 (rowE a)]) = (.pl (.tuple #[.int .i64 (Int.tdiv (a - 1) 11), .int .i64 (Int.tmod (a - 1) 11), .int .i64 0]) : SV) from by simp [rowR, rowC, rowE, h0, h1]]
      exact good_of (Tryd.row21_2 a) ⟨(wrapF_ok (by omega) (by omega)), (wrap_ok (by rw [Int.tdiv_eq_ediv_of_nonneg (by omega)]; omega) (by rw [Int.tdiv_eq_ediv_of_nonneg (by omega)]; omega)), (wrapF_ok (by omega) (by omega)), (ltF_f (by omega)), (ltF_f (by omega)), trivial⟩
theorem Tryd.pick33_0 (x : Int) : finQ [] (callS Tryd.prog Tryd.tab (told Tryd.prog noI) 60 14 [.pl (.int .i64 x), .pl (.int .i64 33)] (meA [] [] [.val 4 1 (.pl (.bool true)), .val 5 2 (.pl (.int .i64 ((Int.tmod x 33) + 33)))])) = some (.pl (.int .i64 ((Int.tmod x 33) + 33)), [], (wrapF .i64 ((Int.tmod x 33) + 33) = (Int.tmod x 33) + 33 ∧ (ltF (Int.tmod x 33) 0 = true ∧ True))) := by kernel_rfl
theorem Tryd.pick33_1 (x : Int) : finQ [] (callS Tryd.prog Tryd.tab (told Tryd.prog noI) 60 14 [.pl (.int .i64 x), .pl (.int .i64 33)] (meA [] [] [.val 4 1 (.pl (.bool false))])) = some (.pl (.int .i64 (Int.tmod x 33)), [], (ltF (Int.tmod x 33) 0 = false ∧ True)) := by kernel_rfl
theorem Tryd.pick33 (x : Int)  : Sx.Good Tryd.prog Tryd.tab noI 14 [.pl (.int .i64 x), .pl (.int .i64 33)] (meA [] []) [] (.pl (.int .i64 (pickN x 33))) [] := by
  by_cases h0 : (Int.tmod x 33) < 0
  · rw [show .pl (.int .i64 (pickN x 33)) = (.pl (.int .i64 ((Int.tmod x 33) + 33)) : SV) from by simp [pickN, h0]]
    exact good_of (Tryd.pick33_0 x) ⟨(wrapF_ok (by have := tmod_near x 33 (by omega); omega) (by have := tmod_near x 33 (by omega); omega)), (ltF_t (by omega)), trivial⟩
  · rw [show .pl (.int .i64 (pickN x 33)) = (.pl (.int .i64 (Int.tmod x 33)) : SV) from by simp [pickN, h0]]
    exact good_of (Tryd.pick33_1 x) ⟨(ltF_f (by omega)), trivial⟩
theorem Tryd.pick34_0 (x : Int) : finQ [] (callS Tryd.prog Tryd.tab (told Tryd.prog noI) 60 14 [.pl (.int .i64 x), .pl (.int .i64 34)] (meA [] [] [.val 4 1 (.pl (.bool true)), .val 5 2 (.pl (.int .i64 ((Int.tmod x 34) + 34)))])) = some (.pl (.int .i64 ((Int.tmod x 34) + 34)), [], (wrapF .i64 ((Int.tmod x 34) + 34) = (Int.tmod x 34) + 34 ∧ (ltF (Int.tmod x 34) 0 = true ∧ True))) := by kernel_rfl
theorem Tryd.pick34_1 (x : Int) : finQ [] (callS Tryd.prog Tryd.tab (told Tryd.prog noI) 60 14 [.pl (.int .i64 x), .pl (.int .i64 34)] (meA [] [] [.val 4 1 (.pl (.bool false))])) = some (.pl (.int .i64 (Int.tmod x 34)), [], (ltF (Int.tmod x 34) 0 = false ∧ True)) := by kernel_rfl
theorem Tryd.pick34 (x : Int)  : Sx.Good Tryd.prog Tryd.tab noI 14 [.pl (.int .i64 x), .pl (.int .i64 34)] (meA [] []) [] (.pl (.int .i64 (pickN x 34))) [] := by
  by_cases h0 : (Int.tmod x 34) < 0
  · rw [show .pl (.int .i64 (pickN x 34)) = (.pl (.int .i64 ((Int.tmod x 34) + 34)) : SV) from by simp [pickN, h0]]
    exact good_of (Tryd.pick34_0 x) ⟨(wrapF_ok (by have := tmod_near x 34 (by omega); omega) (by have := tmod_near x 34 (by omega); omega)), (ltF_t (by omega)), trivial⟩
  · rw [show .pl (.int .i64 (pickN x 34)) = (.pl (.int .i64 (Int.tmod x 34)) : SV) from by simp [pickN, h0]]
    exact good_of (Tryd.pick34_1 x) ⟨(ltF_f (by omega)), trivial⟩
theorem Tryd.put15_0 (d : Int) : finQ [] (callS Tryd.prog Tryd.tab (told Tryd.prog Tryd.I2) 60 15 [.pl (.int .i64 d)] (meA Tryd.tabs [] [.val 1 1 (.pl (.bool true))])) = some (.pl (.tuple #[.string ⟨#[]⟩, .int .i64 3]), [], (ltF d 0 = true ∧ True)) := by kernel_rfl
theorem Tryd.put15_1 (d : Int) : finQ [] (callS Tryd.prog Tryd.tab (told Tryd.prog Tryd.I2) 60 15 [.pl (.int .i64 d)] (meA Tryd.tabs [] [.val 1 1 (.pl (.bool false)), .val 1 4 (.pl (.bool true))])) = some (.pl (.tuple #[.string ⟨#[]⟩, .int .i64 3]), [], (leF 34 d = true ∧ (ltF d 0 = false ∧ True))) := by kernel_rfl
theorem Tryd.put15_2 (d : Int) : finQ [] (callS Tryd.prog Tryd.tab (told Tryd.prog Tryd.I2) 60 15 [.pl (.int .i64 d)] (meA Tryd.tabs [] [.val 1 1 (.pl (.bool false)), .val 1 4 (.pl (.bool false)), .val 3 2 (.ptr 128 (Int.toNat d)), .val 3 3 (.pl (.string (codeAt d)))])) = some (.pl (.tuple #[.string (codeAt d), .int .i64 0]), [], (partS Tryd.tab 9 Tryd.codesS (Int.toNat d) = some (.pl (.string (codeAt d))) ∧ (elemAt Tryd.tab 9 128 0 34 (some d) = some (.ptr 128 (Int.toNat d)) ∧ (leF 34 d = false ∧ (ltF d 0 = false ∧ True))))) := by kernel_rfl
theorem Tryd.put15 (d : Int)  : Sx.Good Tryd.prog Tryd.tab Tryd.I2 15 [.pl (.int .i64 d)] (meA Tryd.tabs []) [] (.pl (.tuple #[.string (putS d), .int .i64 (putE d)])) [] := by
  by_cases h0 : d < 0
  · rw [show .pl (.tuple #[.string (putS d), .int .i64 (putE d)]) = (.pl (.tuple #[.string ⟨#[]⟩, .int .i64 3]) : SV) from by simp [putS, putE, h0]]
    exact good_of (Tryd.put15_0 d) ⟨(ltF_t (by omega)), trivial⟩
  · by_cases h1 : 34 ≤ d
    · rw [show .pl (.tuple #[.string (putS d), .int .i64 (putE d)]) = (.pl (.tuple #[.string ⟨#[]⟩, .int .i64 3]) : SV) from by unfold putS putE; split <;> (try split) <;> first | rfl | omega]
      exact good_of (Tryd.put15_1 d) ⟨(leF_t (by omega)), (ltF_f (by omega)), trivial⟩
    · rw [show .pl (.tuple #[.string (putS d), .int .i64 (putE d)]) = (.pl (.tuple #[.string (codeAt d), .int .i64 0]) : SV) from by unfold putS putE; split <;> (try split) <;> first | rfl | omega]
      exact good_of (Tryd.put15_2 d) ⟨(codeAt_load (by omega) (by omega)), (elem_ok (k := Int.toNat d) (sz := 1) (by kernel_rfl) (by omega) (by omega) (by omega)), (leF_f (by omega)), (ltF_f (by omega)), trivial⟩
theorem Tryd.put17_0 (d : Int) : finQ [] (callS Tryd.prog Tryd.tab (told Tryd.prog Tryd.I2) 60 17 [.pl (.int .i64 d)] (meA Tryd.tabs [] [.val 1 1 (.pl (.bool true))])) = some (.pl (.tuple #[.string ⟨#[]⟩, .int .i64 3]), [], (ltF d 0 = true ∧ True)) := by kernel_rfl
theorem Tryd.put17_1 (d : Int) : finQ [] (callS Tryd.prog Tryd.tab (told Tryd.prog Tryd.I2) 60 17 [.pl (.int .i64 d)] (meA Tryd.tabs [] [.val 1 1 (.pl (.bool false)), .val 1 4 (.pl (.bool true))])) = some (.pl (.tuple #[.string ⟨#[]⟩, .int .i64 3]), [], (ltF 33 d = true ∧ (ltF d 0 = false ∧ True))) := by kernel_rfl
theorem Tryd.put17_2 (d : Int) : finQ [] (callS Tryd.prog Tryd.tab (told Tryd.prog Tryd.I2) 60 17 [.pl (.int .i64 d)] (meA Tryd.tabs [] [.val 1 1 (.pl (.bool false)), .val 1 4 (.pl (.bool false)), .val 3 2 (.ptr 128 (Int.toNat d)), .val 3 3 (.pl (.string (codeAt d)))])) = some (.pl (.tuple #[.string (codeAt d), .int .i64 0]), [], (partS Tryd.tab 9 Tryd.refS (Int.toNat d) = some (.pl (.string (codeAt d))) ∧ (elemAt Tryd.tab 9 128 0 35 (some d) = some (.ptr 128 (Int.toNat d)) ∧ (ltF 33 d = false ∧ (ltF d 0 = false ∧ True))))) := by kernel_rfl
theorem Tryd.put17 (d : Int)  : Sx.Good Tryd.prog Tryd.tab Tryd.I2 17 [.pl (.int .i64 d)] (meA Tryd.tabs []) [] (.pl (.tuple #[.string (putS d), .int .i64 (putE d)])) [] := by
  by_cases h0 : d < 0
  · rw [show .pl (.tuple #[.string (putS d), .int .i64 (putE d)]) = (.pl (.tuple #[.string ⟨#[]⟩, .int .i64 3]) : SV) from by simp [putS, putE, h0]]
    exact good_of (Tryd.put17_0 d) ⟨(ltF_t (by omega)), trivial⟩
  · by_cases h1 : 33 < d
    · rw [show .pl (.tuple #[.string (putS d), .int .i64 (putE d)]) = (.pl (.tuple #[.string ⟨#[]⟩, .int .i64 3]) : SV) from by unfold putS putE; split <;> (try split) <;> first | rfl | omega]
      exact good_of (Tryd.put17_1 d) ⟨(ltF_t (by omega)), (ltF_f (by omega)), trivial⟩
    · rw [show .pl (.tuple #[.string (putS d), .int .i64 (putE d)]) = (.pl (.tuple #[.string (codeAt d), .int .i64 0]) : SV) from by unfold putS putE; split <;> (try split) <;> first | rfl | omega]
      exact good_of (Tryd.put17_2 d) ⟨(refAt_load (by omega) (by omega)), (elem_ok (k := Int.toNat d) (sz := 1) (by kernel_rfl) (by omega) (by omega) (by omega)), (ltF_f (by omega)), (ltF_f (by omega)), trivial⟩
def Tryd.r18 (args : List SV) : Option Value := match args with
  | [.pl (.int .i64 a), .pl (.int .i64 d)] => some (.tuple #[.int .i64 (nextN a d), .int .i64 (nextE a d)])
  | _ => none
def Tryd.a18 : Intr := plainI 18 [] Tryd.r18
theorem Tryd.a18_ok : IntrOk Tryd.prog Tryd.a18 := plainI_ok Tryd.tabOk (noI_ok _) (by kernel_rfl) fun args v h => by
  unfold Tryd.r18 at h
  split at h
  · simp only [Option.some.injEq] at h
    subst h
    exact ⟨⟨[.int .i64 _, .int .i64 _], rfl⟩, Tryd.next18 _ _⟩
  · cases h
def Tryd.r19 (args : List SV) : Option Value := match args with
  | [.pl (.int .i64 a), .pl (.int .i64 d)] => some (.tuple #[.int .i64 (nextN a d), .int .i64 (nextE a d)])
  | _ => none
def Tryd.a19 : Intr := plainI 19 [] Tryd.r19
theorem Tryd.a19_ok : IntrOk Tryd.prog Tryd.a19 := plainI_ok Tryd.tabOk (noI_ok _) (by kernel_rfl) fun args v h => by
  unfold Tryd.r19 at h
  split at h
  · simp only [Option.some.injEq] at h
    subst h
    exact ⟨⟨[.int .i64 _, .int .i64 _], rfl⟩, Tryd.next19 _ _⟩
  · cases h
def Tryd.r20 (args : List SV) : Option Value := match args with
  | [.pl (.int .i64 a)] => some (.tuple #[.int .i64 (rowR a), .int .i64 (rowC a), .int .i64 (rowE a)])
  | _ => none
def Tryd.a20 : Intr := plainI 20 [] Tryd.r20
theorem Tryd.a20_ok : IntrOk Tryd.prog Tryd.a20 := plainI_ok Tryd.tabOk (noI_ok _) (by kernel_rfl) fun args v h => by
  unfold Tryd.r20 at h
  split at h
  · simp only [Option.some.injEq] at h
    subst h
    exact ⟨⟨[.int .i64 _], rfl⟩, Tryd.row20 _⟩
  · cases h
def Tryd.r21 (args : List SV) : Option Value := match args with
  | [.pl (.int .i64 a)] => some (.tuple #[.int .i64 (rowR a), .int .i64 (rowC a), .int .i64 (rowE a)])
  | _ => none
def Tryd.a21 : Intr := plainI 21 [] Tryd.r21
theorem Tryd.a21_ok : IntrOk Tryd.prog Tryd.a21 := plainI_ok Tryd.tabOk (noI_ok _) (by kernel_rfl) fun args v h => by
  unfold Tryd.r21 at h
  split at h
  · simp only [Option.some.injEq] at h
    subst h
    exact ⟨⟨[.int .i64 _], rfl⟩, Tryd.row21 _⟩
  · cases h
def Tryd.r15 (args : List SV) : Option Value := match args with
  | [.pl (.int .i64 d)] => some (.tuple #[.string (putS d), .int .i64 (putE d)])
  | _ => none
def Tryd.a15 : Intr := plainI 15 Tryd.tabs Tryd.r15
theorem Tryd.a15_ok : IntrOk Tryd.prog Tryd.a15 := plainI_ok Tryd.tabOk Tryd.I2_ok (by kernel_rfl) fun args v h => by
  unfold Tryd.r15 at h
  split at h
  · simp only [Option.some.injEq] at h
    subst h
    exact ⟨⟨[.int .i64 _], rfl⟩, Tryd.put15 _⟩
  · cases h
def Tryd.r17 (args : List SV) : Option Value := match args with
  | [.pl (.int .i64 d)] => some (.tuple #[.string (putS d), .int .i64 (putE d)])
  | _ => none
def Tryd.a17 : Intr := plainI 17 Tryd.tabs Tryd.r17
theorem Tryd.a17_ok : IntrOk Tryd.prog Tryd.a17 := plainI_ok Tryd.tabOk Tryd.I2_ok (by kernel_rfl) fun args v h => by
  unfold Tryd.r17 at h
  split at h
  · simp only [Option.some.injEq] at h
    subst h
    exact ⟨⟨[.int .i64 _], rfl⟩, Tryd.put17 _⟩
  · cases h
def Tryd.r14 (args : List SV) : Option Value := match args with
  | [.pl (.int .i64 x), .pl (.int .i64 (.ofNat 33))] => some (.int .i64 (pickN x 33))
  | [.pl (.int .i64 x), .pl (.int .i64 (.ofNat 34))] => some (.int .i64 (pickN x 34))
  | _ => none
def Tryd.a14 : Intr := plainI 14 [] Tryd.r14
theorem Tryd.a14_ok : IntrOk Tryd.prog Tryd.a14 := plainI_ok Tryd.tabOk (noI_ok _) (by kernel_rfl) fun args v h => by
  unfold Tryd.r14 at h
  split at h
  · simp only [Option.some.injEq] at h
    subst h
    exact ⟨⟨[.int .i64 _, .int .i64 33], rfl⟩, Tryd.pick33 _⟩
  · simp only [Option.some.injEq] at h
    subst h
    exact ⟨⟨[.int .i64 _, .int .i64 34], rfl⟩, Tryd.pick34 _⟩
  · cases h
noncomputable def Tryd.I4 : Intr := orI Tryd.I3 (orI Tryd.a18 (orI Tryd.a19 (orI Tryd.a20 (orI Tryd.a21 (orI Tryd.a15 (orI Tryd.a17 Tryd.a14))))))
theorem Tryd.I4_ok : IntrOk Tryd.prog Tryd.I4 := Tryd.I3_ok.or (Tryd.a18_ok.or (Tryd.a19_ok.or (Tryd.a20_ok.or (Tryd.a21_ok.or (Tryd.a15_ok.or (Tryd.a17_ok.or Tryd.a14_ok))))))
theorem Tryd.law5_0 (d a : Int) : finQ [] (callS Tryd.prog Tryd.tab (told Tryd.prog Tryd.I4) 60 5 [.pl (.int .i64 d), .pl (.int .i64 a)] (meA Tryd.tabs [] [.val 7 2 (.pl (.bool true)), .val 7 6 (.pl (.bool true)), .val 7 11 (.pl (.bool true)), .val 7 16 (.pl (.bool true)), .val 7 21 (.pl (.bool true)), .val 7 26 (.pl (.bool true)), .val 7 31 (.pl (.bool true))])) = some (.pl (.bool true), [], (eqF (rowE a) (rowE a) = true ∧ (eqF (rowC a) (rowC a) = true ∧ (eqF (rowR a) (rowR a) = true ∧ (eqF (nextE a d) (nextE a d) = true ∧ (eqF (nextN a d) (nextN a d) = true ∧ (eqF (putE d) (putE d) = true ∧ ((ByteArray.toList (putS d) == ByteArray.toList (putS d)) = true ∧ True)))))))) := by kernel_rfl
theorem Tryd.law5 (d a : Int)  : Sx.Good Tryd.prog Tryd.tab Tryd.I4 5 [.pl (.int .i64 d), .pl (.int .i64 a)] (meA Tryd.tabs []) [] (.pl (.bool true)) [] := by
  rw [show .pl (.bool true) = (.pl (.bool true) : SV) from by simp []]
  exact good_of (Tryd.law5_0 d a) ⟨(eqF_t (by omega)), (eqF_t (by omega)), (eqF_t (by omega)), (eqF_t (by omega)), (eqF_t (by omega)), (eqF_t (by omega)), (bsEq_t (by first | rfl | assumption)), trivial⟩
end Go.Proofs
