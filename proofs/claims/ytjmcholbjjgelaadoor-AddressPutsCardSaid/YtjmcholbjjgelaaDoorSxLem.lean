/- The abstract evaluator: small laws for what runs owe. -/
import Derived.Test.YtjmcholbjjgelaaDoorSxSpec
namespace Go.Sx
set_option linter.unusedVariables false

theorem ltF_t {a b : Int} (h : a < b) : ltF a b = true := by rw [ltF_eq]; simpa using h
theorem ltF_f {a b : Int} (h : ¬ a < b) : ltF a b = false := by rw [ltF_eq]; simpa using h
theorem leF_t {a b : Int} (h : a ≤ b) : leF a b = true := by rw [leF_eq]; simpa using h
theorem leF_f {a b : Int} (h : ¬ a ≤ b) : leF a b = false := by rw [leF_eq]; simpa using h
theorem eqF_t {a b : Int} (h : a = b) : eqF a b = true := by rw [eqF_eq]; simpa using h
theorem eqF_f {a b : Int} (h : ¬ a = b) : eqF a b = false := by rw [eqF_eq]; simpa using h
theorem neF_t {a b : Int} (h : ¬ a = b) : (!eqF a b) = true := by rw [eqF_f h]; rfl
theorem neF_f {a b : Int} (h : a = b) : (!eqF a b) = false := by rw [eqF_t h]; rfl
theorem wrap64_ok {x : Int} (h1 : -9223372036854775808 ≤ x) (h2 : x ≤ 9223372036854775807) : IntKind.wrap .i64 x = x := by
  rw [← wrap64F_eq]
  unfold wrap64F
  split
  · rename_i n
    split
    · rfl
    · rename_i h
      have h3 : ¬ n < 9223372036854775808 := fun hh => by
        have : Nat.blt n 9223372036854775808 = true := by simpa using hh
        rw [this] at h; cases h
      simp only [Int.ofNat_eq_natCast] at h2
      omega
  · rename_i n
    split
    · rfl
    · rename_i h
      have h3 : ¬ n < 9223372036854775808 := fun hh => by
        have : Nat.blt n 9223372036854775808 = true := by simpa using hh
        rw [this] at h; cases h
      omega
theorem wrapF_ok {x : Int} (h1 : -9223372036854775808 ≤ x) (h2 : x ≤ 9223372036854775807) : wrapF .i64 x = x := by rw [wrapF_eq]; exact wrap64_ok h1 h2
theorem wrap_ok {x : Int} (h1 : -9223372036854775808 ≤ x) (h2 : x ≤ 9223372036854775807) : IntKind.wrap .i64 x = x := wrap64_ok h1 h2
theorem elem_ok {T : Tab} {e : TypeId} {sz b off len k o : Nat} {i : Int} (hs : sizeOf? T e = some sz) (hi : i = (k : Int)) (hk : k < len) (ho : off + k * sz = o) : elemAt T e b off len (some i) = some (.ptr b o) := by
  subst hi ho
  have h : idx? (k : Int) len = some k := by
    show (match Nat.blt k len with | true => some k | false => none) = some k
    have : Nat.blt k len = true := by simpa using hk
    rw [this]
  simp only [elemAt, h, hs]
theorem tmod_near (x n : Int) (h : 0 < n) : -n < Int.tmod x n ∧ Int.tmod x n < n := by
  rcases Int.le_total 0 x with h0 | h0
  · rw [Int.tmod_eq_emod_of_nonneg h0]
    have := Int.emod_nonneg x (show n ≠ 0 by omega)
    have := Int.emod_lt_of_pos x h
    omega
  · have e : Int.tmod x n = - Int.tmod (-x) n := by rw [Int.neg_tmod, Int.neg_neg]
    rw [e, Int.tmod_eq_emod_of_nonneg (show 0 ≤ -x by omega)]
    have := Int.emod_nonneg (-x) (show n ≠ 0 by omega)
    have := Int.emod_lt_of_pos (-x) h
    omega
theorem bsList {a b : ByteArray} : ByteArray.toList a = ByteArray.toList b ↔ a = b := by
  rw [ByteArray.toList_eq, ByteArray.toList_eq]
  constructor
  · intro h
    cases a; cases b
    simp at h
    rw [h]
  · rintro rfl; rfl
theorem bsEq_t {a b : ByteArray} (h : a = b) : (ByteArray.toList a == ByteArray.toList b) = true := by subst h; simp
theorem bsEq_f {a b : ByteArray} (h : ¬ a = b) : (ByteArray.toList a == ByteArray.toList b) = false := by
  rw [beq_eq_false_iff_ne]
  exact fun e => h (bsList.1 e)
theorem bsNe_f {a b : ByteArray} (h : a = b) : (!(ByteArray.toList a == ByteArray.toList b)) = false := by rw [bsEq_t h]; rfl
theorem bsNe_t {a b : ByteArray} (h : ¬ a = b) : (!(ByteArray.toList a == ByteArray.toList b)) = true := by rw [bsEq_f h]; rfl
end Go.Sx
