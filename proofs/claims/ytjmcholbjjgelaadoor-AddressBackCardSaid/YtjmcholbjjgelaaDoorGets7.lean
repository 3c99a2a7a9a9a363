/- Which difference any bits begin with: the program's way and the reference's come to the same, in plain lists. -/
import Derived.Test.YtjmcholbjjgelaaDoorGets6
namespace Go.Proofs
open Go.Sx Go.RowKit
set_option linter.unusedVariables false
set_option maxRecDepth 100000
theorem agr_prefix {c t : List UInt8} : agr c t ∧ c.length ≤ t.length ↔ c <+: t := by
  rw [agr_iff, prefix_take]
  constructor
  · rintro ⟨h, hl⟩
    refine ⟨hl, ?_⟩
    rw [← h, List.take_of_length_le hl]
  · rintro ⟨hl, h⟩
    refine ⟨?_, hl⟩
    rw [h, List.take_of_length_le hl]
theorem agr_comm {c t : List UInt8} : agr c t ↔ agr t c := by
  constructor <;> exact fun h j h1 h2 => (h j h2 h1).symm
def longer (t : List UInt8) (C : List (List UInt8)) : Bool := C.any fun c => decide (agr c t) && !decide (c.length ≤ t.length)
theorem scan_first (t : List UInt8) : ∀ (C : List (List UInt8)) (k : Nat) (more : Bool), scan t C k more = match first t C k with
    | some x => .inl x
    | none => .inr (more || longer t C)
  | [], k, more => by simp [scan, first, longer]
  | c :: r, k, more => by
    simp only [scan, first]
    by_cases ha : agr c t
    · rw [if_pos ha]
      by_cases hl : c.length ≤ t.length
      · rw [if_pos hl, if_pos (agr_prefix.1 ⟨ha, hl⟩)]
      · rw [if_neg hl, if_neg (fun hp => hl (agr_prefix.2 hp).2), scan_first t r (k + 1) true]
        cases first t r (k + 1) <;> simp [longer, ha, hl]
    · rw [if_neg ha, if_neg (fun hp => ha (agr_prefix.2 hp).1), scan_first t r (k + 1) more]
      cases first t r (k + 1) <;> simp [longer, ha]
theorem pre_take {c s : List UInt8} {n : Nat} (h : c.length ≤ n) : c <+: s.take n ↔ c <+: s := by
  constructor
  · exact fun hp => hp.trans (List.take_prefix _ _)
  · intro hp
    rw [prefix_take] at hp ⊢
    refine ⟨by rw [List.length_take]; omega, ?_⟩
    rw [List.take_take, Nat.min_eq_left h]
    exact hp.2
theorem first_take {s : List UInt8} {n : Nat} : ∀ (C : List (List UInt8)) (k : Nat), (∀ c ∈ C, c.length ≤ n) → first (s.take n) C k = first s C k
  | [], k, _ => rfl
  | c :: r, k, h => by
    simp only [first]
    rw [first_take r (k + 1) fun c hc => h c (List.mem_cons_of_mem _ hc)]
    have := pre_take (s := s) (h c List.mem_cons_self)
    by_cases hp : c <+: s
    · rw [if_pos hp, if_pos (this.2 hp)]
    · rw [if_neg hp, if_neg (fun h => hp (this.1 h))]
theorem first_none {s : List UInt8} : ∀ {C : List (List UInt8)} {k : Nat}, first s C k = none → ∀ c ∈ C, ¬ c <+: s
  | [], k, _, c, hc => by cases hc
  | d :: r, k, h, c, hc => by
    simp only [first] at h
    by_cases hp : d <+: s
    · rw [if_pos hp] at h; cases h
    · rw [if_neg hp] at h
      rcases List.mem_cons.1 hc with rfl | hc
      · exact hp
      · exact first_none h c hc
theorem none_first {s : List UInt8} : ∀ {C : List (List UInt8)} {k : Nat}, (∀ c ∈ C, ¬ c <+: s) → first s C k = none
  | [], k, _ => rfl
  | d :: r, k, h => by
    simp only [first]
    rw [if_neg (h d List.mem_cons_self)]
    exact none_first fun c hc => h c (List.mem_cons_of_mem _ hc)
theorem first_append (s : List UInt8) (z : List UInt8) : ∀ (C : List (List UInt8)) (k : Nat), first s (C ++ [z]) k = match first s C k with
    | some x => some x
    | none => if z <+: s then some (k + C.length, z.length) else none
  | [], k => by simp [first]
  | c :: r, k => by
    simp only [List.cons_append, first]
    by_cases hp : c <+: s
    · rw [if_pos hp, if_pos hp]
    · rw [if_neg hp, if_neg hp, first_append s z r (k + 1)]
      cases first s r (k + 1) with
      | some x => rfl
      | none => simp only [List.length_cons]; rw [show k + 1 + r.length = k + (r.length + 1) by omega]
theorem first_bound {s : List UInt8} : ∀ {C : List (List UInt8)} {k : Nat} {x : Nat × Nat}, first s C k = some x → k ≤ x.1 ∧ x.1 < k + C.length
  | [], k, x, h => by cases h
  | c :: r, k, x, h => by
    simp only [first] at h
    by_cases hp : c <+: s
    · rw [if_pos hp] at h
      simp only [Option.some.injEq] at h
      subst h
      simp
    · rw [if_neg hp] at h
      have := first_bound h
      simp only [List.length_cons]
      omega
theorem Tryd.L35_eq : Tryd.L35 = Tryd.codesL ++ [zeros15] := rfl
theorem Tryd.codes_not_zeros : ∀ c ∈ Tryd.codesL, ¬ c <+: zeros15 ∧ ¬ zeros15 <+: c := by
  intro c hc
  obtain ⟨k, hk, rfl⟩ := List.mem_iff_getElem.1 hc
  have h34 := Tryd.codesL_34
  have e1 : Tryd.L35.getD k [] = Tryd.codesL[k] := by
    rw [Tryd.L35_eq, List.getD_eq_getElem?_getD, List.getElem?_append_left hk, List.getElem?_eq_getElem hk]; rfl
  have e2 : Tryd.L35.getD 34 [] = zeros15 := by
    rw [Tryd.L35_eq, List.getD_eq_getElem?_getD, List.getElem?_append_right (by omega), h34]; rfl
  have p1 := Tryd.L35_pre 34 k (by rw [Tryd.L35_len]; omega) (by rw [Tryd.L35_len]; omega) (by omega)
  have p2 := Tryd.L35_pre k 34 (by rw [Tryd.L35_len]; omega) (by rw [Tryd.L35_len]; omega) (by omega)
  rw [e1, e2] at p1 p2
  exact ⟨p1, p2⟩
theorem Tryd.codes15 : ∀ c ∈ Tryd.codesL, c.length ≤ 15 := fun c hc => (Tryd.L35_codes c (by rw [Tryd.L35_eq]; simp [hc])).2
theorem Z35_at {k : Nat} (h : k < 35) : Tryd.Z35.getD k 0 = (k : Int) := by
  have hh : ((List.range 35).all fun k => Tryd.Z35.getD k 0 == (k : Int)) = true := by decide
  rw [List.all_eq_true] at hh
  simpa using hh k (List.mem_range.2 h)
theorem gets_same (s : List UInt8) : getR (s.take 15) = ref34 (treeR Tryd.L35 Tryd.Z35 s) := by
  have hft := first_take (s := s) Tryd.codesL 0 Tryd.codes15
  have hz15 : zeros15.length = 15 := rfl
  unfold getR treeR
  rw [Tryd.L35_eq, first_append]
  by_cases hz : s.take 15 = zeros15
  · rw [if_pos hz]
    have hzs : zeros15 <+: s := by rw [← hz]; exact List.take_prefix _ _
    have hn : first s Tryd.codesL 0 = none := none_first fun c hc hp => by
      obtain ⟨n1, n2⟩ := Tryd.codes_not_zeros c hc
      rcases List.prefix_or_prefix_of_prefix hp hzs with h | h
      · exact n1 h
      · exact n2 h
    rw [hn]
    simp only [if_pos hzs]
    rw [Tryd.codesL_34, Z35_at (by omega)]
    rfl
  · rw [if_neg hz, scan_first, hft]
    have hzs : ¬ zeros15 <+: s := fun h => hz (by have := (prefix_take.1 h).2; rwa [hz15] at this)
    cases hf : first s Tryd.codesL 0 with
    | some x =>
      have hb := first_bound hf
      rw [Tryd.codesL_34] at hb
      simp only
      rw [Z35_at (by omega)]
      unfold ref34
      rw [if_neg (by show ¬ ((x.1 : Int) = 34); omega)]
    | none =>
      simp only [if_neg hzs]
      have hno := first_none hf
      have key : (decide (s.take 15 <+: zeros15) || longer (s.take 15) Tryd.codesL) = anyOf s (Tryd.codesL ++ [zeros15]) := by
        by_cases hl : s.length ≤ 15
        · rw [List.take_of_length_le hl]
          unfold anyOf longer
          rw [List.any_append, Bool.or_comm]
          congr 1
          · rw [Bool.eq_iff_iff, List.any_eq_true, List.any_eq_true]
            constructor
            · rintro ⟨c, hc, h⟩
              rw [Bool.and_eq_true, decide_eq_true_eq] at h
              refine ⟨c, hc, ?_⟩
              rw [decide_eq_true_eq, ← agr_prefix, agr_comm]
              have := h.2
              simp only [Bool.not_eq_true', decide_eq_false_iff_not] at this
              exact ⟨h.1, by omega⟩
            · rintro ⟨c, hc, h⟩
              rw [decide_eq_true_eq, ← agr_prefix, agr_comm] at h
              refine ⟨c, hc, ?_⟩
              rw [Bool.and_eq_true, decide_eq_true_eq]
              refine ⟨h.1, ?_⟩
              simp only [Bool.not_eq_true', decide_eq_false_iff_not]
              intro hle
              exact hno c hc (agr_prefix.1 ⟨h.1, hle⟩)
          · simp
        · have hlt : (s.take 15).length = 15 := by rw [List.length_take]; omega
          have e1 : anyOf s (Tryd.codesL ++ [zeros15]) = false := by
            rw [← Bool.not_eq_true]
            unfold anyOf
            rw [List.any_eq_true]
            rintro ⟨c, hc, h⟩
            rw [decide_eq_true_eq] at h
            have h1 := (prefix_take.1 h).1
            rcases List.mem_append.1 hc with hc | hc
            · have := Tryd.codes15 c hc; omega
            · simp only [List.mem_singleton] at hc; subst hc; omega
          have e2 : decide (s.take 15 <+: zeros15) = false := decide_eq_false fun h => hz (by
            have h2 := (prefix_take.1 h).2
            rw [hlt, ← hz15, List.take_length] at h2
            exact h2.symm)
          have e3 : longer (s.take 15) Tryd.codesL = false := by
            rw [← Bool.not_eq_true]
            unfold longer
            rw [List.any_eq_true]
            rintro ⟨c, hc, h⟩
            rw [Bool.and_eq_true] at h
            have h2 := h.2
            simp only [Bool.not_eq_true', decide_eq_false_iff_not] at h2
            have := Tryd.codes15 c hc
            omega
          rw [e1, e2, e3]
          rfl
      rw [key]
      cases anyOf s (Tryd.codesL ++ [zeros15]) <;> rfl
end Go.Proofs
