/- The abstract evaluator: a region whose order is open. -/
import Derived.Test.YtjmcholbjjgelaaDoorSxFrame
namespace Go.Sx
noncomputable section
set_option linter.unusedVariables false
open Go.RowKit

/-! ### which operations are bound to come first -/
theorem bit_eq (n i : Nat) : bit n i = n.testBit i := by
  unfold bit
  rw [nbeq, Nat.testBit_eq_decide_div_mod_eq]
  show (n >>> i % 2 == 1) = _
  rw [Nat.shiftRight_eq_div_pow]
  rw [Bool.eq_iff_iff]
  simp
theorem bindsAny_eq (e : Edge) : Region.binds .any e = bindsAny e.ground := by
  unfold Region.binds bindsAny
  cases e.ground <;> rfl
theorem befEdges_spec (acc : List Nat) (j : Nat) : ∀ (es : List Edge) (s : Nat), bit (befEdges acc es s) j = true →
    bit s j = true ∨ ∃ e ∈ es, bindsAny e.ground = true ∧ (e.on = j ∨ ∃ x, acc[e.on]? = some x ∧ bit x j = true)
  | [], s, h => .inl h
  | e :: es, s, h => by
    simp only [befEdges] at h
    split at h
    · rename_i hb
      rcases befEdges_spec acc j es _ h with h | ⟨e', he', h⟩
      · rw [bit_eq] at h
        have h' : ((s ||| 2 ^ e.on) ||| (match listAt acc e.on with | some x => x | none => 0)).testBit j = true := h
        rw [Nat.testBit_or, Nat.testBit_or, Bool.or_eq_true, Bool.or_eq_true] at h'
        rcases h' with (h | h) | h
        · exact .inl (by rw [bit_eq]; exact h)
        · rw [Nat.testBit_two_pow] at h
          exact .inr ⟨e, by simp, hb, .inl (by simpa using h)⟩
        · refine .inr ⟨e, by simp, hb, .inr ?_⟩
          rw [listAt_eq] at h
          cases hx : acc[e.on]? with
          | none => rw [hx] at h; simp at h
          | some x => rw [hx] at h; exact ⟨x, rfl, by rw [bit_eq]; exact h⟩
      · exact .inr ⟨e', by simp [he'], h⟩
    · rcases befEdges_spec acc j es _ h with h | ⟨e', he', h⟩
      · exact .inl h
      · exact .inr ⟨e', by simp [he'], h⟩
theorem befs_spec : ∀ (l : List Oper) (acc : List Nat), (befs l acc).length = acc.length + l.length ∧ (∀ i, i < acc.length → (befs l acc)[i]? = acc[i]?) ∧
    ∀ i o, l[i]? = some o → (befs l acc)[acc.length + i]? = some (befEdges ((befs l acc).take (acc.length + i)) o.after.toList 0)
  | [], acc => ⟨by simp [befs], fun _ _ => rfl, fun i o h => by simp at h⟩
  | o :: l, acc => by
    obtain ⟨h1, h2, h3⟩ := befs_spec l (acc ++ [befEdges acc o.after.toList 0])
    simp only [befs]
    refine ⟨by rw [h1]; simp; omega, fun i hi => ?_, fun i o' hi => ?_⟩
    · rw [h2 i (by simp; omega), List.getElem?_append_left hi]
    · cases i with
      | zero =>
        simp only [List.getElem?_cons_zero, Option.some.injEq] at hi
        subst hi
        rw [Nat.add_zero, h2 _ (by simp)]
        have : (befs l (acc ++ [befEdges acc o.after.toList 0])).take acc.length = acc := by
          apply List.ext_getElem?
          intro j
          by_cases hj : j < acc.length
          · rw [List.getElem?_take_of_lt hj, h2 j (by simp; omega), List.getElem?_append_left hj]
          · rw [List.getElem?_eq_none (by simp; omega), List.getElem?_eq_none (by omega)]
        rw [this]
        simp
      | succ i =>
        have := h3 i o' (by simpa using hi)
        have e : (acc ++ [befEdges acc o.after.toList 0]).length + i = acc.length + (i + 1) := by simp; omega
        rw [e] at this
        exact this
theorem befs_at {l : List Oper} {i j : Nat} {o : Oper} (ho : l[i]? = some o) (h : bit ((befs l []).getD i 0) j = true) :
    ∃ e ∈ o.after.toList, bindsAny e.ground = true ∧ (e.on = j ∨ (e.on < i ∧ bit ((befs l []).getD e.on 0) j = true)) := by
  have h3 := (befs_spec l []).2.2 i o ho
  simp only [List.length_nil, Nat.zero_add] at h3
  rw [List.getD_eq_getElem?_getD, h3] at h
  simp only [Option.getD_some] at h
  rcases befEdges_spec _ j _ _ h with h | ⟨e, he, hb, h⟩
  · rw [bit_eq] at h; simp at h
  · refine ⟨e, he, hb, h.imp id ?_⟩
    rintro ⟨x, hx, hbit⟩
    rw [List.getElem?_take] at hx
    split at hx
    · rename_i hlt
      exact ⟨hlt, by rw [List.getD_eq_getElem?_getD, hx]; exact hbit⟩
    · cases hx

/-! ### the check of a region -/
abbrev befOf (ops : Array Oper) (i : Nat) : Nat := (befs ops.toList []).getD i 0
structure DrawOk (ops : Array Oper) : Prop where
  edge : ∀ (i : Nat) (o : Oper), ops[i]? = some o → ∀ e ∈ o.after, bindsAny e.ground = true → e.on < i
  pair : ∀ (i j : Nat) (oi oj : Oper), ops[i]? = some oi → ops[j]? = some oj → j < i → bit (befOf ops i) j = false → oj.apart ops oi = true ∧ (isEff oj.op = true → isEff oi.op = true → isFl oj = true ∨ isFl oi = true)
theorem drawOk_spec {ops : Array Oper} (h : drawOk ops = true) : DrawOk ops := by
  have at' : ∀ (i : Nat) (o : Oper), ops[i]? = some o → drawOkAt ops (befs ops.toList []) i = true := fun i o ho => by
    have hi : i < ops.size := (Array.getElem?_eq_some_iff.1 ho).1
    exact List.all_eq_true.1 h i (by simpa using hi)
  refine ⟨fun i o ho e he hb => ?_, fun i j oi oj hi hj hlt hbit => ?_⟩
  · have := at' i o ho
    simp only [drawOkAt, ho, Bool.and_eq_true] at this
    have := List.all_eq_true.1 this.1 e (by simpa using he)
    rw [hb] at this
    simpa using this
  · have := at' i oi hi
    simp only [drawOkAt, hi, Bool.and_eq_true] at this
    have := List.all_eq_true.1 this.2 j (by simpa using hlt)
    simp only [hj] at this
    have hbit' : bit ((befs ops.toList []).getD i 0) j = false := hbit
    rw [hbit', Bool.false_or, Bool.and_eq_true] at this
    refine ⟨this.1, fun h1 h2 => ?_⟩
    have h3 := this.2
    rw [h1, h2] at h3
    simpa using h3

/-! ### the run in the text's order -/
theorem dynOk_spec {bef : Nat} {rd tn : Option Nat} : ∀ (l : List (Option Nat × Option Nat)) (j : Nat), dynOk bef rd tn l j = true →
    ∀ k x, l[k]? = some x → bit bef (j + k) = false → clash rd x.2 = false ∧ clash x.1 tn = false
  | [], j, h, k, x, hx, hb => by simp at hx
  | (rd', tn') :: l, j, h, k, x, hx, hb => by
    simp only [dynOk] at h
    cases k with
    | zero =>
      simp only [List.getElem?_cons_zero, Option.some.injEq] at hx
      subst hx
      rw [Nat.add_zero] at hb
      rw [hb] at h
      simp only at h
      split at h
      · cases h
      · rename_i hc
        simpa using hc
    | succ k =>
      have hx' : l[k]? = some x := by simpa using hx
      have hb' : bit bef (j + 1 + k) = false := by rw [← hb]; congr 1; omega
      split at h
      · exact dynOk_spec l (j + 1) h k x hx' hb'
      · split at h
        · cases h
        · exact dynOk_spec l (j + 1) h k x hx' hb'

structure Run (P : Program) (T : Tab) (cf : CallF) (r : Nat) (ops : List Oper) (fl : List Flt) (FF : Nat → Fra) (MM : Nat → Me) (VV : Nat → SV) (RT : Nat → Option Nat × Option Nat) (i j : Nat) (o : Oper) (b : Nat) : Prop where
  rt : RT j = (readOf (evO (FF j)) o, turnOf (evO (FF j)) o)
  step : evD P T cf r ops fl b j o (FF j) (MM j) = some (VV j, MM (j + 1))
  put : (FF j).put o.dst (VV j) = some (FF (j + 1))
  dyn : ∀ k, k < j → bit b k = false → clash (RT j).1 (RT k).2 = false ∧ clash (RT k).1 (RT j).2 = false
  rd : rdLt (RT j).1 (MM j).nx = true

theorem evOpsD_run {P : Program} {T : Tab} {cf : CallF} {r : Nat} {ops : List Oper} {fl : List Flt} : ∀ (rest : List Oper) (bs : List Nat) (i : Nat) (acc : List (Option Nat × Option Nat)) (s s' : St),
    evOpsD1 P T cf r ops fl rest bs i acc s = some s' → acc.length = i →
    ∃ (FF : Nat → Fra) (MM : Nat → Me) (VV : Nat → SV) (RT : Nat → Option Nat × Option Nat), FF i = s.f ∧ MM i = s.m ∧ FF (i + rest.length) = s'.f ∧ MM (i + rest.length) = s'.m ∧
      (∀ k, k < i → acc[k]? = some (RT k)) ∧ ∀ j o, rest[j]? = some o → ∃ b, bs[j]? = some b ∧ Run P T cf r ops fl FF MM VV RT i (i + j) o b
  | [], bs, i, acc, s, s', h, hacc => by
    simp only [evOpsD1, Option.some.injEq] at h
    subst h
    refine ⟨fun _ => s.f, fun _ => s.m, fun _ => undefS, fun k => acc.getD k (none, none), rfl, rfl, rfl, rfl, fun k hk => ?_, fun j o ho => by simp at ho⟩
    show acc[k]? = some (acc.getD k (none, none))
    rw [List.getD_eq_getElem?_getD, List.getElem?_eq_getElem (by omega)]
    rfl
  | o :: rest, bs, i, acc, s, s', h, hacc => by
    obtain ⟨f, m⟩ := s
    simp only [evOpsD1] at h
    split at h
    · cases h
    · rename_i b bs
      split at h
      · cases h
      · rename_i hd
        rw [Bool.and_eq_true] at hd
        split at h
        · rename_i s1 h1
          obtain ⟨v, m1, f1, hg, hp, rfl⟩ := putMe_spec h1
          obtain ⟨FF, MM, VV, RT, hF, hM, hF', hM', hacc', hrun⟩ := evOpsD_run rest bs (i + 1) _ _ s' h (by simp [hacc])
          have hRi : RT i = (readOf (evO f) o, turnOf (evO f) o) := by
            have := hacc' i (by omega)
            rw [List.getElem?_append_right (by omega)] at this
            simpa [hacc] using this.symm
          have hRk : ∀ k, k < i → acc[k]? = some (RT k) := fun k hk => by
            have := hacc' k (by omega)
            rwa [List.getElem?_append_left (by omega)] at this
          have ne : ∀ j, i + 1 ≤ j → ¬ j = i := fun j hj => by omega
          refine ⟨fun j => if j = i then f else FF j, fun j => if j = i then m else MM j, fun j => if j = i then v else VV j, RT, by simp, by simp, ?_, ?_, hRk, fun j o' ho' => ?_⟩
          · simp only [List.length_cons]
            rw [if_neg (by omega), ← hF']
            congr 1; omega
          · simp only [List.length_cons]
            rw [if_neg (by omega), ← hM']
            congr 1; omega
          · cases j with
            | zero =>
              simp only [List.getElem?_cons_zero, Option.some.injEq] at ho'
              subst ho'
              refine ⟨b, by simp, ?_, ?_, ?_, fun k hk hbit => ?_, ?_⟩
              · simpa using hRi
              · simp only [Nat.add_zero, if_pos, if_neg (ne (i + 1) (Nat.le_refl _))]
                rw [hM]; exact hg
              · simp only [Nat.add_zero, if_pos, if_neg (ne (i + 1) (Nat.le_refl _))]
                rw [hF]; exact hp
              · simp only [Nat.add_zero] at hk ⊢
                have := dynOk_spec acc 0 hd.1 k _ (hRk k hk) (by rw [Nat.zero_add]; exact hbit)
                rw [hRi]
                exact this
              · simp only [Nat.add_zero, if_pos]
                rw [hRi]
                exact hd.2
            | succ j =>
              obtain ⟨b', hb', hr⟩ := hrun j o' (by simpa using ho')
              have e : i + 1 + j = i + (j + 1) := by omega
              rw [e] at hr
              refine ⟨b', by simpa using hb', ?_, ?_, ?_, hr.dyn, ?_⟩
              · simp only [if_neg (ne (i + (j + 1)) (by omega))]; exact hr.rt
              · simp only [if_neg (ne (i + (j + 1)) (by omega)), if_neg (ne (i + (j + 1) + 1) (by omega))]; exact hr.step
              · simp only [if_neg (ne (i + (j + 1)) (by omega)), if_neg (ne (i + (j + 1) + 1) (by omega))]; exact hr.put
              · simp only [if_neg (ne (i + (j + 1)) (by omega))]; exact hr.rd
        · cases h

end
end Go.Sx
