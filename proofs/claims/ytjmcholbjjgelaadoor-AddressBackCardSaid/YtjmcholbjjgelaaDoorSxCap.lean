/- The abstract evaluator: a closed run, done once, answers every later call of that function. -/
import Derived.Test.YtjmcholbjjgelaaDoorSxTop
namespace Go.Sx
noncomputable section
set_option linter.unusedVariables false
open Go.RowKit

/-! ### other numbers for blocks -/
def idxOf (b : Nat) : List Nat → Nat → Option Nat
  | [], _ => none
  | c :: r, i => match Nat.beq b c with
    | true => some i
    | false => idxOf b r (i + 2)
mutual
def renS (bs : List Nat) (nx : Nat) : SV → Option SV
  | .pl v => some (.pl v)
  | .ptr b off => match idxOf b bs nx with | some c => some (.ptr c off) | none => none
  | .sl b off len own => match idxOf b bs nx with | some c => some (.sl c off len own) | none => none
  | .agg cs => match renL bs nx cs with | some l => some (.agg l) | none => none
  | .tup cs => match renL bs nx cs with | some l => some (.tup l) | none => none
  | .fn f cs => match renL bs nx cs with | some l => some (.fn f l) | none => none
  | .bm f cs => match renL bs nx cs with | some l => some (.bm f l) | none => none
  | .any => some .any
  | .yld _ => none
  | .mp b => match idxOf b bs nx with | some c => some (.mp c) | none => none
  | .dat b off len => match idxOf b bs nx with | some c => some (.dat c off len) | none => none
def renL (bs : List Nat) (nx : Nat) : List SV → Option (List SV)
  | [] => some []
  | x :: r => match renS bs nx x with
    | some y => match renL bs nx r with
      | some l => some (y :: l)
      | none => none
    | none => none
end
def renO (bs : List Nat) (nx : Nat) (o : AObj) : Option AObj :=
  match o with
  | .cells cs true el => match renL bs nx cs with
    | some l => some (.cells l true el)
    | none => none
  | .obj o => some (.obj o)
  | _ => none
def renOs (bs : List Nat) (nx : Nat) : List AObj → Option (List AObj)
  | [] => some []
  | o :: r => match renO bs nx o with
    | some o => match renOs bs nx r with
      | some l => some (o :: l)
      | none => none
    | none => none
def objsAt (h : Heap) : List Nat → Option (List AObj)
  | [] => some []
  | b :: r => match h.get b with
    | some o => match objsAt h r with
      | some l => some (o :: l)
      | none => none
    | none => none
def noDup : List Nat → Bool
  | [] => true
  | x :: r => match r.contains x with | true => false | false => noDup r

theorem idxOf_spec : ∀ (bs : List Nat) (b i c : Nat), idxOf b bs i = some c → ∃ k, bs[k]? = some b ∧ c = i + 2 * k
  | [], b, i, c, h => by simp [idxOf] at h
  | x :: r, b, i, c, h => by
    simp only [idxOf] at h
    split at h
    · rename_i he
      rw [nbeq] at he
      have : b = x := by simpa using he
      simp only [Option.some.injEq] at h
      exact ⟨0, by simp [this], by omega⟩
    · obtain ⟨k, h1, h2⟩ := idxOf_spec r b (i + 2) c h
      exact ⟨k + 1, by simpa using h1, by omega⟩

structure Ren (g g' : Gh) (bs : List Nat) (nx : Nat) : Prop where
  has : ∀ (k b : Nat), bs[k]? = some b → g'.has (nx + 2 * k)
  σ : ∀ (k b : Nat), bs[k]? = some b → g'.σ (nx + 2 * k) = g.σ b
  ω : ∀ (k b : Nat), bs[k]? = some b → g'.ω (nx + 2 * k) = g.ω b
  κ : ∀ (k b : Nat), bs[k]? = some b → g'.κ (nx + 2 * k) = g.κ b
  v : ∀ (k b : Nat), bs[k]? = some b → g'.v (nx + 2 * k) = g.v b

mutual
theorem renS_VR {g g' : Gh} {bs : List Nat} {nx : Nat} (hr : Ren g g' bs nx) : ∀ (x y : SV) (v : Value), renS bs nx x = some y → VR g x v → VR g' y v
  | .pl u, y, v, h, hv => by
    simp only [renS, Option.some.injEq] at h
    subst h
    simpa only [VR] using hv
  | .ptr b off, y, v, h, hv => by
    simp only [renS] at h
    split at h
    · rename_i c hc
      simp only [Option.some.injEq] at h
      subst h
      obtain ⟨k, h1, rfl⟩ := idxOf_spec _ _ _ _ hc
      simp only [VR] at hv ⊢
      exact ⟨hr.has k b h1, by rw [hr.σ k b h1, hr.ω k b h1]; exact hv.2⟩
    · cases h
  | .sl b off len own, y, v, h, hv => by
    simp only [renS] at h
    split at h
    · rename_i c hc
      simp only [Option.some.injEq] at h
      subst h
      obtain ⟨k, h1, rfl⟩ := idxOf_spec _ _ _ _ hc
      simp only [VR] at hv ⊢
      refine ⟨hr.has k b h1, ?_⟩
      rw [hr.σ k b h1, hr.ω k b h1]
      rcases hv.2 with ⟨c, h2, h3, h4⟩ | ⟨h0, a, c, h2, h3⟩
      · refine .inl ⟨c, h2, h3, ?_⟩
        cases own with
        | own e =>
          obtain ⟨a1, a2, a0, a3, a4⟩ := h4
          exact ⟨a1, by rw [hr.ω k b h1]; exact a2, by rw [hr.v k b h1]; exact a0, by rw [hr.κ k b h1]; exact a3, a4⟩
        | _ => exact h4
      · refine .inr ⟨h0, a, c, h2, ?_⟩
        cases own with
        | own e =>
          obtain ⟨a1, a2, a3⟩ := h3
          exact ⟨a1, by rw [hr.v k b h1]; exact a2, a3⟩
        | _ => exact h3
    · cases h
  | .agg cs, y, v, h, hv => by
    simp only [renS] at h
    split at h
    · rename_i l hl
      simp only [Option.some.injEq] at h
      subst h
      simp only [VR] at hv ⊢
      obtain ⟨a, h1, h2⟩ := hv
      exact ⟨a, h1, renL_VR hr cs l _ hl h2⟩
    · cases h
  | .tup cs, y, v, h, hv => by
    simp only [renS] at h
    split at h
    · rename_i l hl
      simp only [Option.some.injEq] at h
      subst h
      simp only [VR] at hv ⊢
      obtain ⟨a, h1, h2⟩ := hv
      exact ⟨a, h1, renL_VR hr cs l _ hl h2⟩
    · cases h
  | .fn f cs, y, v, h, hv => by
    simp only [renS] at h
    split at h
    · rename_i l hl
      simp only [Option.some.injEq] at h
      subst h
      simp only [VR] at hv ⊢
      obtain ⟨a, h1, h2⟩ := hv
      exact ⟨a, h1, renL_VR hr cs l _ hl h2⟩
    · cases h
  | .bm f cs, y, v, h, hv => by
    simp only [renS] at h
    split at h
    · rename_i l hl
      simp only [Option.some.injEq] at h
      subst h
      simp only [VR] at hv ⊢
      obtain ⟨a, h1, h2⟩ := hv
      exact ⟨a, h1, renL_VR hr cs l _ hl h2⟩
    · cases h
  | .any, y, v, h, hv => by
    simp only [renS, Option.some.injEq] at h
    subst h
    simp only [VR]
  | .yld b, y, v, h, hv => by simp [renS] at h
  | .mp b, y, v, h, hv => by
    simp only [renS] at h
    split at h
    · rename_i c hc
      simp only [Option.some.injEq] at h
      subst h
      obtain ⟨k, h1, rfl⟩ := idxOf_spec _ _ _ _ hc
      simp only [VR] at hv ⊢
      exact ⟨hr.has k b h1, by rw [hr.σ k b h1]; exact hv.2⟩
    · cases h
  | .dat b off len, y, v, h, hv => by
    simp only [renS] at h
    split at h
    · rename_i c hc
      simp only [Option.some.injEq] at h
      subst h
      obtain ⟨k, h1, rfl⟩ := idxOf_spec _ _ _ _ hc
      simp only [VR] at hv ⊢
      obtain ⟨_, p, h2, h3⟩ := hv
      exact ⟨hr.has k b h1, p, h2, fun hl => by rw [hr.σ k b h1, hr.ω k b h1]; exact h3 hl⟩
    · cases h
theorem renL_VR {g g' : Gh} {bs : List Nat} {nx : Nat} (hr : Ren g g' bs nx) : ∀ (x y : List SV) (v : List Value), renL bs nx x = some y → VRs g x v → VRs g' y v
  | [], y, v, h, hv => by
    simp only [renL, Option.some.injEq] at h
    subst h
    simpa only [VRs] using hv
  | c :: cs, y, v, h, hv => by
    simp only [renL] at h
    split at h
    · rename_i y0 h0
      split at h
      · rename_i l hl
        simp only [Option.some.injEq] at h
        subst h
        simp only [VRs] at hv ⊢
        obtain ⟨u, us, rfl, h2, h3⟩ := hv
        exact ⟨u, us, rfl, renS_VR hr c y0 u h0 h2, renL_VR hr cs l us hl h3⟩
      · cases h
    · cases h
end

theorem renL_at {bs : List Nat} {nx : Nat} : ∀ (x y : List SV), renL bs nx x = some y → ∀ (i : Nat) (sv : SV), y[i]? = some sv → ∃ sv', x[i]? = some sv' ∧ renS bs nx sv' = some sv
  | [], y, h, i, sv, hi => by simp only [renL, Option.some.injEq] at h; subst h; simp at hi
  | c :: cs, y, h, i, sv, hi => by
    simp only [renL] at h
    split at h
    · rename_i y0 h0
      split at h
      · rename_i l hl
        simp only [Option.some.injEq] at h
        subst h
        cases i with
        | zero => simp at hi; subst hi; exact ⟨c, by simp, h0⟩
        | succ i => simpa using renL_at cs l hl i sv (by simpa using hi)
      · cases h
    · cases h
theorem renOs_spec {bs : List Nat} {nx : Nat} : ∀ (l new : List AObj), renOs bs nx l = some new → new.length = l.length ∧ ∀ (k : Nat) (o : AObj), l[k]? = some o → ∃ o', renO bs nx o = some o' ∧ new[k]? = some o'
  | [], new, hn => by simp only [renOs, Option.some.injEq] at hn; subst hn; simp
  | b :: r, new, hn => by
    simp only [renOs] at hn
    split at hn
    · rename_i o ho
      split at hn
      · rename_i l hl
        simp only [Option.some.injEq] at hn
        subst hn
        obtain ⟨h1, h2⟩ := renOs_spec r l hl
        refine ⟨by simp [h1], fun k b' hk => ?_⟩
        cases k with
        | zero =>
          simp at hk
          subst hk
          exact ⟨o, ho, by simp⟩
        | succ k => simpa using h2 k b' (by simpa using hk)
      · cases hn
    · cases hn
theorem renO_OR {g g' : Gh} {bs : List Nat} {nx : Nat} (hr : Ren g g' bs nx) {k b : Nat} (hk : bs[k]? = some b) {o o' : AObj} (h : renO bs nx o = some o') {w : World} (hor : OR g b w o) :
    OR g' (nx + 2 * k) w o' ∧ (o'.live g' (nx + 2 * k) ↔ o.live g b) ∧ (o'.there g' (nx + 2 * k) → o.live g b) := by
  unfold renO at h
  split at h
  · rename_i cs el
    split at h
    · rename_i cs' hcs
      simp only [Option.some.injEq] at h
      subst h
      refine ⟨?_, by simp [AObj.live, hr.v k b hk], by simp [AObj.live, AObj.there, hr.v k b hk]⟩
      rcases hor with ⟨hv, rfl⟩ | ⟨hv, cur, e, fr, hw, hcr, hκ, hwr⟩
      · simp only [renL, Option.some.injEq] at hcs
        exact .inl ⟨by rw [hr.v k b hk]; exact hv, hcs.symm⟩
      · refine .inr ⟨by rw [hr.v k b hk]; exact hv, cur, e, fr, by rw [hr.σ k b hk]; exact hw, fun i x hi => ?_, by rw [hr.κ k b hk]; exact hκ, fun _ => by rw [hr.ω k b hk]; exact hwr rfl⟩
        obtain ⟨x', hx1, hx2⟩ := renL_at cs cs' hcs i x hi
        obtain ⟨u, k1, k2, k3⟩ := hcr i x' hx1
        exact ⟨u, by rw [hr.ω k b hk]; exact k1, renS_VR hr x' x u hx2 k2, k3⟩
    · cases h
  · simp only [Option.some.injEq] at h
    subst h
    refine ⟨?_, by simp [AObj.live], by simp [AObj.live]⟩
    simp only [OR] at hor ⊢
    rw [hr.σ k b hk]; exact hor
  · cases h
theorem objsAt_spec {h : Heap} : ∀ (l : List Nat) (os : List AObj), objsAt h l = some os → os.length = l.length ∧ ∀ (k b : Nat), l[k]? = some b → h.get b = os[k]?
  | [], os, hn => by simp only [objsAt, Option.some.injEq] at hn; subst hn; simp
  | b :: r, os, hn => by
    simp only [objsAt] at hn
    split at hn
    · rename_i o ho
      split at hn
      · rename_i l hl
        simp only [Option.some.injEq] at hn
        subst hn
        obtain ⟨h1, h2⟩ := objsAt_spec r l hl
        refine ⟨by simp [h1], fun k b' hk => ?_⟩
        cases k with
        | zero => simp at hk; subst hk; simpa using ho
        | succ k => simpa using h2 k b' (by simpa using hk)
      · cases hn
    · cases hn
theorem noDup_spec : ∀ (l : List Nat), noDup l = true → ∀ (i j b : Nat), l[i]? = some b → l[j]? = some b → i = j
  | [], h, i, j, b, hi, hj => by simp at hi
  | x :: r, h, i, j, b, hi, hj => by
    simp only [noDup] at h
    split at h
    · cases h
    · rename_i hc
      have hx : x ∉ r := by simpa using hc
      cases i with
      | zero =>
        cases j with
        | zero => rfl
        | succ j =>
          simp at hi hj
          subst hi
          exact absurd (List.mem_of_getElem? hj) hx
      | succ i =>
        cases j with
        | zero =>
          simp at hi hj
          subst hj
          exact absurd (List.mem_of_getElem? hi) hx
        | succ j => rw [noDup_spec r h i j b (by simpa using hi) (by simpa using hj)]

theorem addAll_get : ∀ (l : List AObj) (m : Me) (b : Nat), m.nx % 2 = 0 → (∀ b, m.nx ≤ b → m.h.get b = none) →
    (addAll l m).nx = m.nx + 2 * l.length ∧ (b < m.nx → (addAll l m).h.get b = m.h.get b) ∧ (∀ o, m.nx ≤ b → (addAll l m).h.get b = some o → ∃ k, b = m.nx + 2 * k ∧ l[k]? = some o)
  | [], m, b, he, hn => by
    simp only [addAll]
    exact ⟨by simp, by simp, fun o hb ho => by rw [hn b hb] at ho; cases ho⟩
  | x :: l, m, b, he, hn => by
    simp only [addAll]
    have hN : (m.new x).nx = m.nx + 2 := Me.new_nx m x
    obtain ⟨h1, h2, h3⟩ := addAll_get l (m.new x) b (by rw [hN]; omega) (fun c hc => by
      rw [hN] at hc
      rw [Me.new_h, Tr.get_put, if_neg (by omega)]
      exact hn c (by omega))
    refine ⟨by rw [h1, hN]; simp; omega, fun hb => ?_, fun o hb ho => ?_⟩
    · rw [h2 (by omega), Me.new_h, Tr.get_put, if_neg (by omega)]
    · by_cases hlt : b < (m.new x).nx
      · rw [h2 hlt, Me.new_h, Tr.get_put] at ho
        by_cases e : b = m.nx
        · rw [if_pos e] at ho
          exact ⟨0, by omega, by simpa using ho⟩
        · rw [if_neg e, hn b hb] at ho
          cases ho
      · obtain ⟨k, k1, k2⟩ := h3 o (by omega) ho
        exact ⟨k + 1, by omega, by simpa using k2⟩

/-- What a run that started at other numbers, in the same world, leaves: said in the numbers at hand. -/
theorem carry {g g2 : Gh} {w0 w w' : World} {F : Nat → Prop} {m m2 : Me} {bs : List Nat} {os new : List AObj} {sv sv' : SV} {v : Value} (hm : MRel g w0 F m w) (h2 : MRel g2 w (Old w) m2 w') (hv : VR g2 sv v)
    (hd : noDup bs = true) (hos : objsAt m2.h bs = some os) (hnew : renOs bs m.nx os = some new) (hsv : renS bs m.nx sv = some sv') : Turns g w0 F (addAll new m) sv' v w' := by
  obtain ⟨hlen1, hat1⟩ := renOs_spec os new hnew
  obtain ⟨hlen2, hat2⟩ := objsAt_spec bs os hos
  have hlen : new.length = bs.length := hlen1.trans hlen2
  have hat : ∀ (k b : Nat), bs[k]? = some b → ∃ o o', m2.h.get b = some o ∧ renO bs m.nx o = some o' ∧ new[k]? = some o' := fun k b hk => by
    have hkl : k < os.length := by rw [hlen2]; exact (List.getElem?_eq_some_iff.1 hk).1
    obtain ⟨o', a1, a2⟩ := hat1 k _ (List.getElem?_eq_getElem hkl)
    exact ⟨_, o', by rw [hat2 k b hk, List.getElem?_eq_getElem hkl], a1, a2⟩
  have hdup := noDup_spec bs hd
  have hnone : ∀ b, m.nx ≤ b → m.h.get b = none := fun b hb => by
    cases hg : m.h.get b with
    | none => rfl
    | some o =>
      have := (hm.heap b o hg).1
      rw [Gh.has, hm.n] at this
      omega
  let src : Nat → Nat := fun b => bs.getD ((b - m.nx) / 2) 0
  let g3 : Gh := ⟨fun b => if b < m.nx then g.σ b else g2.σ (src b), fun b => if b < m.nx then g.ω b else g2.ω (src b), fun b => if b < m.nx then g.κ b else g2.κ (src b), fun b => if b < m.nx then g.v b else g2.v (src b), fun b => if b < m.nx then g.ho b else false, m.nx + 2 * bs.length⟩
  have hlt : ∀ b, g.has b → b < m.nx := fun b hb => by have := hb.1; rw [hm.n] at this; exact this
  have hext : Ext g g3 := ⟨⟨by rw [hm.n]; show m.nx ≤ m.nx + 2 * bs.length; omega, fun b hb => by show (if b < m.nx then g.ho b else false) = false; rw [if_pos (hlt b hb)]; exact hb.2,
    fun b hb => if_pos (hlt b hb), fun b hb => if_pos (hlt b hb), fun b hb => if_pos (hlt b hb), fun b hb => if_pos (hlt b hb)⟩, fun b hb hh => by rw [hm.n] at hb; show (if b < m.nx then g.ho b else false) = true; rw [if_pos hb]; exact hh⟩
  have hsrc : ∀ (k b : Nat), bs[k]? = some b → src (m.nx + 2 * k) = b := fun k b hk => by
    show bs.getD ((m.nx + 2 * k - m.nx) / 2) 0 = b
    rw [show (m.nx + 2 * k - m.nx) / 2 = k by omega, List.getD_eq_getElem?_getD, hk]
    rfl
  have hren : Ren g2 g3 bs m.nx := by
    refine ⟨fun k b hk => ?_, fun k b hk => ?_, fun k b hk => ?_, fun k b hk => ?_, fun k b hk => ?_⟩
    · have := (List.getElem?_eq_some_iff.1 hk).1
      exact ⟨by show m.nx + 2 * k < m.nx + 2 * bs.length; omega, by show (if m.nx + 2 * k < m.nx then _ else false) = false; rw [if_neg (by omega)]⟩
    · show (if m.nx + 2 * k < m.nx then _ else _) = _
      rw [if_neg (by omega), hsrc k b hk]
    · show (if m.nx + 2 * k < m.nx then _ else _) = _
      rw [if_neg (by omega), hsrc k b hk]
    · show (if m.nx + 2 * k < m.nx then _ else _) = _
      rw [if_neg (by omega), hsrc k b hk]
    · show (if m.nx + 2 * k < m.nx then _ else _) = _
      rw [if_neg (by omega), hsrc k b hk]
  have hget := fun b => addAll_get new m b hm.even hnone
  -- each block of the new memory
  have parts : ∀ b o, (addAll new m).h.get b = some o → (b < m.nx ∧ m.h.get b = some o) ∨ ∃ k c o1, b = m.nx + 2 * k ∧ bs[k]? = some c ∧ m2.h.get c = some o1 ∧ renO bs m.nx o1 = some o := by
    intro b o ho
    rcases Nat.lt_or_ge b m.nx with hb | hb
    · left
      rw [(hget b).2.1 hb] at ho
      exact ⟨hb, ho⟩
    · right
      obtain ⟨k, rfl, hk⟩ := (hget b).2.2 o hb ho
      have hkl : k < bs.length := by
        have := (List.getElem?_eq_some_iff.1 hk).1
        omega
      obtain ⟨o1, o', a1, a2, a3⟩ := hat k _ (List.getElem?_eq_getElem hkl)
      rw [hk] at a3
      simp only [Option.some.injEq] at a3
      subst a3
      exact ⟨k, _, o1, rfl, List.getElem?_eq_getElem hkl, a1, a2⟩
  have hfresh : ∀ c o, m2.h.get c = some o → o.live g2 c → w.heap.size ≤ g2.σ c := fun c o hc hl => by
    have := h2.frame c _ hc hl
    exact Nat.le_of_not_lt this
  refine ⟨g3, hext, ⟨?_, ?_, fun b o ho => ?_, fun b b' o o' ho hw ho' hth hs => ?_, fun b o ho hw hF => ?_, fun r hr => ?_, h2.os.trans hm.os, h2.tape.trans hm.tape, h2.output.trans hm.output, Nat.le_trans hm.size h2.size, fun i hi => ?_⟩, renS_VR hren sv sv' v hsv hv⟩
  · rw [(hget 0).1, hlen]
  · rw [(hget 0).1]; have := hm.even; omega
  · rcases parts b o ho with ⟨hb, ho'⟩ | ⟨k, c, o1, rfl, hk, hc, hro⟩
    · obtain ⟨h1, h3⟩ := hm.heap b o ho'
      exact ⟨hext.has h1, h3.ext hext h1 fun ht => (h2.keep _ (hm.heap.lt ho' ht)).2⟩
    · exact ⟨hren.has k c hk, (renO_OR hren hk hro (h2.heap c _ hc).2).1⟩
  · rcases parts b o ho with ⟨hb, ho1⟩ | ⟨k, c, o1, rfl, hk, hc, hro⟩
    · have hh1 := (hm.heap b o ho1).1
      rw [AObj.live_ext hext hh1] at hw
      rcases parts b' o' ho' with ⟨hb', ho2⟩ | ⟨k', c', o2, rfl, hk', hc', hro'⟩
      · have hh2 := (hm.heap b' o' ho2).1
        rw [AObj.there_ext hext hh2] at hth
        rw [hext.σ b hh1, hext.σ b' hh2] at hs
        exact hm.inj b b' o o' ho1 hw ho2 hth hs
      · rw [hext.σ b hh1, hren.σ k' c' hk'] at hs
        have h3 := hm.heap.lt ho1 (AObj.live_there hw)
        have h4 := hfresh c' o2 hc' ((renO_OR hren hk' hro' (h2.heap c' _ hc').2).2.2 hth)
        omega
    · have hl1 := (renO_OR hren hk hro (h2.heap c _ hc).2).2.1.1 hw
      rcases parts b' o' ho' with ⟨hb', ho2⟩ | ⟨k', c', o2, rfl, hk', hc', hro'⟩
      · have hh2 := (hm.heap b' o' ho2).1
        rw [AObj.there_ext hext hh2] at hth
        rw [hren.σ k c hk, hext.σ b' hh2] at hs
        have h3 := hm.heap.lt ho2 hth
        have h4 := hfresh c o1 hc hl1
        omega
      · rw [hren.σ k c hk, hren.σ k' c' hk'] at hs
        have hl2 := (renO_OR hren hk' hro' (h2.heap c' _ hc').2).2.2 hth
        have hcc := h2.inj c c' _ _ hc hl1 hc' (AObj.live_there hl2) hs
        subst hcc
        rw [hdup k k' c hk hk']
  · rcases parts b o ho with ⟨hb, ho1⟩ | ⟨k, c, o1, rfl, hk, hc, hro⟩
    · have hh1 := (hm.heap b o ho1).1
      rw [hext.σ b hh1] at hF
      rw [AObj.live_ext hext hh1] at hw
      exact hm.frame b o ho1 hw hF
    · rw [hren.σ k c hk] at hF
      have h3 := hfresh c o1 hc ((renO_OR hren hk hro (h2.heap c _ hc).2).2.1.1 hw)
      have h4 := (hm.keep _ hF).1
      have h5 := hm.size
      omega
  · obtain ⟨h3, h4⟩ := hm.keep r hr
    exact ⟨h3, by rw [(h2.keep r (Nat.lt_of_lt_of_le h3 hm.size)).2, h4]⟩
  · obtain ⟨h3, h4, h5⟩ := hm.glob i hi
    exact ⟨hext.has h3, by rw [hext.σ _ h3, h4], by rw [hext.ω _ h3, h5]⟩

/-! ### tables that must be there -/
def sameInts (k : IntKind) : List SV → List Int → Bool
  | [], l => match l with | [] => true | _ => false
  | x :: r, l => match l with
    | [] => false
    | z :: zs => match x with
      | .pl (.int k' y) => match sameKind k k' && eqF y z with
        | true => sameInts k r zs
        | false => false
      | _ => false
theorem sameInts_spec {k : IntKind} : ∀ (x : List SV) (l : List Int), sameInts k x l = true → x = tabCells k l
  | [], l, h => by
    cases l with
    | nil => rfl
    | cons z zs => simp [sameInts] at h
  | x :: r, l, h => by
    cases l with
    | nil => simp [sameInts] at h
    | cons z zs =>
      simp only [sameInts] at h
      split at h
      · rename_i k' y
        split at h
        · rename_i hk
          rw [Bool.and_eq_true, eqF_eq] at hk
          have h1 := sameKind_eq hk.1
          have h2 : y = z := by simpa using hk.2
          subst h1 h2
          rw [sameInts_spec r zs h]
          rfl
        · cases h
      · cases h
/-- the tables that a run leans on: block, kind, numbers -/
abbrev Tabs := List (Nat × IntKind × List Int)
def hasTabs (h : Heap) : Tabs → Bool
  | [] => true
  | (b, k, zs) :: r => match cellsOf? h b with
    | some cs => match sameInts k cs zs with
      | true => match cs with | [] => false | _ => hasTabs h r
      | false => false
    | none => false
def tabHeap : Tabs → Heap
  | [] => .e
  | (b, k, zs) :: r => (tabHeap r).put b (.cells (tabCells k zs) false 0)
def oddTabs : Tabs → Bool
  | [] => true
  | (b, _, _) :: r => match Nat.beq (Nat.mod b 2) 1 && Nat.blt b 128 with
    | true => oddTabs r
    | false => false

theorem hasTabs_start {g : Gh} {w0 w : World} {F : Nat → Prop} {m : Me} (hm : MRel g w0 F m w) : ∀ (l : Tabs), oddTabs l = true → hasTabs m.h l = true → ∀ b o, (tabHeap l).get b = some o → b % 2 = 1 ∧ b < 128 ∧ ∃ cs el cur e fr, o = .cells cs false el ∧ w.heap[b / 2]? = some (.cells cur e fr) ∧
      ∀ (i : Nat) (sv : SV), cs[i]? = some sv → ∃ v, cur[i]? = some v ∧ sv = .pl v ∧ v.oneCell' = true
  | [], h1, h2, b, o, ho => by simp [tabHeap, Tr.get_e] at ho
  | (c, k, zs) :: r, h1, h2, b, o, ho => by
    simp only [oddTabs] at h1
    split at h1
    · rename_i hc
      rw [Bool.and_eq_true, nbeq] at hc
      have hc1 : c % 2 = 1 := by
        have h := hc.1
        have h' : (c % 2 == 1) = true := h
        simpa using h'
      have hc2 : c < 128 := by simpa using hc.2
      simp only [hasTabs] at h2
      split at h2
      · rename_i cs hcs
        split at h2
        · rename_i hsame
          simp only [tabHeap, Tr.get_put] at ho
          by_cases e : b = c
          · subst e
            rw [if_pos rfl] at ho
            simp only [Option.some.injEq] at ho
            have hcs2 := sameInts_spec _ _ hsame
            subst hcs2
            have hne : tabCells k zs ≠ [] := by
              intro h0
              rw [h0] at h2
              cases h2
            unfold cellsOf? at hcs
            split at hcs
            · rename_i cs' wr el hg
              simp only [Option.some.injEq] at hcs
              subst hcs
              obtain ⟨h3, hor⟩ := hm.heap b _ hg
              obtain ⟨cur, e, fr, hw, hcr, _, _⟩ := hor.real hne
              obtain ⟨g1, g2, g3⟩ := hm.glob (b / 2) (by omega)
              rw [show 2 * (b / 2) + 1 = b by omega] at g1 g2 g3
              refine ⟨hc1, hc2, _, 0, cur, e, fr, ho.symm, by rw [← g2]; exact hw, fun i sv hi => ?_⟩
              obtain ⟨u, k1, k2, k3⟩ := hcr i sv hi
              rw [g3, Nat.zero_add] at k1
              simp only [tabCells, List.getElem?_map] at hi
              cases hz : zs[i]? with
              | none => simp [hz] at hi
              | some z =>
                simp only [hz, Option.map_some, Option.some.injEq] at hi
                subst hi
                simp only [VR] at k2
                exact ⟨u, k1, by rw [k2], k3⟩
            · cases hcs
          · rw [if_neg e] at ho
            exact hasTabs_start hm r h1 (by split at h2 <;> first | exact h2 | cases h2) b o ho
        · cases h2
      · cases h2
    · cases h1

/-- where closed runs start -/
def meOf (l : Tabs) : Me := ⟨tabHeap l, 128, 128, [], []⟩
structure Capsule where
  k : FuncId
  args : List Value
  bs : List Nat
  sv : SV
  os : List AObj
def bytesEq : List UInt8 → List UInt8 → Bool
  | [], l => match l with | [] => true | _ => false
  | x :: r, l => match l with
    | [] => false
    | y :: s => match Nat.beq x.toNat y.toNat with | true => bytesEq r s | false => false
theorem bytesEq_spec : ∀ (a b : List UInt8), bytesEq a b = true → a = b
  | [], b, h => by cases b with | nil => rfl | cons y s => simp [bytesEq] at h
  | x :: r, b, h => by
    cases b with
    | nil => simp [bytesEq] at h
    | cons y s =>
      simp only [bytesEq] at h
      split at h
      · rename_i hxy
        rw [nbeq] at hxy
        have : x = y := UInt8.toNat_inj.1 (by simpa using hxy)
        rw [this, bytesEq_spec r s h]
      · cases h
def sameBytes (a b : ByteArray) : Bool := bytesEq a.data.toList b.data.toList
theorem sameBytes_eq {a b : ByteArray} (h : sameBytes a b = true) : a = b := by
  have := bytesEq_spec _ _ h
  cases a; cases b
  simp only [ByteArray.mk.injEq]
  exact Array.toList_inj.1 this
def sameBool (a b : Bool) : Bool := match a with | true => b | false => !b
theorem sameBool_eq {a b : Bool} (h : sameBool a b = true) : a = b := by cases a <;> cases b <;> simp_all [sameBool]
def natEq0 (n : Nat) : Bool := match n with | 0 => true | _ => false
def valEq (u v : Value) : Bool :=
  match u with
  | .int k a => match v with
    | .int k' b => sameKind k k' && eqF a b
    | _ => false
  | .string a => match v with
    | .string b => sameBytes a b
    | _ => false
  | .bool a => match v with
    | .bool b => sameBool a b
    | _ => false
  | .slice none n c => match v with
    | .slice none n' c' => natEq0 n && natEq0 c && natEq0 n' && natEq0 c'
    | _ => false
  | _ => false
theorem valEq_eq {u v : Value} (h : valEq u v = true) : u = v := by
  unfold valEq at h
  split at h
  · split at h
    · rw [Bool.and_eq_true, eqF_eq] at h
      have h1 := sameKind_eq h.1
      have h2 := h.2
      simp only [beq_iff_eq] at h2
      rw [h1, h2]
    · cases h
  · split at h
    · rw [sameBytes_eq h]
    · cases h
  · split at h
    · rw [sameBool_eq h]
    · cases h
  · split at h
    · rename_i n c _ n' c'
      simp only [Bool.and_eq_true] at h
      have key : ∀ k, natEq0 k = true → k = 0 := fun k hk => by cases k with | zero => rfl | succ k => cases hk
      rw [key _ h.1.1.1, key _ h.1.1.2, key _ h.1.2, key _ h.2]
    · cases h
  · cases h
def valsEq : List Value → List Value → Bool
  | [], l => match l with | [] => true | _ => false
  | x :: r, l => match l with
    | [] => false
    | v :: vs => match valEq x v with | true => valsEq r vs | false => false
theorem valsEq_eq : ∀ (a b : List Value), valsEq a b = true → a = b
  | [], b, h => by cases b with | nil => rfl | cons y s => simp [valsEq] at h
  | x :: r, b, h => by
    cases b with
    | nil => simp [valsEq] at h
    | cons y s =>
      simp only [valsEq] at h
      split at h
      · rename_i hxy
        rw [valEq_eq hxy, valsEq_eq r s h]
      · cases h
def plEq (x : SV) (v : Value) : Bool :=
  match x with
  | .pl u => match u with
    | .agg a => match v with
      | .agg b => valsEq a.toList b.toList
      | _ => false
    | _ => valEq u v
  | _ => false
def argsEq : List SV → List Value → Bool
  | [], l => match l with | [] => true | _ => false
  | x :: r, l => match l with
    | [] => false
    | v :: vs => match plEq x v with | true => argsEq r vs | false => false
theorem argsEq_spec : ∀ (x : List SV) (l : List Value), argsEq x l = true → x = l.map .pl
  | [], l, h => by
    cases l with
    | nil => rfl
    | cons z zs => simp [argsEq] at h
  | x :: r, l, h => by
    cases l with
    | nil => simp [argsEq] at h
    | cons v vs =>
      simp only [argsEq] at h
      split at h
      · rename_i hp
        have := argsEq_spec r vs h
        subst this
        have hx : x = .pl v := by
          unfold plEq at hp
          split at hp
          · split at hp
            · split at hp
              · have := valsEq_eq _ _ hp
                rw [Array.toList_inj.1 this]
              · cases hp
            · rw [valEq_eq hp]
          · cases hp
        rw [hx]
        rfl
      · cases h
def capI (l : Tabs) (c : Capsule) : Intr := ansI fun f args h nx => match Nat.beq f c.k with
  | false => none
  | true => match argsEq args c.args && hasTabs h l with
    | false => none
    | true => match renS c.bs nx c.sv with
      | some sv => match renOs c.bs nx c.os with
        | some new => some (sv, new)
        | none => none
      | none => none

theorem VRs_pl {g : Gh} : ∀ (l : List Value) (vs : List Value), VRs g (l.map .pl) vs → vs = l
  | [], vs, h => by simpa [VRs] using h
  | v :: r, vs, h => by
    simp only [List.map_cons, VRs, VR] at h
    obtain ⟨u, us, rfl, rfl, h⟩ := h
    rw [VRs_pl r us h]

/-- what is kept of a closed run -/
def capFin (bs : List Nat) (x : Option (SV × Me)) : Option (SV × List AObj) :=
  match x with
  | some (sv, m) => match m with
    | ⟨h, _, _, _, vc⟩ => match vc with
      | [] => match objsAt h bs with
        | some os => some (sv, os)
        | none => none
      | _ => none
  | none => none
theorem capFin_spec {bs : List Nat} {x : Option (SV × Me)} {sv : SV} {os : List AObj} (h : capFin bs x = some (sv, os)) : ∃ m', x = some (sv, m') ∧ AllP m'.vc ∧ objsAt m'.h bs = some os := by
  unfold capFin at h
  split at h
  · split at h
    split at h
    · split at h
      · rename_i os' ho
        simp only [Option.some.injEq, Prod.mk.injEq] at h
        obtain ⟨rfl, rfl⟩ := h
        exact ⟨_, rfl, trivial, ho⟩
      · cases h
    · cases h
  · cases h
theorem cap_ok {P : Program} {T : Tab} (hT : TabOk P T ∧ CodesOk T) {I : Intr} (hI : IntrOk P I) {n : Nat} {l : Tabs} {c : Capsule} (hl : oddTabs l = true) (hfin : capFin c.bs (callS P T I n c.k (c.args.map .pl) (meOf l)) = some (c.sv, c.os))
    (hd : noDup c.bs = true) : IntrOk P (capI l c) := ansI_ok fun f args h nx v new e g w0 F m w vs hmh hmn hrel hargs => by
  obtain ⟨m', hrun, hvc, hos⟩ := capFin_spec hfin
  split at e
  · cases e
  · rename_i hf
    rw [nbeq] at hf
    have hf' : f = c.k := by simpa using hf
    subst hf'
    split at e
    · cases e
    · rename_i hcond
      rw [Bool.and_eq_true] at hcond
      split at e
      · rename_i sv hsv
        split at e
        · rename_i new' hnew
          simp only [Option.some.injEq, Prod.mk.injEq] at e
          obtain ⟨rfl, rfl⟩ := e
          subst hmh hmn
          have hae := argsEq_spec _ _ hcond.1
          subst hae
          have hvs := VRs_pl _ _ hargs
          subst hvs
          have hstart := start0 (hasTabs_start hrel l hl hcond.2)
          have h1 := (callS_sound hT.1 hI hT.2 n).sound (.fn c.k) _ _ _ _ hrun hvc (gh0 w) w (Old w) w c.args hstart (VRs.pls _)
          refine LandsF.mono h1 fun v' w' he => ?_
          obtain ⟨g2, _, hm2, hv2⟩ := he
          exact carry hrel hm2 hv2 hd hos hnew hsv
        · cases e
      · cases e

/-- closed runs of one function, for many arguments -/
def firstCap (l : Tabs) (f : FuncId) (args : List SV) (h : Heap) (nx : Nat) : List Capsule → Option (SV × List AObj)
  | [] => none
  | c :: r => match (capI l c).ans f args h nx with
    | some x => some x
    | none => firstCap l f args h nx r
def capsI (l : Tabs) (k : FuncId) (cs : List Capsule) : Intr := ansI fun f args h nx => match Nat.beq f k with
  | false => none
  | true => firstCap l f args h nx cs
theorem capsI_ok {P : Program} {l : Tabs} {k : FuncId} {cs : List Capsule} (h : ∀ c ∈ cs, IntrOk P (capI l c)) : IntrOk P (capsI l k cs) := by
  have : ∀ (ds : List Capsule), (∀ c ∈ ds, IntrOk P (capI l c)) → IntrOk P (ansI fun f args h nx => firstCap l f args h nx ds) := by
    intro ds
    induction ds with
    | nil => exact fun _ => ansI_ok fun f args h nx v new e => by simp [firstCap] at e
    | cons c r ih =>
      intro hd
      refine ansI_ok fun f args h nx v new e => ?_
      simp only [firstCap] at e
      split at e
      · rename_i x hx
        exact (hd c (by simp)).sound f args h nx v new (by rw [hx]; exact e)
      · exact (ih fun c hc => hd c (by simp [hc])).sound f args h nx v new e
  refine ansI_ok fun f args hp nx v new e => ?_
  split at e
  · cases e
  · exact (this cs h).sound f args hp nx v new e

end
end Go.Sx
