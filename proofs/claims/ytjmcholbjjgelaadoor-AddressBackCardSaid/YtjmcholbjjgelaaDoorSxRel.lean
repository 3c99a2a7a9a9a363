/- The abstract evaluator: what an abstract state says of a real one, and how the relation is handed on. -/
import Derived.Test.YtjmcholbjjgelaaDoorSxDef
import Derived.Orders
import Derived.OrdersIn
import Derived.Laws.CopyRow
import Derived.Laws.Cells
import Derived.Laws.AppendOwn
import Derived.Maps.AppendAt
import Derived.Below
import Derived.WalkKit
namespace Go.Sx
noncomputable section
set_option linter.unusedVariables false

/-! ### stores -/
theorem nbeq (a b : Nat) : Nat.beq a b = (a == b) := by rw [Bool.eq_iff_iff]; simp
theorem brec {α : Type} (b : Bool) (x y : α) : (Bool.rec x y b : α) = match b with | true => y | false => x := by cases b <;> rfl
theorem Tr.get_n {α : Type} (l : Tr α) (v : Option α) (r : Tr α) (j : Nat) : (Tr.n l v r).get j = if j = 0 then v else if j % 2 = 1 then l.get (j / 2) else r.get ((j - 1) / 2) := by
  show (Bool.rec (Bool.rec (r.get ((j - 1) / 2)) (l.get (j / 2)) (Nat.beq (j % 2) 1)) v (Nat.beq j 0) : Option α) = _
  rw [nbeq, nbeq]
  by_cases h : j = 0
  · subst h; rfl
  · have h1 : (j == 0) = false := by simpa using h
    rw [h1, if_neg h]
    by_cases h2 : j % 2 = 1
    · have h3 : (j % 2 == 1) = true := by simpa using h2
      rw [h3, if_pos h2]
    · have h3 : (j % 2 == 1) = false := by simpa using h2
      rw [h3, if_neg h2]
theorem Tr.get_e {α : Type} (j : Nat) : (Tr.e : Tr α).get j = none := rfl
theorem Tr.set_e {α : Type} (fuel : Nat) (i : Nat) (x : Option α) : Tr.set (fuel + 1) .e i x =
    if i = 0 then .n .e x .e else if i % 2 = 1 then .n (Tr.set fuel .e (i / 2) x) none .e else .n .e none (Tr.set fuel .e ((i - 1) / 2) x) := by
  show (Bool.rec (Bool.rec (.n .e none (Tr.set fuel .e ((i - 1) / 2) x)) (.n (Tr.set fuel .e (i / 2) x) none .e) (Nat.beq (i % 2) 1)) (.n .e x .e) (Nat.beq i 0) : Tr α) = _
  rw [nbeq, nbeq]
  by_cases h : i = 0
  · subst h; rfl
  · have h1 : (i == 0) = false := by simpa using h
    rw [h1, if_neg h]
    by_cases h2 : i % 2 = 1
    · have h3 : (i % 2 == 1) = true := by simpa using h2
      rw [h3, if_pos h2]
    · have h3 : (i % 2 == 1) = false := by simpa using h2
      rw [h3, if_neg h2]
theorem Tr.set_n {α : Type} (fuel : Nat) (l : Tr α) (v : Option α) (r : Tr α) (i : Nat) (x : Option α) : Tr.set (fuel + 1) (.n l v r) i x =
    if i = 0 then .n l x r else if i % 2 = 1 then .n (Tr.set fuel l (i / 2) x) v r else .n l v (Tr.set fuel r ((i - 1) / 2) x) := by
  show (Bool.rec (Bool.rec (.n l v (Tr.set fuel r ((i - 1) / 2) x)) (.n (Tr.set fuel l (i / 2) x) v r) (Nat.beq (i % 2) 1)) (.n l x r) (Nat.beq i 0) : Tr α) = _
  rw [nbeq, nbeq]
  by_cases h : i = 0
  · subst h; rfl
  · have h1 : (i == 0) = false := by simpa using h
    rw [h1, if_neg h]
    by_cases h2 : i % 2 = 1
    · have h3 : (i % 2 == 1) = true := by simpa using h2
      rw [h3, if_pos h2]
    · have h3 : (i % 2 == 1) = false := by simpa using h2
      rw [h3, if_neg h2]

theorem Tr.get_set {α : Type} (x : Option α) : ∀ (fuel : Nat) (t : Tr α) (i j : Nat), i < 2 ^ fuel - 1 → (Tr.set fuel t i x).get j = if j = i then x else t.get j := by
  intro fuel
  induction fuel with
  | zero => intro t i j h; simp at h
  | succ fuel ih =>
    intro t i j h
    have hp : 2 ^ (fuel + 1) = 2 * 2 ^ fuel := by rw [Nat.pow_succ]; omega
    have key : ∀ (l : Tr α) (v : Option α) (r : Tr α), (if i = 0 then Tr.n l x r else if i % 2 = 1 then Tr.n (Tr.set fuel l (i / 2) x) v r else Tr.n l v (Tr.set fuel r ((i - 1) / 2) x)).get j =
        if j = i then x else (Tr.n l v r).get j := by
      intro l v r
      by_cases h0 : i = 0
      · subst h0
        rw [if_pos rfl]
        simp only [Tr.get_n]
        by_cases hj : j = 0
        · simp [hj]
        · simp [hj]
      · rw [if_neg h0]
        by_cases h1 : i % 2 = 1
        · rw [if_pos h1]
          simp only [Tr.get_n]
          by_cases hj : j = 0
          · rw [if_pos hj, if_neg (by omega), if_pos hj]
          · rw [if_neg hj, if_neg hj]
            by_cases hj1 : j % 2 = 1
            · rw [if_pos hj1, if_pos hj1, ih l (i / 2) (j / 2) (by omega)]
              by_cases e : j = i
              · simp [e]
              · rw [if_neg e, if_neg (by omega)]
            · rw [if_neg hj1, if_neg hj1, if_neg (by omega)]
        · rw [if_neg h1]
          simp only [Tr.get_n]
          by_cases hj : j = 0
          · rw [if_pos hj, if_neg (by omega), if_pos hj]
          · rw [if_neg hj, if_neg hj]
            by_cases hj1 : j % 2 = 1
            · rw [if_pos hj1, if_pos hj1, if_neg (by omega)]
            · rw [if_neg hj1, if_neg hj1, ih r ((i - 1) / 2) ((j - 1) / 2) (by omega)]
              by_cases e : j = i
              · simp [e]
              · rw [if_neg e, if_neg (by omega)]
    cases t with
    | e =>
      rw [Tr.set_e, key .e none .e]
      by_cases e : j = i
      · simp [e]
      · rw [if_neg e, if_neg e, Tr.get_n, Tr.get_e]
        split
        · rfl
        · split <;> rfl
    | n l v r => rw [Tr.set_n, key l v r]

theorem pow_gt (i : Nat) : i < 2 ^ (i + 1) - 1 := by
  induction i with
  | zero => decide
  | succ n ih => rw [Nat.pow_succ]; omega
theorem Tr.get_put {α : Type} (t : Tr α) (i j : Nat) (x : α) : (t.put i x).get j = if j = i then some x else t.get j := Tr.get_set _ _ _ _ _ (pow_gt i)
theorem Tr.get_del {α : Type} (t : Tr α) (i j : Nat) : (t.del i).get j = if j = i then none else t.get j := Tr.get_set _ _ _ _ _ (pow_gt i)
theorem Tr.get_ofList {α : Type} : ∀ (l : List α) (i : Nat) (t : Tr α) (j : Nat), (Tr.ofList l i t).get j = if i ≤ j ∧ j < i + l.length then l[j - i]? else t.get j
  | [], i, t, j => by simp only [Tr.ofList]; rw [if_neg (by simp)]
  | x :: r, i, t, j => by
    simp only [Tr.ofList]
    rw [Tr.get_ofList r (i + 1) (t.put i x) j, Tr.get_put]
    by_cases h : j = i
    · subst h
      rw [if_neg (by omega), if_pos rfl, if_pos (by simp)]
      simp
    · by_cases h2 : i + 1 ≤ j ∧ j < i + 1 + r.length
      · rw [if_pos h2, if_pos (by simp; omega)]
        have : j - i = (j - (i + 1)) + 1 := by omega
        rw [this]; simp
      · rw [if_neg h2, if_neg h, if_neg (by simp; omega)]

theorem listAt_eq {α : Type} : ∀ (l : List α) (n : Nat), listAt l n = l[n]?
  | [], n => rfl
  | x :: r, n => by
    cases n with
    | zero => rfl
    | succ n => exact (listAt_eq r n).trans (by simp)

/-! ### the relation -/
structure Gh where
  σ : Nat → Nat
  ω : Nat → Nat
  κ : Nat → Nat
  /-- nothing is there -/
  v : Nat → Bool
  /-- numbers that nobody has yet -/
  ho : Nat → Bool
  n : Nat

def Gh.has (g : Gh) (b : Nat) : Prop := b < g.n ∧ g.ho b = false
structure Ext0 (g g' : Gh) : Prop where
  n : g.n ≤ g'.n
  ho : ∀ b, g.has b → g'.ho b = false
  σ : ∀ b, g.has b → g'.σ b = g.σ b
  ω : ∀ b, g.has b → g'.ω b = g.ω b
  κ : ∀ b, g.has b → g'.κ b = g.κ b
  v : ∀ b, g.has b → g'.v b = g.v b
/-- letters that go on; what nobody had nobody has -/
structure Ext (g g' : Gh) : Prop extends Ext0 g g' where
  hole : ∀ b, b < g.n → g.ho b = true → g'.ho b = true
theorem Ext.refl (g : Gh) : Ext g g := ⟨⟨Nat.le_refl _, fun _ h => h.2, fun _ _ => rfl, fun _ _ => rfl, fun _ _ => rfl, fun _ _ => rfl⟩, fun _ _ h => h⟩
theorem Ext0.has {g g' : Gh} (h : Ext0 g g') {b : Nat} (hb : g.has b) : g'.has b := ⟨Nat.lt_of_lt_of_le hb.1 h.n, h.ho b hb⟩
theorem Ext.has {g g' : Gh} (h : Ext g g') {b : Nat} (hb : g.has b) : g'.has b := h.toExt0.has hb
theorem Ext0.trans {a b c : Gh} (h : Ext0 a b) (k : Ext0 b c) : Ext0 a c :=
  ⟨Nat.le_trans h.n k.n, fun x hx => k.ho x (h.has hx), fun x hx => (k.σ x (h.has hx)).trans (h.σ x hx), fun x hx => (k.ω x (h.has hx)).trans (h.ω x hx), fun x hx => (k.κ x (h.has hx)).trans (h.κ x hx), fun x hx => (k.v x (h.has hx)).trans (h.v x hx)⟩
theorem Ext.trans {a b c : Gh} (h : Ext a b) (k : Ext b c) : Ext a c :=
  ⟨h.toExt0.trans k.toExt0, fun x hx hh => k.hole x (Nat.lt_of_lt_of_le hx h.n) (h.hole x hx hh)⟩

def ownOk (g : Gh) (b off c : Nat) : Ow → Prop
  | .no => True
  | .own e => off = 0 ∧ g.ω b = 0 ∧ g.v b = false ∧ c * e = g.κ b ∧ c ≤ maxLen
  | .room k => k ≤ c
  | .cap c' => c = c'
/-- a slice of no elements, wherever it is -/
def looseOk (g : Gh) (b off : Nat) (a : Option Addr) (c : Nat) : Ow → Prop
  | .no => True
  | .own _ => off = 0 ∧ g.v b = true ∧ a = none ∧ c = 0
  | .room k => k = 0
  | .cap _ => False

mutual
def VR (g : Gh) : SV → Value → Prop
  | .pl x, v => v = x
  | .ptr b off, v => g.has b ∧ v = .pointer (some ⟨g.σ b, g.ω b + off, none⟩)
  | .sl b off len own, v => g.has b ∧ ((∃ c, v = .slice (some ⟨g.σ b, g.ω b + off, none⟩) len c ∧ len ≤ c ∧ ownOk g b off c own) ∨ (len = 0 ∧ ∃ a c, v = .slice a 0 c ∧ looseOk g b off a c own))
  | .agg cs, v => ∃ a, v = .agg a ∧ VRs g cs a.toList
  | .tup cs, v => ∃ a, v = .tuple a ∧ VRs g cs a.toList
  | .fn f cs, v => ∃ a, v = .func f #[] a ∧ VRs g cs a.toList
  | .bm f cs, v => ∃ a, v = .func f a #[] ∧ VRs g cs a.toList
  | .any, _ => True
  | .yld b, v => g.has b ∧ v = .func (.yield (g.σ b)) #[] #[]
  | .mp b, v => g.has b ∧ v = .map (some (g.σ b))
  | .dat b off len, v => g.has b ∧ ∃ p, v = .pointer p ∧ (0 < len → p = some ⟨g.σ b, g.ω b + off, none⟩)
def VRs (g : Gh) : List SV → List Value → Prop
  | [], l => l = []
  | c :: cs, l => ∃ v vs, l = v :: vs ∧ VR g c v ∧ VRs g cs vs
end

mutual
theorem VR.ext0 {g g' : Gh} (h : Ext0 g g') : ∀ (x : SV) (v : Value), VR g x v → VR g' x v
  | .pl x, v, hv => by simpa [VR] using hv
  | .ptr b off, v, hv => by
    simp only [VR] at hv ⊢
    exact ⟨h.has hv.1, by rw [hv.2, h.σ b hv.1, h.ω b hv.1]⟩
  | .sl b off len own, v, hv => by
    simp only [VR] at hv ⊢
    obtain ⟨hb, hv⟩ := hv
    refine ⟨h.has hb, ?_⟩
    rcases hv with ⟨c, h1, h2, h3⟩ | ⟨h0, a, c, h1, h2⟩
    · refine .inl ⟨c, by rw [h1, h.σ b hb, h.ω b hb], h2, ?_⟩
      cases own with
      | own e =>
        obtain ⟨a1, a2, a0, a3, a4⟩ := h3
        exact ⟨a1, by rw [h.ω b hb]; exact a2, by rw [h.v b hb]; exact a0, by rw [h.κ b hb]; exact a3, a4⟩
      | _ => exact h3
    · refine .inr ⟨h0, a, c, h1, ?_⟩
      cases own with
      | own e =>
        obtain ⟨a1, a2, a3⟩ := h2
        exact ⟨a1, by rw [h.v b hb]; exact a2, a3⟩
      | _ => exact h2
  | .agg cs, v, hv => by
    simp only [VR] at hv ⊢
    obtain ⟨a, h1, h2⟩ := hv
    exact ⟨a, h1, VRs.ext0 h cs _ h2⟩
  | .tup cs, v, hv => by
    simp only [VR] at hv ⊢
    obtain ⟨a, h1, h2⟩ := hv
    exact ⟨a, h1, VRs.ext0 h cs _ h2⟩
  | .fn f cs, v, hv => by
    simp only [VR] at hv ⊢
    obtain ⟨a, h1, h2⟩ := hv
    exact ⟨a, h1, VRs.ext0 h cs _ h2⟩
  | .bm f cs, v, hv => by
    simp only [VR] at hv ⊢
    obtain ⟨a, h1, h2⟩ := hv
    exact ⟨a, h1, VRs.ext0 h cs _ h2⟩
  | .any, v, hv => by simp only [VR]
  | .yld b, v, hv => by
    simp only [VR] at hv ⊢
    exact ⟨h.has hv.1, by rw [hv.2, h.σ b hv.1]⟩
  | .mp b, v, hv => by
    simp only [VR] at hv ⊢
    exact ⟨h.has hv.1, by rw [hv.2, h.σ b hv.1]⟩
  | .dat b off len, v, hv => by
    simp only [VR] at hv ⊢
    obtain ⟨h1, p, h2, h3⟩ := hv
    exact ⟨h.has h1, p, h2, fun hl => by rw [h3 hl, h.σ b h1, h.ω b h1]⟩
theorem VRs.ext0 {g g' : Gh} (h : Ext0 g g') : ∀ (x : List SV) (v : List Value), VRs g x v → VRs g' x v
  | [], l, hv => by simpa [VRs] using hv
  | c :: cs, l, hv => by
    simp only [VRs] at hv ⊢
    obtain ⟨v, vs, h1, h2, h3⟩ := hv
    exact ⟨v, vs, h1, VR.ext0 h c v h2, VRs.ext0 h cs vs h3⟩
end
theorem VR.ext {g g' : Gh} (h : Ext g g') (x : SV) (v : Value) (hv : VR g x v) : VR g' x v := VR.ext0 h.toExt0 x v hv
theorem VRs.ext {g g' : Gh} (h : Ext g g') (x : List SV) (v : List Value) (hv : VRs g x v) : VRs g' x v := VRs.ext0 h.toExt0 x v hv

theorem VRs.length {g : Gh} : ∀ {x : List SV} {v : List Value}, VRs g x v → v.length = x.length
  | [], l, h => by simp only [VRs] at h; simp [h]
  | c :: cs, l, h => by
    simp only [VRs] at h
    obtain ⟨v, vs, rfl, _, h3⟩ := h
    simp [VRs.length h3]
theorem VRs.get {g : Gh} : ∀ {x : List SV} {v : List Value} {i : Nat} {c : SV}, VRs g x v → x[i]? = some c → ∃ u, v[i]? = some u ∧ VR g c u
  | [], l, i, c, h, hc => by simp at hc
  | c0 :: cs, l, i, c, h, hc => by
    simp only [VRs] at h
    obtain ⟨v, vs, rfl, h2, h3⟩ := h
    cases i with
    | zero => simp at hc; subst hc; exact ⟨v, by simp, h2⟩
    | succ i => simpa using VRs.get (i := i) h3 (by simpa using hc)
theorem VRs.mk {g : Gh} : ∀ {x : List SV} {v : List Value}, v.length = x.length → (∀ (i : Nat) (c : SV) (u : Value), x[i]? = some c → v[i]? = some u → VR g c u) → VRs g x v
  | [], l, h, _ => by simp only [VRs]; simpa using h
  | c :: cs, l, h, hh => by
    cases l with
    | nil => simp at h
    | cons v vs =>
      simp only [VRs]
      exact ⟨v, vs, rfl, hh 0 c v (by simp) (by simp), VRs.mk (by simpa using h) fun i c u h1 h2 => hh (i + 1) c u (by simpa using h1) (by simpa using h2)⟩
theorem VRs.append {g : Gh} {a b : List SV} {u v : List Value} (h : VRs g a u) (k : VRs g b v) : VRs g (a ++ b) (u ++ v) := by
  induction a generalizing u with
  | nil => simp only [VRs] at h; subst h; simpa using k
  | cons c cs ih =>
    simp only [VRs] at h
    obtain ⟨x, xs, rfl, h2, h3⟩ := h
    simp only [List.cons_append, VRs]
    exact ⟨x, xs ++ v, rfl, h2, ih h3⟩
theorem VRs.pls {g : Gh} : ∀ (l : List Value), VRs g (l.map .pl) l
  | [] => by simp [VRs]
  | v :: r => by simp only [List.map_cons, VRs]; exact ⟨v, r, rfl, by simp [VR], VRs.pls r⟩
theorem VRs.map {g : Gh} {α : Type} (f : α → SV) (h : α → Value) : ∀ (l : List α), (∀ x ∈ l, VR g (f x) (h x)) → VRs g (l.map f) (l.map h)
  | [], _ => by simp [VRs]
  | x :: r, hh => by
    simp only [List.map_cons, VRs]
    exact ⟨h x, r.map h, rfl, hh x (by simp), VRs.map f h r fun y hy => hh y (by simp [hy])⟩
theorem VRs.take {g : Gh} {x : List SV} {v : List Value} (h : VRs g x v) (n : Nat) : VRs g (x.take n) (v.take n) := by
  refine VRs.mk (by simp [h.length]) fun i c u h1 h2 => ?_
  rw [List.getElem?_take] at h1 h2
  split at h1
  · rename_i hi
    rw [if_pos hi] at h2
    obtain ⟨u', hu, hr⟩ := h.get h1
    rw [hu] at h2; cases h2; exact hr
  · cases h1
theorem VRs.drop {g : Gh} {x : List SV} {v : List Value} (h : VRs g x v) (n : Nat) : VRs g (x.drop n) (v.drop n) := by
  refine VRs.mk (by simp [h.length]) fun i c u h1 h2 => ?_
  rw [List.getElem?_drop] at h1 h2
  obtain ⟨u', hu, hr⟩ := h.get h1
  rw [hu] at h2; cases h2; exact hr
theorem plAll_spec {g : Gh} : ∀ {cs : List SV} {l : List Value} {vs : List Value}, plAll cs = some l → VRs g cs vs → vs = l
  | [], l, vs, h, hv => by simp only [plAll, Option.some.injEq] at h; simp only [VRs] at hv; rw [hv, h]
  | c :: cs, l, vs, h, hv => by
    simp only [VRs] at hv
    obtain ⟨v, vs', rfl, h2, h3⟩ := hv
    cases c <;> simp only [plAll] at h <;> try (exact absurd h (by simp))
    rename_i x
    cases hp : plAll cs with
    | none => simp [hp] at h
    | some l' =>
      simp only [hp, Option.some.injEq] at h
      simp only [VR] at h2
      rw [← h, h2, plAll_spec hp h3]
theorem mkAgg_VR {g : Gh} {cs : List SV} {a : Array Value} (h : VRs g cs a.toList) : VR g (mkAgg cs) (.agg a) := by
  unfold mkAgg
  cases hp : plAll cs with
  | none => simp only [VR]; exact ⟨a, rfl, h⟩
  | some l => simp only [VR]; rw [← plAll_spec hp h]
theorem mkTup_VR {g : Gh} {cs : List SV} {a : Array Value} (h : VRs g cs a.toList) : VR g (mkTup cs) (.tuple a) := by
  unfold mkTup
  cases hp : plAll cs with
  | none => simp only [VR]; exact ⟨a, rfl, h⟩
  | some l => simp only [VR]; rw [← plAll_spec hp h]
theorem mkFn_VR {g : Gh} {f : Fn} {cs : List SV} {a : Array Value} (h : VRs g cs a.toList) : VR g (mkFn f cs) (.func f #[] a) := by
  unfold mkFn
  cases hp : plAll cs with
  | none => simp only [VR]; exact ⟨a, rfl, h⟩
  | some l => simp only [VR]; rw [← plAll_spec hp h]

/-! ### the check of drawn regions -/
def drawOkAt (ops : Array Oper) (bs : List Nat) (i : Nat) : Bool :=
  match ops[i]? with
  | some o => (o.after.toList.all fun e => !bindsAny e.ground || Nat.blt e.on i) &&
    (List.range i).all fun j => match ops[j]? with
      | some oj => bit (bs.getD i 0) j || (oj.apart ops o && (!(isEff oj.op && isEff o.op) || isFl oj || isFl o))
      | none => false
  | none => false
/-- a drawn region's operations: what isn't bound to come one behind the other has slots of its own, and at most one of two turns memory (but where a block is made out of nothing) -/
def drawOk (ops : Array Oper) : Bool := (List.range ops.size).all (drawOkAt ops (befs ops.toList []))

/-- the drawn regions of a function's code are in order -/
def codeOk : Code → Bool
  | .region _ ops d => match d with | true => drawOk ops | false => true
  | .seq a b => codeOk a && codeOk b
  | .cond _ a b => codeOk a && codeOk b
  | .block _ c => codeOk c
  | .loop c => codeOk c
  | .scope c => codeOk c
  | .rangeFunc _ _ a b => codeOk a && codeOk b
  | _ => true

end
end Go.Sx
