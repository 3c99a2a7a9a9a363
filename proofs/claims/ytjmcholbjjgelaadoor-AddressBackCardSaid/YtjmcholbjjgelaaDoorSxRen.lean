/- The abstract evaluator: what is shown at some numbers of blocks, beside nothing else, holds at any numbers, beside anything else. -/
import Derived.Test.YtjmcholbjjgelaaDoorSxTop
namespace Go.Sx
noncomputable section
set_option linter.unusedVariables false
open Go.RowKit

/-! ### other numbers -/
mutual
def SV.ren (R : Nat → Nat) : SV → SV
  | .pl v => .pl v
  | .ptr b off => .ptr (R b) off
  | .sl b off len own => .sl (R b) off len own
  | .agg cs => .agg (SV.renL R cs)
  | .tup cs => .tup (SV.renL R cs)
  | .fn f cs => .fn f (SV.renL R cs)
  | .bm f cs => .bm f (SV.renL R cs)
  | .any => .any
  | .yld b => .yld (R b)
  | .mp b => .mp (R b)
  | .dat b off len => .dat (R b) off len
def SV.renL (R : Nat → Nat) : List SV → List SV
  | [] => []
  | x :: r => SV.ren R x :: SV.renL R r
end
theorem SV.renL_map (R : Nat → Nat) : ∀ (l : List SV), SV.renL R l = l.map (SV.ren R)
  | [] => rfl
  | x :: r => by simp only [SV.renL, List.map_cons, SV.renL_map R r]
theorem SV.renL_pls (R : Nat → Nat) (l : List Value) : SV.renL R (l.map .pl) = l.map .pl := by
  rw [SV.renL_map, List.map_map]
  exact List.map_congr_left fun v _ => rfl
def AObj.ren (R : Nat → Nat) : AObj → AObj
  | .cells cs wr el => .cells (SV.renL R cs) wr el
  | .obj o => .obj o
  | .lrec st pe f ps asg body d => .lrec st pe f ps asg body d

/-- letters told of other numbers -/
structure Push (g1 g2 : Gh) (R : Nat → Nat) : Prop where
  has : ∀ b, g1.has b → g2.has (R b)
  σ : ∀ b, g1.has b → g2.σ (R b) = g1.σ b
  ω : ∀ b, g1.has b → g2.ω (R b) = g1.ω b
  κ : ∀ b, g1.has b → g2.κ (R b) = g1.κ b
  v : ∀ b, g1.has b → g2.v (R b) = g1.v b
mutual
theorem Push.VR {g1 g2 : Gh} {R : Nat → Nat} (h : Push g1 g2 R) : ∀ (x : SV) (v : Value), VR g1 x v → VR g2 (x.ren R) v
  | .pl u, v, hv => by simpa only [SV.ren, Sx.VR] using hv
  | .ptr b off, v, hv => by
    simp only [SV.ren, Sx.VR] at hv ⊢
    exact ⟨h.has b hv.1, by rw [hv.2, h.σ b hv.1, h.ω b hv.1]⟩
  | .sl b off len own, v, hv => by
    simp only [SV.ren, Sx.VR] at hv ⊢
    obtain ⟨hb, hv⟩ := hv
    refine ⟨h.has b hb, ?_⟩
    rcases hv with ⟨c, h1, h2, h3⟩ | ⟨h0, a, c, h1, h2⟩
    · refine .inl ⟨c, by rw [h1, h.σ b hb, h.ω b hb], h2, ?_⟩
      cases own with
      | own e =>
        obtain ⟨a1, a2, a0, a3, a4⟩ := h3
        exact ⟨a1, by rw [h.ω b hb]; exact a2, by rw [h.v b hb]; exact a0, by rw [h.κ b hb]; exact a3, a4⟩
      | _ => exact h3
    · refine .inr ⟨h0, a, c, h1, ?_⟩
      cases own with
      | own e =>
        obtain ⟨a1, a2, a3⟩ := h2
        exact ⟨a1, by rw [h.v b hb]; exact a2, a3⟩
      | _ => exact h2
  | .agg cs, v, hv => by
    simp only [SV.ren, Sx.VR] at hv ⊢
    obtain ⟨a, h1, h2⟩ := hv
    exact ⟨a, h1, Push.VRs h cs _ h2⟩
  | .tup cs, v, hv => by
    simp only [SV.ren, Sx.VR] at hv ⊢
    obtain ⟨a, h1, h2⟩ := hv
    exact ⟨a, h1, Push.VRs h cs _ h2⟩
  | .fn f cs, v, hv => by
    simp only [SV.ren, Sx.VR] at hv ⊢
    obtain ⟨a, h1, h2⟩ := hv
    exact ⟨a, h1, Push.VRs h cs _ h2⟩
  | .bm f cs, v, hv => by
    simp only [SV.ren, Sx.VR] at hv ⊢
    obtain ⟨a, h1, h2⟩ := hv
    exact ⟨a, h1, Push.VRs h cs _ h2⟩
  | .any, v, hv => by simp only [SV.ren, Sx.VR]
  | .yld b, v, hv => by
    simp only [SV.ren, Sx.VR] at hv ⊢
    exact ⟨h.has b hv.1, by rw [hv.2, h.σ b hv.1]⟩
  | .mp b, v, hv => by
    simp only [SV.ren, Sx.VR] at hv ⊢
    exact ⟨h.has b hv.1, by rw [hv.2, h.σ b hv.1]⟩
  | .dat b off len, v, hv => by
    simp only [SV.ren, Sx.VR] at hv ⊢
    obtain ⟨hb, p, h1, h2⟩ := hv
    exact ⟨h.has b hb, p, h1, fun hl => by rw [h2 hl, h.σ b hb, h.ω b hb]⟩
theorem Push.VRs {g1 g2 : Gh} {R : Nat → Nat} (h : Push g1 g2 R) : ∀ (x : List SV) (v : List Value), VRs g1 x v → VRs g2 (SV.renL R x) v
  | [], v, hv => by simpa only [SV.renL, Sx.VRs] using hv
  | x :: r, v, hv => by
    simp only [SV.renL, Sx.VRs] at hv ⊢
    obtain ⟨u, us, h1, h2, h3⟩ := hv
    exact ⟨u, us, h1, Push.VR h x u h2, Push.VRs h r us h3⟩
end
structure Pull (g1 g2 : Gh) (R : Nat → Nat) : Prop where
  has : ∀ b, g2.has (R b) → g1.has b
  push : Push g1 g2 R
mutual
theorem Pull.VR {g1 g2 : Gh} {R : Nat → Nat} (h : Pull g1 g2 R) : ∀ (x : SV) (v : Value), VR g2 (x.ren R) v → VR g1 x v
  | .pl u, v, hv => by simpa only [SV.ren, Sx.VR] using hv
  | .ptr b off, v, hv => by
    simp only [SV.ren, Sx.VR] at hv ⊢
    have hb := h.has b hv.1
    exact ⟨hb, by rw [hv.2, h.push.σ b hb, h.push.ω b hb]⟩
  | .sl b off len own, v, hv => by
    simp only [SV.ren, Sx.VR] at hv ⊢
    obtain ⟨hb', hv⟩ := hv
    have hb := h.has b hb'
    refine ⟨hb, ?_⟩
    rcases hv with ⟨c, h1, h2, h3⟩ | ⟨h0, a, c, h1, h2⟩
    · refine .inl ⟨c, by rw [h1, h.push.σ b hb, h.push.ω b hb], h2, ?_⟩
      cases own with
      | own e =>
        obtain ⟨a1, a2, a0, a3, a4⟩ := h3
        exact ⟨a1, by rw [← h.push.ω b hb]; exact a2, by rw [← h.push.v b hb]; exact a0, by rw [← h.push.κ b hb]; exact a3, a4⟩
      | _ => exact h3
    · refine .inr ⟨h0, a, c, h1, ?_⟩
      cases own with
      | own e =>
        obtain ⟨a1, a2, a3⟩ := h2
        exact ⟨a1, by rw [← h.push.v b hb]; exact a2, a3⟩
      | _ => exact h2
  | .agg cs, v, hv => by
    simp only [SV.ren, Sx.VR] at hv ⊢
    obtain ⟨a, h1, h2⟩ := hv
    exact ⟨a, h1, Pull.VRs h cs _ h2⟩
  | .tup cs, v, hv => by
    simp only [SV.ren, Sx.VR] at hv ⊢
    obtain ⟨a, h1, h2⟩ := hv
    exact ⟨a, h1, Pull.VRs h cs _ h2⟩
  | .fn f cs, v, hv => by
    simp only [SV.ren, Sx.VR] at hv ⊢
    obtain ⟨a, h1, h2⟩ := hv
    exact ⟨a, h1, Pull.VRs h cs _ h2⟩
  | .bm f cs, v, hv => by
    simp only [SV.ren, Sx.VR] at hv ⊢
    obtain ⟨a, h1, h2⟩ := hv
    exact ⟨a, h1, Pull.VRs h cs _ h2⟩
  | .any, v, hv => by simp only [Sx.VR]
  | .yld b, v, hv => by
    simp only [SV.ren, Sx.VR] at hv ⊢
    have hb := h.has b hv.1
    exact ⟨hb, by rw [hv.2, h.push.σ b hb]⟩
  | .mp b, v, hv => by
    simp only [SV.ren, Sx.VR] at hv ⊢
    have hb := h.has b hv.1
    exact ⟨hb, by rw [hv.2, h.push.σ b hb]⟩
  | .dat b off len, v, hv => by
    simp only [SV.ren, Sx.VR] at hv ⊢
    obtain ⟨hb', p, h1, h2⟩ := hv
    have hb := h.has b hb'
    exact ⟨hb, p, h1, fun hl => by rw [h2 hl, h.push.σ b hb, h.push.ω b hb]⟩
theorem Pull.VRs {g1 g2 : Gh} {R : Nat → Nat} (h : Pull g1 g2 R) : ∀ (x : List SV) (v : List Value), VRs g2 (SV.renL R x) v → VRs g1 x v
  | [], v, hv => by simpa only [SV.renL, Sx.VRs] using hv
  | x :: r, v, hv => by
    simp only [SV.renL, Sx.VRs] at hv ⊢
    obtain ⟨u, us, h1, h2, h3⟩ := hv
    exact ⟨u, us, h1, Pull.VR h x u h2, Pull.VRs h r us h3⟩
end

/-- a loop's record has numbers within: it is left out -/
def AObj.flat : AObj → Prop
  | .lrec _ _ _ _ _ _ _ => False
  | _ => True
theorem Push.OR {g1 g2 : Gh} {R : Nat → Nat} (h : Push g1 g2 R) {b : Nat} (hb : g1.has b) {w : World} {o : AObj} (hf : o.flat) (ho : OR g1 b w o) : OR g2 (R b) w (o.ren R) := by
  cases o with
  | cells cs wr el =>
    simp only [AObj.ren]
    rcases ho with ⟨h1, rfl⟩ | ⟨h1, cur, e, fr, h2, h3, h4, h5⟩
    · exact .inl ⟨by rw [h.v b hb]; exact h1, rfl⟩
    · refine .inr ⟨by rw [h.v b hb]; exact h1, cur, e, fr, by rw [h.σ b hb]; exact h2, fun i sv hi => ?_, by rw [h.κ b hb]; exact h4, fun k1 k2 => by rw [h.ω b hb]; exact h5 k1 k2⟩
      rw [SV.renL_map, List.getElem?_map] at hi
      cases hc : cs[i]? with
      | none => simp [hc] at hi
      | some x =>
        simp only [hc, Option.map_some, Option.some.injEq] at hi
        subst hi
        obtain ⟨v, k1, k2, k3⟩ := h3 i x hc
        exact ⟨v, by rw [h.ω b hb]; exact k1, h.VR x v k2, k3⟩
  | obj o => simp only [AObj.ren, Sx.OR] at ho ⊢; rw [h.σ b hb]; exact ho
  | lrec _ _ _ _ _ _ _ => exact hf.elim
theorem Pull.OR {g1 g2 : Gh} {R : Nat → Nat} (h : Pull g1 g2 R) {b : Nat} (hb : g1.has b) {w : World} {o : AObj} (hf : o.flat) (ho : OR g2 (R b) w (o.ren R)) : OR g1 b w o := by
  cases o with
  | cells cs wr el =>
    simp only [AObj.ren] at ho
    rcases ho with ⟨h1, h2⟩ | ⟨h1, cur, e, fr, h2, h3, h4, h5⟩
    · refine .inl ⟨by rw [← h.push.v b hb]; exact h1, ?_⟩
      rw [SV.renL_map] at h2
      exact List.map_eq_nil_iff.1 h2
    · refine .inr ⟨by rw [← h.push.v b hb]; exact h1, cur, e, fr, by rw [← h.push.σ b hb]; exact h2, fun i sv hi => ?_, by rw [← h.push.κ b hb]; exact h4, fun k1 k2 => by rw [← h.push.ω b hb]; exact h5 k1 k2⟩
      obtain ⟨v, k1, k2, k3⟩ := h3 i (sv.ren R) (by rw [SV.renL_map, List.getElem?_map, hi]; rfl)
      exact ⟨v, by rw [← h.push.ω b hb]; exact k1, h.VR sv v k2, k3⟩
  | obj o => simp only [AObj.ren, Sx.OR] at ho ⊢; rw [← h.push.σ b hb]; exact ho
  | lrec _ _ _ _ _ _ _ => exact hf.elim
theorem ren_live {g1 g2 : Gh} {R : Nat → Nat} {b : Nat} (hv : g2.v (R b) = g1.v b) {o : AObj} : (o.ren R).live g2 (R b) ↔ o.live g1 b := by
  cases o <;> simp [AObj.ren, AObj.live, hv]
theorem ren_there {g1 g2 : Gh} {R : Nat → Nat} {b : Nat} (hv : g2.v (R b) = g1.v b) {o : AObj} : (o.ren R).there g2 (R b) ↔ o.there g1 b := by
  cases o <;> simp [AObj.ren, AObj.there, hv]
theorem ren_wrB {R : Nat → Nat} {o : AObj} : (o.ren R).wrB = o.wrB := by cases o <;> rfl

/-- how numbers go over: what is listed, what is new -/
structure Rn (R : Nat → Nat) (N nx : Nat) (dom : Nat → Prop) : Prop where
  evN : N % 2 = 0
  glob : ∀ i, i < 64 → R (2 * i + 1) = 2 * i + 1
  new : ∀ i, R (N + i) = nx + i
  low : ∀ b, b < N → R b < nx
  inj : ∀ b b', dom b → dom b' → R b = R b' → b = b'
  lt : ∀ b, dom b → b < N

/-- the letters at hand, told of the small numbers -/
def Gh.pull (g : Gh) (R : Nat → Nat) (N : Nat) : Gh := ⟨fun b => g.σ (R b), fun b => g.ω (R b), fun b => g.κ (R b), fun b => g.v (R b), fun b => !(decide (R b < g.n) && !(g.ho (R b))), N⟩
theorem Gh.pull_has {g : Gh} {R : Nat → Nat} {N nx : Nat} {dom : Nat → Prop} (hR : Rn R N nx dom) (hn : g.n = nx) (b : Nat) : (g.pull R N).has b ↔ g.has (R b) := by
  have e : (g.pull R N).ho b = false ↔ g.has (R b) := by
    show (!(decide (R b < g.n) && !(g.ho (R b)))) = false ↔ _
    simp [Gh.has]
  constructor
  · intro h; exact e.1 h.2
  · intro h
    refine ⟨?_, e.2 h⟩
    show b < N
    rcases Nat.lt_or_ge b N with hb | hb
    · exact hb
    · have h1 := hR.new (b - N)
      rw [show N + (b - N) = b by omega] at h1
      have := h.1
      omega
theorem Gh.pull_pull {g : Gh} {R : Nat → Nat} {N nx : Nat} {dom : Nat → Prop} (hR : Rn R N nx dom) (hn : g.n = nx) : Pull (g.pull R N) g R :=
  ⟨fun b hb => (Gh.pull_has hR hn b).2 hb, fun b hb => (Gh.pull_has hR hn b).1 hb, fun _ _ => rfl, fun _ _ => rfl, fun _ _ => rfl, fun _ _ => rfl⟩
/-- letters behind, told of the numbers at hand -/
def Gh.push (g g1 : Gh) (N nx : Nat) : Gh := ⟨fun y => if y < nx then g.σ y else g1.σ (N + (y - nx)), fun y => if y < nx then g.ω y else g1.ω (N + (y - nx)), fun y => if y < nx then g.κ y else g1.κ (N + (y - nx)),
  fun y => if y < nx then g.v y else g1.v (N + (y - nx)), fun y => if y < nx then g.ho y else g1.ho (N + (y - nx)), nx + (g1.n - N)⟩
theorem Gh.push_ext {g g1 : Gh} {N nx : Nat} (hn : g.n = nx) : Ext g (g.push g1 N nx) := by
  have hlt : ∀ b, g.has b → b < nx := fun b hb => by rw [← hn]; exact hb.1
  exact ⟨⟨by show g.n ≤ nx + _; omega, fun b hb => by show (if b < nx then g.ho b else _) = false; rw [if_pos (hlt b hb)]; exact hb.2, fun b hb => if_pos (hlt b hb), fun b hb => if_pos (hlt b hb), fun b hb => if_pos (hlt b hb), fun b hb => if_pos (hlt b hb)⟩,
    fun b hb hh => by show (if b < nx then g.ho b else _) = true; rw [if_pos (by omega)]; exact hh⟩
theorem Gh.push_push {g g1 : Gh} {R : Nat → Nat} {N nx : Nat} {dom : Nat → Prop} (hR : Rn R N nx dom) (hn : g.n = nx) (he : Ext (g.pull R N) g1) : Push g1 (g.push g1 N nx) R := by
  have key : ∀ b, g1.has b → (R b < nx ∧ g.has (R b) ∧ (g.pull R N).has b) ∨ (N ≤ b ∧ R b = nx + (b - N)) := fun b hb => by
    rcases Nat.lt_or_ge b N with h | h
    · left
      have hp : (g.pull R N).has b := by
        refine ⟨h, ?_⟩
        cases hh : (g.pull R N).ho b with
        | false => rfl
        | true => have := he.hole b h hh; rw [hb.2] at this; cases this
      have := (Gh.pull_has hR hn b).1 hp
      exact ⟨by rw [← hn]; exact this.1, this, hp⟩
    · right
      have h1 := hR.new (b - N)
      rw [show N + (b - N) = b by omega] at h1
      exact ⟨h, h1⟩
  refine ⟨fun b hb => ?_, fun b hb => ?_, fun b hb => ?_, fun b hb => ?_, fun b hb => ?_⟩
  · rcases key b hb with ⟨h1, h2, _⟩ | ⟨h1, h2⟩
    · exact (Gh.push_ext hn).has h2
    · refine ⟨?_, ?_⟩
      · rw [h2]; show nx + (b - N) < nx + (g1.n - N); have := hb.1; omega
      · rw [h2]; show (if nx + (b - N) < nx then _ else g1.ho (N + (nx + (b - N) - nx))) = false
        rw [if_neg (by omega), show N + (nx + (b - N) - nx) = b by omega]; exact hb.2
  · rcases key b hb with ⟨h1, h2, h3⟩ | ⟨h1, h2⟩
    · show (if R b < nx then g.σ (R b) else _) = _
      rw [if_pos h1]; exact (he.σ b h3).symm
    · rw [h2]; show (if nx + (b - N) < nx then _ else g1.σ (N + (nx + (b - N) - nx))) = _
      rw [if_neg (by omega), show N + (nx + (b - N) - nx) = b by omega]
  · rcases key b hb with ⟨h1, h2, h3⟩ | ⟨h1, h2⟩
    · show (if R b < nx then g.ω (R b) else _) = _
      rw [if_pos h1]; exact (he.ω b h3).symm
    · rw [h2]; show (if nx + (b - N) < nx then _ else g1.ω (N + (nx + (b - N) - nx))) = _
      rw [if_neg (by omega), show N + (nx + (b - N) - nx) = b by omega]
  · rcases key b hb with ⟨h1, h2, h3⟩ | ⟨h1, h2⟩
    · show (if R b < nx then g.κ (R b) else _) = _
      rw [if_pos h1]; exact (he.κ b h3).symm
    · rw [h2]; show (if nx + (b - N) < nx then _ else g1.κ (N + (nx + (b - N) - nx))) = _
      rw [if_neg (by omega), show N + (nx + (b - N) - nx) = b by omega]
  · rcases key b hb with ⟨h1, h2, h3⟩ | ⟨h1, h2⟩
    · show (if R b < nx then g.v (R b) else _) = _
      rw [if_pos h1]; exact (he.v b h3).symm
    · rw [h2]; show (if nx + (b - N) < nx then _ else g1.v (N + (nx + (b - N) - nx))) = _
      rw [if_neg (by omega), show N + (nx + (b - N) - nx) = b by omega]

/-- what the listed blocks keep in place -/
def Beside (g1 : Gh) (mC : Me) (w : World) : Nat → Prop := fun r => r < w.heap.size ∧ ∀ b o, mC.h.get b = some o → o.live g1 b → g1.σ b ≠ r
theorem Rn.pull {R : Nat → Nat} {N nx : Nat} {dom : Nat → Prop} (hR : Rn R N nx dom) {g : Gh} {w0 : World} {F : Nat → Prop} {m mC : Me} {w : World} (hm : MRel g w0 F m w) (hn : m.nx = nx) (hN : mC.nx = N)
    (hd : ∀ b o, mC.h.get b = some o → dom b ∧ o.flat ∧ m.h.get (R b) = some (o.ren R)) : MRel (g.pull R N) w (Beside (g.pull R N) mC w) mC w := by
  have hgn : g.n = nx := hm.n.trans hn
  have hp := Gh.pull_pull (g := g) hR hgn
  have hhas : ∀ b o, mC.h.get b = some o → (g.pull R N).has b := fun b o ho => hp.has b (hm.heap _ _ (hd b o ho).2.2).1
  refine ⟨hN.symm, by rw [hN]; exact hR.evN, fun b o ho => ?_, fun b b' o o' ho hl ho' ht hs => ?_, fun b o ho hl hF => hF.2 b o ho hl rfl, fun r hr => ⟨hr.1, rfl⟩, rfl, rfl, rfl, Nat.le_refl _, fun i hi => ?_⟩
  · obtain ⟨_, k2, k3⟩ := hd b o ho
    exact ⟨hhas b o ho, hp.OR (hhas b o ho) k2 (hm.heap _ _ k3).2⟩
  · obtain ⟨j1, _, j3⟩ := hd b o ho
    obtain ⟨k1, _, k3⟩ := hd b' o' ho'
    exact hR.inj b b' j1 k1 (hm.inj _ _ _ _ j3 ((ren_live rfl).2 hl) k3 ((ren_there rfl).2 ht) hs)
  · obtain ⟨h1, h2, h3⟩ := hm.glob i hi
    have e := hR.glob i hi
    refine ⟨hp.has _ (by rw [e]; exact h1), ?_, ?_⟩
    · show g.σ (R _) = _
      rw [e]; exact h2
    · show g.ω (R _) = _
      rw [e]; exact h3
theorem Rn.push {R : Nat → Nat} {N nx : Nat} {dom : Nat → Prop} (hR : Rn R N nx dom) {g g1 : Gh} {w0 : World} {F : Nat → Prop} {m m' mC mC' : Me} {w w' : World} (hm : MRel g w0 F m w) (hn : m.nx = nx) (hN : mC.nx = N) (hnx : nx % 2 = 0)
    (hd : ∀ b o, mC.h.get b = some o → dom b ∧ o.flat ∧ m.h.get (R b) = some (o.ren R)) (he : Ext (g.pull R N) g1) (h1 : MRel g1 w (Beside (g.pull R N) mC w) mC' w')
    (hwr : ∀ b o, mC'.h.get b = some o → mC.h.get b = some o ∨ o.wrB = true) (hdf : ∀ b o, mC'.h.get b = some o → (dom b ∨ N ≤ b) ∧ o.flat)
    (hn' : m'.nx = nx + (mC'.nx - N)) (hg : ∀ y o, m'.h.get y = some o → (∃ b ob, (dom b ∨ N ≤ b) ∧ y = R b ∧ mC'.h.get b = some ob ∧ o = ob.ren R) ∨ ((∀ b, dom b → y ≠ R b) ∧ m.h.get y = some o)) :
    MRel (g.push g1 N nx) w0 F m' w' := by
  have hgn : g.n = nx := hm.n.trans hn
  have hp := Gh.pull_pull (g := g) hR hgn
  have hq := Gh.push_push hR hgn he
  have hx : Ext g (g.push g1 N nx) := Gh.push_ext hgn
  have hhas : ∀ b o, mC.h.get b = some o → (g.pull R N).has b := fun b o ho => hp.has b (hm.heap _ _ (hd b o ho).2.2).1
  have hF : ∀ r, F r → Beside (g.pull R N) mC w r := fun r hr => ⟨Nat.lt_of_lt_of_le (hm.keep r hr).1 hm.size, fun b o ho hl hs => by
    have := (hd b o ho).2.2
    exact hm.frame _ _ this ((ren_live rfl).2 hl) (by rw [show g.σ (R b) = r from hs]; exact hr)⟩
  have hold : ∀ y o, (∀ b, dom b → y ≠ R b) → m.h.get y = some o → o.there g y → Beside (g.pull R N) mC w (g.σ y) := fun y o hy ho ht => ⟨hm.heap.lt ho ht, fun b ob hb hl hs => by
    obtain ⟨j1, _, j3⟩ := hd b ob hb
    exact hy b j1 (hm.inj _ _ _ _ j3 ((ren_live rfl).2 hl) ho ht hs).symm⟩
  have hev' : mC'.nx % 2 = 0 := h1.even
  have hge : N ≤ mC'.nx := by rw [← h1.n]; exact he.n
  have hev : m'.nx % 2 = 0 := by rw [hn']; have := hR.evN; omega
  refine ⟨?_, hev, fun y o ho => ?_, fun y y' o o' ho hl ho' ht hs => ?_, fun y o ho hl hFy => ?_, fun r hr => ?_, h1.os.trans hm.os, h1.tape.trans hm.tape, h1.output.trans hm.output, Nat.le_trans hm.size h1.size, fun i hi => ?_⟩
  · rw [hn', ← h1.n]; rfl
  · rcases hg y o ho with ⟨b, ob, hb, rfl, hob, rfl⟩ | ⟨hy, ho1⟩
    · obtain ⟨k1, k2⟩ := h1.heap b ob hob
      exact ⟨hq.has b k1, hq.OR k1 (hdf b ob hob).2 k2⟩
    · obtain ⟨k1, k2⟩ := hm.heap y o ho1
      exact ⟨hx.has k1, k2.ext hx k1 fun ht => (h1.keep _ (hold y o hy ho1 ht)).2⟩
  · rcases hg y o ho with ⟨b, ob, hb, rfl, hob, rfl⟩ | ⟨hy, ho1⟩
    · have kb := (h1.heap b ob hob).1
      have hlb := (ren_live (hq.v b kb)).1 hl
      rcases hg y' o' ho' with ⟨b', ob', hb', rfl, hob', rfl⟩ | ⟨hy', ho1'⟩
      · have kb' := (h1.heap b' ob' hob').1
        have := h1.inj b b' ob ob' hob hlb hob' ((ren_there (hq.v b' kb')).1 ht) (by rw [← hq.σ b kb, hs, hq.σ b' kb'])
        rw [this]
      · have ky' := (hm.heap y' o' ho1').1
        have ht' := (AObj.there_ext hx ky').1 ht
        rw [hq.σ b kb, hx.σ y' ky'] at hs
        exact absurd (by rw [hs]; exact hold y' o' hy' ho1' ht') (h1.frame b ob hob hlb)
    · have ky := (hm.heap y o ho1).1
      have hl' := (AObj.live_ext hx ky).1 hl
      rcases hg y' o' ho' with ⟨b', ob', hb', rfl, hob', rfl⟩ | ⟨hy', ho1'⟩
      · have kb' := (h1.heap b' ob' hob').1
        have ht' := (ren_there (hq.v b' kb')).1 ht
        rw [hx.σ y ky, hq.σ b' kb'] at hs
        rcases hwr b' ob' hob' with h2 | h2
        · obtain ⟨j1, _, j3⟩ := hd b' ob' h2
          have hpb := hhas b' ob' h2
          have e1 : g1.σ b' = g.σ (R b') := he.σ b' hpb
          have ht2 : ob'.there (g.pull R N) b' := (AObj.there_ext he hpb).1 ht'
          exact absurd (hm.inj _ _ _ _ ho1 hl' j3 ((ren_there rfl).2 ht2) (by rw [hs, e1])) (hy b' j1)
        · exact absurd (by rw [← hs]; exact hold y o hy ho1 (AObj.live_there hl')) (h1.frame b' ob' hob' (AObj.live_of ht' h2))
      · have ky' := (hm.heap y' o' ho1').1
        rw [hx.σ y ky, hx.σ y' ky'] at hs
        exact hm.inj y y' o o' ho1 hl' ho1' ((AObj.there_ext hx ky').1 ht) hs
  · rcases hg y o ho with ⟨b, ob, hb, rfl, hob, rfl⟩ | ⟨hy, ho1⟩
    · have kb := (h1.heap b ob hob).1
      rw [hq.σ b kb] at hFy
      exact h1.frame b ob hob ((ren_live (hq.v b kb)).1 hl) (hF _ hFy)
    · have ky := (hm.heap y o ho1).1
      rw [hx.σ y ky] at hFy
      exact hm.frame y o ho1 ((AObj.live_ext hx ky).1 hl) hFy
  · obtain ⟨k1, k2⟩ := hm.keep r hr
    exact ⟨k1, ((h1.keep r (hF r hr)).2).trans k2⟩
  · obtain ⟨k1, k2, k3⟩ := hm.glob i hi
    exact ⟨hx.has k1, by rw [hx.σ _ k1]; exact k2, by rw [hx.ω _ k1]; exact k3⟩

/-! ### what is turned, in other numbers -/
def renB (R : Nat → Nat) (x : Nat × AObj) : Nat × AObj := (R x.1, x.2.ren R)
def renU (R : Nat → Nat) (x : Nat × Option AObj) : Nat × Option AObj := (R x.1, x.2.map (AObj.ren R))
theorem upsM_ren {R : Nat → Nat} {dm : Nat → Prop} (hi : ∀ b b', dm b → dm b' → R b = R b' → b = b') : ∀ (ups : List (Nat × Option AObj)) (mC m : Me), (∀ x ∈ ups, dm x.1) → (∀ b, dm b → m.h.get (R b) = (mC.h.get b).map (AObj.ren R)) →
    (∀ b, dm b → (upsM (ups.map (renU R)) m).h.get (R b) = ((upsM ups mC).h.get b).map (AObj.ren R)) ∧ ∀ y, (∀ b, dm b → y ≠ R b) → (upsM (ups.map (renU R)) m).h.get y = m.h.get y
  | [], mC, m, hu, h => ⟨h, fun y hy => rfl⟩
  | x :: r, mC, m, hu, h => by
    obtain ⟨c, o⟩ := x
    have hc : dm c := hu (c, o) (by simp)
    have hr : ∀ x ∈ r, dm x.1 := fun x hx => hu x (by simp [hx])
    cases o with
    | some o =>
      simp only [List.map_cons, renU, Option.map_some, upsM]
      obtain ⟨a1, a2⟩ := upsM_ren hi r (mC.put c o) (m.put (R c) (o.ren R)) hr (fun b hb => by
        rw [Me.put_h, Me.put_h, Tr.get_put, Tr.get_put]
        by_cases e : b = c
        · subst e; simp
        · rw [if_neg e, if_neg (fun k => e (hi b c hb hc k)), h b hb])
      refine ⟨a1, fun y hy => ?_⟩
      have := a2 y hy
      rw [Me.put_h, Tr.get_put, if_neg (hy c hc)] at this
      exact this
    | none =>
      simp only [List.map_cons, renU, Option.map_none, upsM]
      obtain ⟨a1, a2⟩ := upsM_ren hi r (mC.del c) (m.del (R c)) hr (fun b hb => by
        rw [Me.del_h, Me.del_h, Tr.get_del, Tr.get_del]
        by_cases e : b = c
        · subst e; simp
        · rw [if_neg e, if_neg (fun k => e (hi b c hb hc k)), h b hb])
      refine ⟨a1, fun y hy => ?_⟩
      have := a2 y hy
      rw [Me.del_h, Tr.get_del, if_neg (hy c hc)] at this
      exact this

/-! ### calls -/
def meL (bl : List (Nat × AObj)) (N : Nat) : Me := ⟨pairs bl, N, N, [], []⟩
theorem pairs_some {α : Type} : ∀ (l : List (Nat × α)) (b : Nat), b ∈ l.map Prod.fst → ∃ o, (pairs l).get b = some o
  | [], b, h => by cases h
  | x :: r, b, h => by
    simp only [pairs, Tr.get_put]
    by_cases e : b = x.1
    · exact ⟨x.2, if_pos e⟩
    · rw [if_neg e]
      simp only [List.map_cons, List.mem_cons] at h
      exact pairs_some r b (h.resolve_left e)
theorem upsM_get : ∀ (ups : List (Nat × Option AObj)) (m : Me) (b : Nat) (o : AObj), (upsM ups m).h.get b = some o → m.h.get b = some o ∨ (b, some o) ∈ ups
  | [], m, b, o, h => .inl h
  | x :: r, m, b, o, h => by
    obtain ⟨c, u⟩ := x
    cases u with
    | some u =>
      rcases upsM_get r (m.put c u) b o h with h1 | h1
      · rw [Me.put_h, Tr.get_put] at h1
        by_cases e : b = c
        · rw [if_pos e] at h1
          simp only [Option.some.injEq] at h1
          subst e h1
          exact .inr (by simp)
        · rw [if_neg e] at h1; exact .inl h1
      · exact .inr (by simp [h1])
    | none =>
      rcases upsM_get r (m.del c) b o h with h1 | h1
      · rw [Me.del_h, Tr.get_del] at h1
        by_cases e : b = c
        · rw [if_pos e] at h1; cases h1
        · rw [if_neg e] at h1; exact .inl h1
      · exact .inr (by simp [h1])

/-- what is told of memory, at small numbers: it may be told at others -/
structure RTold (R : Nat → Nat) (bl : List (Nat × AObj)) (N nx : Nat) (ups : List (Nat × Option AObj)) (N' : Nat) : Prop where
  rn : Rn R N nx (fun b => b ∈ bl.map Prod.fst)
  even : nx % 2 = 0
  flat : ∀ x ∈ bl, x.2.flat
  keys : ∀ x ∈ ups, x.1 ∈ bl.map Prod.fst ∨ N ≤ x.1
  upf : ∀ x ∈ ups, ∀ o, x.2 = some o → o.flat
  wr : wrAll ups = true
theorem RTold.dm_inj {R : Nat → Nat} {bl : List (Nat × AObj)} {N nx : Nat} {ups : List (Nat × Option AObj)} {N' : Nat} (h : RTold R bl N nx ups N') :
    ∀ b b', (b ∈ bl.map Prod.fst ∨ N ≤ b) → (b' ∈ bl.map Prod.fst ∨ N ≤ b') → R b = R b' → b = b' := by
  have hi : ∀ b, N ≤ b → R b = nx + (b - N) := fun b hb => by
    have := h.rn.new (b - N)
    rwa [show N + (b - N) = b by omega] at this
  rintro b b' (h1 | h1) (h2 | h2) e
  · exact h.rn.inj b b' h1 h2 e
  · have := h.rn.low b (h.rn.lt b h1); rw [e, hi b' h2] at this; omega
  · have := h.rn.low b' (h.rn.lt b' h2); rw [← e, hi b h1] at this; omega
  · rw [hi b h1, hi b' h2] at e; omega
section
variable {R : Nat → Nat} {bl : List (Nat × AObj)} {N nx : Nat} {ups : List (Nat × Option AObj)} {N' : Nat} (hT : RTold R bl N nx ups N') {g : Gh} {w0 : World} {F : Nat → Prop} {m : Me} {w : World} (hm : MRel g w0 F m w) (hn : m.nx = nx)
  (hbl : ∀ x ∈ bl.map (renB R), m.h.get x.1 = some x.2)
include hT hm hn hbl
omit hm hn in
theorem RTold.blocks : ∀ b o, (meL bl N).h.get b = some o → b ∈ bl.map Prod.fst ∧ o.flat ∧ m.h.get (R b) = some (o.ren R) := fun b o ho => by
  have hmem := pairs_get _ _ _ (show (pairs bl).get b = some o from ho)
  exact ⟨List.mem_map.2 ⟨_, hmem, rfl⟩, hT.flat _ hmem, hbl (renB R (b, o)) (List.mem_map.2 ⟨_, hmem, rfl⟩)⟩
theorem RTold.pull : MRel (g.pull R N) w (Beside (g.pull R N) (meL bl N) w) (meL bl N) w := hT.rn.pull hm hn rfl (hT.blocks hbl)
theorem RTold.push {g1 : Gh} {w' : World} (he : Ext (g.pull R N) g1) (h1 : MRel g1 w (Beside (g.pull R N) (meL bl N) w) ((upsM ups (meL bl N)).setNx N') w') :
    MRel (g.push g1 N nx) w0 F ((upsM (ups.map (renU R)) m).setNx (nx + (N' - N))) w' := by
  have hgn : g.n = nx := hm.n.trans hn
  have hat : ∀ b, (b ∈ bl.map Prod.fst ∨ N ≤ b) → m.h.get (R b) = ((meL bl N).h.get b).map (AObj.ren R) := by
    rintro b (hb | hb)
    · obtain ⟨o, ho⟩ := pairs_some bl b hb
      rw [(hT.blocks hbl b o ho).2.2, show (meL bl N).h.get b = some o from ho]; rfl
    · have e1 : (meL bl N).h.get b = none := by
        cases hc : (meL bl N).h.get b with
        | none => rfl
        | some o => have := hT.rn.lt b (hT.blocks hbl b o hc).1; omega
      have e2 : R b = nx + (b - N) := by
        have := hT.rn.new (b - N)
        rwa [show N + (b - N) = b by omega] at this
      rw [e1, e2]
      cases hc : m.h.get (nx + (b - N)) with
      | none => rfl
      | some o => have := (hm.heap _ o hc).1.1; omega
  obtain ⟨a1, a2⟩ := upsM_ren hT.dm_inj ups (meL bl N) m hT.keys hat
  refine hT.rn.push hm hn rfl hT.even (hT.blocks hbl) he h1 (fun b o ho => ?_) (fun b o ho => ?_) ?_ (fun y o ho => ?_)
  · rw [Me.setNx_h] at ho
    exact (upsM_fine ups (meL bl N) hT.wr).wr b o ho
  · rw [Me.setNx_h] at ho
    rcases upsM_get _ _ _ _ ho with h2 | h2
    · have := hT.blocks hbl b o h2
      exact ⟨.inl this.1, this.2.1⟩
    · exact ⟨hT.keys _ h2, hT.upf _ h2 o rfl⟩
  · rw [Me.setNx_nx, Me.setNx_nx]
  · rw [Me.setNx_h] at ho
    by_cases e : ∃ b, (b ∈ bl.map Prod.fst ∨ N ≤ b) ∧ y = R b
    · obtain ⟨b, hb, rfl⟩ := e
      rw [a1 b hb] at ho
      cases hc : (upsM ups (meL bl N)).h.get b with
      | none => rw [hc] at ho; cases ho
      | some ob =>
        rw [hc] at ho
        simp only [Option.map_some, Option.some.injEq] at ho
        exact .inl ⟨b, ob, hb, rfl, by rw [Me.setNx_h]; exact hc, ho.symm⟩
    · have hy : ∀ b, (b ∈ bl.map Prod.fst ∨ N ≤ b) → y ≠ R b := fun b hb k => e ⟨b, hb, k⟩
      rw [a2 y hy] at ho
      exact .inr ⟨fun b hb => hy b (.inl hb), ho⟩
end

/-- a function's call, at small numbers, with this memory alone -/
def CallE (P : Program) (f : FuncId) (args : List SV) (bl : List (Nat × AObj)) (N : Nat) (sv : SV) (ups : List (Nat × Option AObj)) (N' : Nat) : Prop :=
  ∀ (g : Gh) (w0 : World) (F : Nat → Prop) (w : World) (vs : List Value), MRel g w0 F (meL bl N) w → VRs g args vs → LandsF P f vs w (fun v w' => Turns g w0 F ((upsM ups (meL bl N)).setNx N') sv v w')
theorem CallE.ren {P : Program} {f : FuncId} {args : List SV} {bl : List (Nat × AObj)} {N : Nat} {sv : SV} {ups : List (Nat × Option AObj)} {N' : Nat} (h : CallE P f args bl N sv ups N') {R : Nat → Nat} {nx : Nat} (hT : RTold R bl N nx ups N') :
    CallT P f (SV.renL R args) (bl.map (renB R)) nx (sv.ren R) (ups.map (renU R)) (nx + (N' - N)) := by
  intro g w0 F m w vs hm hn hbl hargs
  have hgn : g.n = nx := hm.n.trans hn
  have hp := Gh.pull_pull (g := g) hT.rn hgn
  refine (h _ _ _ w vs (hT.pull hm hn hbl) (hp.VRs args vs hargs)).mono fun v w' ht => ?_
  obtain ⟨g1, he, h1, hv⟩ := ht
  exact ⟨g.push g1 N nx, Gh.push_ext hgn, hT.push hm hn hbl he h1, (Gh.push_push hT.rn hgn he).VR sv v hv⟩

/-! ### loops -/
def renSl (R : Nat → Nat) (x : Nat × SV) : Nat × SV := (x.1, x.2.ren R)
theorem pairs_map {α β : Type} (f : α → β) : ∀ (l : List (Nat × α)) (i : Nat), (pairs (l.map fun x => (x.1, f x.2))).get i = ((pairs l).get i).map f
  | [], i => by simp [pairs, Tr.get_e]
  | x :: r, i => by
    simp only [List.map_cons, pairs, Tr.get_put]
    by_cases e : i = x.1
    · rw [if_pos e, if_pos e]; rfl
    · rw [if_neg e, if_neg e]; exact pairs_map f r i
def fraE (ss : List (Nat × SV)) (nt : Nat) (rd : Option (Option Nat)) : Fra := ⟨pairs ss, .any, nt, [], rd⟩
def plainRd : Option (Option Nat) → Bool
  | some (some _) => false
  | _ => true
def LoopE (P : Program) (c : Code) (nt : Nat) (rd : Option (Option Nat)) (ss : List (Nat × SV)) (bl : List (Nat × AObj)) (N : Nat) (e : Exit) (ss' : List (Nat × SV)) (ups : List (Nat × Option AObj)) (N' : Nat) : Prop :=
  Tri P c ⟨fraE ss nt rd, meL bl N⟩ e ⟨fraE ss' nt rd, (upsM ups (meL bl N)).setNx N'⟩
theorem LoopE.ren {P : Program} {c : Code} {nt : Nat} {rd : Option (Option Nat)} {ss : List (Nat × SV)} {bl : List (Nat × AObj)} {N : Nat} {e : Exit} {ss' : List (Nat × SV)} {ups : List (Nat × Option AObj)} {N' : Nat}
    (h : LoopE P c nt rd ss bl N e ss' ups N') (hrd : plainRd rd = true) {R : Nat → Nat} {nx : Nat} (hT : RTold R bl N nx ups N') :
    LoopT P c nt rd (ss.map (renSl R)) (bl.map (renB R)) nx e (ss'.map (renSl R)) (ups.map (renU R)) (nx + (N' - N)) := by
  intro fr m hnt hfrd hn hss hbl g w0 F D a w hs
  have hm : MRel g w0 F m w := hs.me
  have hgn : g.n = nx := hm.n.trans hn
  have hp := Gh.pull_pull (g := g) hT.rn hgn
  have hgo := h (g.pull R N) w (Beside (g.pull R N) (meL bl N) w) ⟨a.defers, D.ro⟩ a w ⟨⟨hnt ▸ hs.fr.nt, fun t => ?_⟩, hT.pull hm hn hbl, by simp [fraE], (fun b hb => by simp [fraE] at hb), ?_⟩
  · have key : ∀ g1 w', Ext (g.pull R N) g1 → ∀ a', SRel g1 w (Beside (g.pull R N) (meL bl N) w) ⟨a.defers, D.ro⟩ ⟨fraE ss' nt rd, (upsM ups (meL bl N)).setNx N'⟩ a' w' →
        SRel (g.push g1 N nx) w0 F D ⟨fraOf fr (ss'.map (renSl R)), (upsM (ups.map (renU R)) m).setNx (nx + (N' - N))⟩ a' w' := fun g1 w' he a' hr => by
      have hx : Ext g (g.push g1 N nx) := Gh.push_ext hgn
      have hq := Gh.push_push hT.rn hgn he
      refine ⟨⟨?_, fun t => ?_⟩, hT.push hm hn hbl he hr.me, ?_, ?_, ?_⟩
      · show fr.nt ≤ _
        rw [hnt]; exact hr.fr.nt
      · have h2 := hr.fr.slots t
        show VR _ (match (pairs (ss'.map (renSl R))).get t with | some v => v | none => .any) _
        rw [show (pairs (ss'.map (renSl R))).get t = ((pairs ss').get t).map (SV.ren R) from pairs_map _ _ _]
        have h3 : VR g1 (match (pairs ss').get t with | some v => v | none => .any) (a'.tmps.getD t undef) := h2
        cases hc : (pairs ss').get t with
        | none => simp only [Option.map_none, VR]
        | some x =>
          rw [hc] at h3
          exact hq.VR x _ h3
      · have h2 := hr.defers
        simp only [fraE, List.map_nil, List.nil_append] at h2
        show a'.defers = fr.dm.map (mark _) ++ D.ds
        rw [h2, marks_ext hx hs.marks]
        exact hs.defers
      · intro b hb
        exact hx.has (hs.marks b hb)
      · exact RdOk.ext hx hs.rd
    refine ⟨wpIn_mono hgo.1 fun e' a' w' hpost => ?_, fun c' hc b k cs k1 k2 k3 => ?_⟩
    · obtain ⟨rfl, g1, he, hr⟩ := hpost
      exact ⟨rfl, _, Gh.push_ext hgn, key g1 w' he a' hr⟩
    · obtain ⟨e', a', w', hpost, harr⟩ := hgo.2 c' hc b k cs k1 k2 k3
      obtain ⟨rfl, g1, he, hr⟩ := hpost
      exact ⟨_, a', w', ⟨rfl, _, Gh.push_ext hgn, key g1 w' he a' hr⟩, harr⟩
  · show VR _ (match (pairs ss).get t with | some v => v | none => .any) _
    cases hc : (pairs ss).get t with
    | none => simp only [VR]
    | some x =>
      have h1 := hss (renSl R (t, x)) (List.mem_map.2 ⟨_, pairs_get _ _ _ hc, rfl⟩)
      have h2 := hs.fr.slots t
      have h3 : fr.get t = x.ren R := h1.symm
      rw [h3] at h2
      exact hp.VR x _ h2
  · have h1 := hs.rd
    have h1' : RdOk g D.ro fr.rd := h1
    rw [hfrd] at h1'
    show RdOk _ D.ro rd
    rcases rd with _ | _ | b
    · trivial
    · exact h1'
    · cases hrd

end
end Go.Sx
