/- The abstract evaluator: what a function answers, said of a small memory, holds in every memory. -/
import Derived.Test.YtjmcholbjjgelaaDoorSxCap
namespace Go.Sx
set_option linter.unusedVariables false
open Go.RowKit

/-! ### a small memory: tables, and a read-only block a slice that is handed in -/
def argHeap : List (List SV) → Nat → Heap → Heap
  | [], _, h => h
  | cs :: r, b, h => argHeap r (b + 2) (h.put b (.cells cs false 0))
def meA (l : Tabs) (ls : List (List SV)) (hs : List Hint) : Me := ⟨argHeap ls 128 (tabHeap l), 128 + 2 * ls.length, 128 + 2 * ls.length, hs, []⟩

theorem argHeap_get : ∀ (ls : List (List SV)) (b0 : Nat) (h : Heap) (b : Nat) (o : AObj), (argHeap ls b0 h).get b = some o →
    (∃ j cs, ls[j]? = some cs ∧ b = b0 + 2 * j ∧ o = .cells cs false 0) ∨ h.get b = some o
  | [], b0, h, b, o, ho => .inr ho
  | cs :: r, b0, h, b, o, ho => by
    simp only [argHeap] at ho
    rcases argHeap_get r (b0 + 2) _ b o ho with ⟨j, cs', h1, h2, h3⟩ | h1
    · exact .inl ⟨j + 1, cs', by simpa using h1, by omega, h3⟩
    · rw [Tr.get_put] at h1
      by_cases e : b = b0
      · rw [if_pos e] at h1
        simp only [Option.some.injEq] at h1
        exact .inl ⟨0, cs, by simp, by omega, h1.symm⟩
      · rw [if_neg e] at h1
        exact .inr h1

/-- a slice that is handed in: its block, where it begins there, its cells -/
structure Lent where
  b : Nat
  off : Nat
  cs : List SV

def ghA (g : Gh) (w : World) (ls : List Lent) : Gh :=
  let at' : Nat → Lent := fun b => ls.getD ((b - 128) / 2) ⟨0, 0, []⟩
  let s : Nat → Nat := fun b => if b < 128 then b / 2 else g.σ (at' b).b
  ⟨s, fun b => if b < 128 then 0 else g.ω (at' b).b + (at' b).off, fun b => sizeAt w (s b), 128 + 2 * ls.length⟩

/-- what a lent slice's block is in the memory at hand -/
def LentOk (h : Heap) (x : Lent) : Prop := ∃ full wr el, h.get x.b = some (.cells full wr el) ∧ ∀ (i : Nat) (sv : SV), x.cs[i]? = some sv → full[x.off + i]? = some sv ∧ ∃ v, sv = .pl v

theorem startA {g : Gh} {w0 w : World} {F : Nat → Prop} {m : Me} (hm : MRel g w0 F m w) {l : Tabs} (hl : oddTabs l = true) (ht : hasTabs m.h l = true) {ls : List Lent} (hls : ∀ x ∈ ls, LentOk m.h x) (hs : List Hint) :
    MRel (ghA g w ls) w (Old w) (meA l (ls.map Lent.cs) hs) w := by
  have hσ : ∀ (j : Nat) (x : Lent), ls[j]? = some x → (ghA g w ls).σ (128 + 2 * j) = g.σ x.b ∧ (ghA g w ls).ω (128 + 2 * j) = g.ω x.b + x.off := fun j x hx => by
    have e : (128 + 2 * j - 128) / 2 = j := by omega
    have hn : ¬ (128 + 2 * j < 128) := by omega
    constructor
    · show (if 128 + 2 * j < 128 then _ else g.σ (ls.getD ((128 + 2 * j - 128) / 2) ⟨0, 0, []⟩).b) = _
      rw [if_neg hn, e, List.getD_eq_getElem?_getD, hx]; rfl
    · show (if 128 + 2 * j < 128 then _ else g.ω (ls.getD ((128 + 2 * j - 128) / 2) ⟨0, 0, []⟩).b + (ls.getD ((128 + 2 * j - 128) / 2) ⟨0, 0, []⟩).off) = _
      rw [if_neg hn, e, List.getD_eq_getElem?_getD, hx]; rfl
  have parts : ∀ b o, (meA l (ls.map Lent.cs) hs).h.get b = some o → (∃ j x, ls[j]? = some x ∧ b = 128 + 2 * j ∧ o = .cells x.cs false 0) ∨ (tabHeap l).get b = some o := fun b o ho => by
    rcases argHeap_get _ _ _ b o ho with ⟨j, cs, h1, h2, h3⟩ | h
    · simp only [List.getElem?_map] at h1
      cases hx : ls[j]? with
      | none => simp [hx] at h1
      | some x =>
        simp only [hx, Option.map_some, Option.some.injEq] at h1
        exact .inl ⟨j, x, hx, h2, by rw [h1]; exact h3⟩
    · exact .inr h
  have noWr : ∀ b o, (meA l (ls.map Lent.cs) hs).h.get b = some o → o.wr = false := fun b o ho => by
    rcases parts b o ho with ⟨j, x, _, _, rfl⟩ | h
    · rfl
    · obtain ⟨_, _, cs, el, _, _, _, rfl, _⟩ := hasTabs_start hm l hl ht b o h
      rfl
  refine ⟨by simp [ghA, meA], by simp only [meA]; omega, fun b o ho => ?_, fun b b' o o' ho hw => ?_, fun b o ho hw => ?_, fun r hr => ⟨hr, rfl⟩, rfl, rfl, rfl, Nat.le_refl _, fun i hi => ?_⟩
  · rcases parts b o ho with ⟨j, x, hx, rfl, rfl⟩ | h
    · have hj : j < ls.length := (List.getElem?_eq_some_iff.1 hx).1
      obtain ⟨full, wr, el, hg, hc⟩ := hls x (List.mem_of_getElem? hx)
      obtain ⟨h1, cur, e, fr, hw, hcr, _, _⟩ := hm.heap x.b _ hg
      obtain ⟨s1, s2⟩ := hσ j x hx
      refine ⟨by show 128 + 2 * j < 128 + 2 * ls.length; omega, cur, e, fr, by rw [s1]; exact hw, fun i sv hi => ?_, ?_, fun h => by cases h⟩
      · obtain ⟨k1, v, rfl⟩ := hc i sv hi
        obtain ⟨u, k2, k3, k4⟩ := hcr _ _ k1
        simp only [VR] at k3
        subst k3
        exact ⟨u, by rw [s2, Nat.add_assoc]; exact k2, by simp [VR], k4⟩
      · show sizeAt w ((ghA g w ls).σ (128 + 2 * j)) = _
        rw [s1]; simp [sizeAt, hw]
    · obtain ⟨h1, h2, cs, el, cur, e, fr, rfl, hw, hc⟩ := hasTabs_start hm l hl ht b o h
      have s1 : (ghA g w ls).σ b = b / 2 := if_pos h2
      have s2 : (ghA g w ls).ω b = 0 := if_pos h2
      refine ⟨by show b < 128 + 2 * ls.length; omega, cur, e, fr, by rw [s1]; exact hw, fun i sv hi => ?_, ?_, fun h => by cases h⟩
      · obtain ⟨v, k1, k2, k3⟩ := hc i sv hi
        exact ⟨v, by rw [s2, Nat.zero_add]; exact k1, by rw [k2]; simp [VR], k3⟩
      · show sizeAt w ((ghA g w ls).σ b) = _
        rw [s1]; simp [sizeAt, hw]
  · rw [noWr b o ho] at hw; cases hw
  · rw [noWr b o ho] at hw; cases hw
  · have h2 : 2 * i + 1 < 128 := by omega
    refine ⟨by show 2 * i + 1 < 128 + 2 * ls.length; omega, ?_, if_pos h2⟩
    have : (ghA g w ls).σ (2 * i + 1) = (2 * i + 1) / 2 := if_pos h2
    rw [this]; omega
theorem lent_sl {g : Gh} {w : World} {ls : List Lent} {j : Nat} {x : Lent} (hx : ls[j]? = some x) {len : Nat} {own : Option Nat} {v : Value} (h : VR g (.sl x.b x.off len own) v) : VR (ghA g w ls) (.sl (128 + 2 * j) 0 len none) v := by
  have hj : j < ls.length := (List.getElem?_eq_some_iff.1 hx).1
  have e : (128 + 2 * j - 128) / 2 = j := by omega
  have hn : ¬ (128 + 2 * j < 128) := by omega
  have s1 : (ghA g w ls).σ (128 + 2 * j) = g.σ x.b := by
    show (if 128 + 2 * j < 128 then _ else g.σ (ls.getD ((128 + 2 * j - 128) / 2) ⟨0, 0, []⟩).b) = _
    rw [if_neg hn, e, List.getD_eq_getElem?_getD, hx]; rfl
  have s2 : (ghA g w ls).ω (128 + 2 * j) = g.ω x.b + x.off := by
    show (if 128 + 2 * j < 128 then _ else g.ω (ls.getD ((128 + 2 * j - 128) / 2) ⟨0, 0, []⟩).b + (ls.getD ((128 + 2 * j - 128) / 2) ⟨0, 0, []⟩).off) = _
    rw [if_neg hn, e, List.getD_eq_getElem?_getD, hx]; rfl
  simp only [VR] at h ⊢
  refine ⟨by show 128 + 2 * j < 128 + 2 * ls.length; omega, ?_⟩
  rcases h.2 with ⟨c, h1, h2, _⟩ | ⟨_, h0, a, c, h1⟩
  · exact .inl ⟨c, by rw [h1, s1, s2, Nat.add_zero], h2, trivial⟩
  · exact .inr ⟨trivial, h0, a, c, h1⟩

/-! ### answers -/
/-- from that memory, by some hints, the function comes to this -/
def Good (P : Program) (T : Tab) (I : Intr) (k : FuncId) (args : List SV) (ms : List Hint → Me) (bs : List Nat) (sv : SV) (os : List AObj) : Prop :=
  ∃ n hs m', callS P T (told P I) n k args (ms hs) = some (sv, m') ∧ AllP m'.vc ∧ objsAt m'.h bs = some os
def finQ (bs : List Nat) (x : Option (SV × Me)) : Option (SV × List AObj × Prop) :=
  match x with
  | some (sv, m) => match m with
    | ⟨h, _, _, _, vc⟩ => match objsAt h bs with
      | some os => some (sv, os, AllP vc)
      | none => none
  | none => none
theorem good_of {P : Program} {T : Tab} {I : Intr} {k : FuncId} {args : List SV} {ms : List Hint → Me} {bs : List Nat} {sv : SV} {os : List AObj} {n : Nat} {hs : List Hint} {Q : Prop}
    (h : finQ bs (callS P T (told P I) n k args (ms hs)) = some (sv, os, Q)) (hq : Q) : Good P T I k args ms bs sv os := by
  unfold finQ at h
  split at h
  · rename_i x sv' m hx
    split at h
    split at h
    · rename_i os' ho
      simp only [Option.some.injEq, Prod.mk.injEq] at h
      obtain ⟨rfl, rfl, rfl⟩ := h
      exact ⟨n, hs, _, hx, hq, ho⟩
    · cases h
  · cases h

theorem answer {P : Program} {T : Tab} (hT : TabOk P T ∧ CodesOk T) {I : Intr} (hI : IntrOk P I) {k : FuncId} {args : List SV} {ms : List Hint → Me} {bs : List Nat} {sv sv' : SV} {os new : List AObj} (h : Good P T I k args ms bs sv os)
    (hd : noDup bs = true) {g : Gh} {w0 w : World} {F : Nat → Prop} {m : Me} (hm : MRel g w0 F m w) {g2 : Gh} (h2 : ∀ hs, MRel g2 w (Old w) (ms hs) w) {vs : List Value} (ha : VRs g2 args vs)
    (hnew : renOs bs m.nx os = some new) (hsv : renS bs m.nx sv = some sv') :
    Callable P k ∧ CallsIn Fence.wide 0 P k vs.toArray w (fun e w' => ∃ v', e = .returned v' ∧ Turns g w0 F (addAll new m) sv' v' w') := by
  obtain ⟨n, hs, m', hrun, hvc, hos⟩ := h
  obtain ⟨h1, h3⟩ := (callS_sound hT.1 hI.told hT.2 n).sound _ _ _ _ _ hrun hvc g2 w (Old w) w vs (h2 hs) ha
  refine ⟨h1, CallsIn.mono h3 fun e w' he => ?_⟩
  obtain ⟨v', rfl, g3, _, hm3, hv3⟩ := he
  exact ⟨v', rfl, carry hm hm3 hv3 hd hos hnew hsv⟩

/-- a good run of plain values, out of any world in which the tables stand -/
theorem good_calls {P : Program} {T : Tab} (hT : TabOk P T ∧ CodesOk T) {I : Intr} (hI : IntrOk P I) {k : FuncId} {l : Tabs} {args : List Value} {v : Value} (h : Good P T I k (args.map .pl) (meA l []) [] (.pl v) [])
    {W : World} (hm : MRel (gh0 W) W (Old W) (meOf l) W) : Calls P k args.toArray W fun e w' => e = .returned v ∧ Below W.heap.size W w' := by
  obtain ⟨n, hs, m', hrun, hvc, _⟩ := h
  refine (top hT.1 hI.told hT.2 hrun hvc (g := gh0 W) (W := W) (hm.same rfl rfl) (VRs.pls _)).mono fun e w' he => ?_
  obtain ⟨u, rfl, ⟨g', _, hv⟩, hb⟩ := he
  simp only [VR] at hv
  exact ⟨by rw [hv], hb⟩

/-- a function of plain values: its answer is plain, whatever memory holds -/
def plainI (k : FuncId) (l : Tabs) (r : List SV → Option Value) : Intr := { own := noOwn, ans := fun f args h _ => match Nat.beq f k with
  | false => none
  | true => match hasTabs h l with
    | false => none
    | true => match r args with
      | some v => some (.pl v, [])
      | none => none }
theorem plainI_ok {P : Program} {T : Tab} (hT : TabOk P T ∧ CodesOk T) {I : Intr} (hI : IntrOk P I) {k : FuncId} {l : Tabs} (hl : oddTabs l = true) {r : List SV → Option Value}
    (h : ∀ args v, r args = some v → (∃ vs : List Value, args = vs.map .pl) ∧ Good P T I k args (meA l []) [] (.pl v) []) : IntrOk P (plainI k l r) := ⟨fun c s e s' _ x => x.elim, fun f args hp nx v new e g w0 F m w vs hmh hmn hrel hargs => by
  simp only [plainI] at e
  split at e
  · cases e
  · rename_i hf
    rw [nbeq] at hf
    have hf' : f = k := by simpa using hf
    subst hf'
    split at e
    · cases e
    · rename_i ht
      split at e
      · rename_i v0 hr
        simp only [Option.some.injEq, Prod.mk.injEq] at e
        obtain ⟨rfl, rfl⟩ := e
        subst hmh hmn
        obtain ⟨⟨us, rfl⟩, hg⟩ := h _ _ hr
        have hvs := VRs_pl _ _ hargs
        subst hvs
        exact answer hT hI hg rfl hrel (g2 := ghA g w []) (fun hs => startA hrel hl ht (ls := []) (fun x hx => by cases hx) hs) (VRs.pls _) (by simp [renOs]) (by simp [renS])
      · cases e⟩

end Go.Sx
