/- The abstract evaluator: memory at a call's start, with tables and with rows that are handed in (read only). -/
import Derived.Test.YtjmcholbjjgelaaDoorSxSym
import Derived.Carry
import Derived.ChangeSlices
import Derived.WideShapes
import Derived.ProofKit
namespace Go.Sx
noncomputable section
set_option linter.unusedVariables false
open Go.RowKit Go.ChangeShapes Go.WideShapes Go.ChangeAt

/-- rows that are handed in, from block 128 on -/
def argHeap : List (List SV) → Nat → Heap → Heap
  | [], _, h => h
  | cs :: r, b, h => argHeap r (b + 2) (h.put b (.cells cs false 0))
theorem argHeap_get : ∀ (ls : List (List SV)) (b0 : Nat) (h : Heap) (b : Nat) (o : AObj), (argHeap ls b0 h).get b = some o →
    (∃ j cs, ls[j]? = some cs ∧ b = b0 + 2 * j ∧ o = .cells cs false 0) ∨ h.get b = some o
  | [], b0, h, b, o, ho => .inr ho
  | cs :: r, b0, h, b, o, ho => by
    simp only [argHeap] at ho
    rcases argHeap_get r (b0 + 2) _ b o ho with ⟨j, cs', h1, h2, h3⟩ | h1
    · exact .inl ⟨j + 1, cs', by simpa using h1, by omega, h3⟩
    · rw [Tr.get_put] at h1
      by_cases e : b = b0
      · rw [if_pos e] at h1
        simp only [Option.some.injEq] at h1
        exact .inl ⟨0, cs, by simp, by omega, h1.symm⟩
      · rw [if_neg e] at h1
        exact .inr h1
/-- memory: tables, rows that are handed in -/
def meA (h : Heap) (ls : List (List SV)) (hs : List Hint) : Me := ⟨argHeap ls 128 h, 128 + 2 * ls.length, 128 + 2 * ls.length, hs, []⟩

/-- where a row lies, if it lies anywhere -/
abbrev Spot := Option (Nat × Nat)
def spotAt (ps : List Spot) (b : Nat) : Spot := (ps[(b - 128) / 2]?).getD none
def ghA (W : World) (ps : List Spot) : Gh :=
  ⟨fun b => if b < 128 then b / 2 else ((spotAt ps b).map Prod.fst).getD 0, fun b => if b < 128 then 0 else ((spotAt ps b).map Prod.snd).getD 0,
   fun b => sizeAt W (if b < 128 then b / 2 else ((spotAt ps b).map Prod.fst).getD 0), fun b => if b < 128 then false else (spotAt ps b).isNone, fun _ => false, 128 + 2 * ps.length⟩
/-- a row's cells stand there -/
def RowAt (g : Gh) (W : World) (p : Spot) (cs : List SV) : Prop :=
  match p with
  | none => cs = []
  | some (k, off) => ∃ cur e fr, W.heap[k]? = some (.cells cur e fr) ∧ ∀ (i : Nat) (sv : SV), cs[i]? = some sv → ∃ v, cur[off + i]? = some v ∧ VR g sv v ∧ v.oneCell' = true

theorem startA {W : World} {h : Heap} (hh : ∀ b o, h.get b = some o → b % 2 = 1 ∧ b < 128 ∧ ∃ cs el cur e fr, o = .cells cs false el ∧ W.heap[b / 2]? = some (.cells cur e fr) ∧
      ∀ (i : Nat) (sv : SV), cs[i]? = some sv → ∃ v, cur[i]? = some v ∧ sv = .pl v ∧ v.oneCell' = true)
    {ps : List Spot} {ls : List (List SV)} (hl : ls.length = ps.length) (hrow : ∀ (j : Nat) (p : Spot) (cs : List SV), ps[j]? = some p → ls[j]? = some cs → RowAt (ghA W ps) W p cs) (hs : List Hint) : MRel (ghA W ps) W (Old W) (meA h ls hs) W := by
  have low : ∀ b, b < 128 → (ghA W ps).σ b = b / 2 ∧ (ghA W ps).ω b = 0 ∧ (ghA W ps).v b = false := fun b hb => ⟨if_pos hb, if_pos hb, if_pos hb⟩
  have parts : ∀ b o, (meA h ls hs).h.get b = some o → (∃ j cs, ls[j]? = some cs ∧ b = 128 + 2 * j ∧ o = .cells cs false 0) ∨ h.get b = some o := fun b o ho => argHeap_get _ _ _ b o ho
  have noWr : ∀ b o, (meA h ls hs).h.get b = some o → ¬ o.live (ghA W ps) b := fun b o ho hl => by
    rcases parts b o ho with ⟨j, cs, _, _, rfl⟩ | h1
    · cases hl.1
    · obtain ⟨_, _, cs, el, _, _, _, rfl, _⟩ := hh b o h1
      cases hl.1
  refine ⟨by simp [ghA, meA, hl], by simp only [meA]; omega, fun b o ho => ?_, fun b b' o o' ho hw => (noWr b o ho hw).elim, fun b o ho hw => (noWr b o ho hw).elim, fun r hr => ⟨hr, rfl⟩, rfl, rfl, rfl, Nat.le_refl _, fun i hi => ?_⟩
  · rcases parts b o ho with ⟨j, cs, hj, rfl, rfl⟩ | h1
    · have hlt : j < ps.length := by rw [← hl]; exact (List.getElem?_eq_some_iff.1 hj).1
      have hsp : spotAt ps (128 + 2 * j) = ps[j] := by
        unfold spotAt
        rw [show (128 + 2 * j - 128) / 2 = j by omega, List.getElem?_eq_getElem hlt]
        rfl
      have hn : ¬ (128 + 2 * j < 128) := by omega
      have hr := hrow j ps[j] cs (List.getElem?_eq_getElem hlt) hj
      refine ⟨⟨by show 128 + 2 * j < 128 + 2 * ps.length; omega, rfl⟩, ?_⟩
      have ev : (ghA W ps).v (128 + 2 * j) = (ps[j]).isNone := by
        show (if 128 + 2 * j < 128 then false else (spotAt ps (128 + 2 * j)).isNone) = _
        rw [if_neg hn, hsp]
      have eσ : (ghA W ps).σ (128 + 2 * j) = ((ps[j]).map Prod.fst).getD 0 := by
        show (if 128 + 2 * j < 128 then _ else ((spotAt ps (128 + 2 * j)).map Prod.fst).getD 0) = _
        rw [if_neg hn, hsp]
      have eω : (ghA W ps).ω (128 + 2 * j) = ((ps[j]).map Prod.snd).getD 0 := by
        show (if 128 + 2 * j < 128 then _ else ((spotAt ps (128 + 2 * j)).map Prod.snd).getD 0) = _
        rw [if_neg hn, hsp]
      have eκ : (ghA W ps).κ (128 + 2 * j) = sizeAt W ((ghA W ps).σ (128 + 2 * j)) := rfl
      generalize ps[j] = p at hr ev eσ eω
      rcases p with _ | ⟨k, off⟩
      · exact .inl ⟨ev, hr⟩
      · obtain ⟨cur, e, fr, hw, hc⟩ := hr
        simp only [Option.map_some, Option.getD_some, Option.isNone_some] at ev eσ eω
        refine .inr ⟨ev, cur, e, fr, by rw [eσ]; exact hw, fun i sv hi => ?_, by rw [eκ, eσ]; simp [sizeAt, hw], fun h => by cases h⟩
        obtain ⟨v, k1, k2, k3⟩ := hc i sv hi
        exact ⟨v, by rw [eω]; exact k1, k2, k3⟩
    · obtain ⟨h1', h2, cs, el, cur, e, fr, rfl, hw, hc⟩ := hh b o h1
      obtain ⟨l1, l2, l3⟩ := low b h2
      refine ⟨⟨by show b < 128 + 2 * ps.length; omega, rfl⟩, .inr ⟨l3, cur, e, fr, by rw [l1]; exact hw, fun i sv hi => ?_, ?_, fun h => by cases h⟩⟩
      · obtain ⟨v, k1, k2, k3⟩ := hc i sv hi
        exact ⟨v, by rw [l2, Nat.zero_add]; exact k1, by rw [k2]; simp [VR], k3⟩
      · show sizeAt W ((ghA W ps).σ b) = _
        rw [l1]; simp [sizeAt, hw]
  · obtain ⟨l1, l2, l3⟩ := low (2 * i + 1) (by omega)
    refine ⟨⟨by show 2 * i + 1 < 128 + 2 * ps.length; omega, rfl⟩, by rw [l1]; omega, l2⟩

/-- where a slice's row is told to lie -/
def spotOf (a : Option Addr) (len : Nat) : Spot := if len = 0 then none else a.map fun a => (a.block, a.off)
theorem arg_sl {W : World} {ps : List Spot} {j : Nat} {a : Option Addr} {len cap : Nat} (hp : ps[j]? = some (spotOf a len)) (hi : 0 < len → ∃ x, a = some x ∧ x.spot = none) (hlc : len ≤ cap) : VR (ghA W ps) (.sl (128 + 2 * j) 0 len .no) (.slice a len cap) := by
  have hlt : j < ps.length := (List.getElem?_eq_some_iff.1 hp).1
  have hsp : spotAt ps (128 + 2 * j) = spotOf a len := by
    unfold spotAt
    rw [show (128 + 2 * j - 128) / 2 = j by omega, hp]
    rfl
  have hn : ¬ (128 + 2 * j < 128) := by omega
  simp only [VR]
  refine ⟨⟨by show 128 + 2 * j < 128 + 2 * ps.length; omega, rfl⟩, ?_⟩
  rcases Nat.eq_zero_or_pos len with h0 | h0
  · subst h0
    exact .inr ⟨rfl, a, cap, rfl, trivial⟩
  · obtain ⟨x, rfl, hx⟩ := hi h0
    refine .inl ⟨cap, ?_, hlc, trivial⟩
    have hs2 : spotOf (some x) len = some (x.block, x.off) := by unfold spotOf; rw [if_neg (by omega)]; rfl
    rw [hs2] at hsp
    have eσ : (ghA W ps).σ (128 + 2 * j) = x.block := by
      show (if 128 + 2 * j < 128 then _ else ((spotAt ps (128 + 2 * j)).map Prod.fst).getD 0) = _
      rw [if_neg hn, hsp]; rfl
    have eω : (ghA W ps).ω (128 + 2 * j) = x.off := by
      show (if 128 + 2 * j < 128 then _ else ((spotAt ps (128 + 2 * j)).map Prod.snd).getD 0) = _
      rw [if_neg hn, hsp]; rfl
    rw [eσ, eω]
    cases x
    simp_all
/-- a row of whole numbers stands there -/
theorem row_int {W : World} {g : Gh} {a : Addr} {k : IntKind} {zs : List Int} {len : Nat} {cs : List SV} (h : ∀ i, i < len → W.cell? (a.add i) = some (.int k (zs.getD i 0))) (hcs : cs = (zs.take len).map fun n => .pl (.int k n)) (hlen : len ≤ zs.length) :
    RowAt g W (spotOf (some a) len) cs ∧ (0 < len → ∃ x, some a = some x ∧ x.spot = none) := by
  subst hcs
  rcases Nat.eq_zero_or_pos len with h0 | h0
  · subst h0
    exact ⟨by simp [spotOf, RowAt], fun h => by omega⟩
  · have g0 := h 0 h0
    have hsp : a.spot = none := by simpa [Addr.add] using World.cell?_spot g0
    have hs2 : spotOf (some a) len = some (a.block, a.off) := by unfold spotOf; rw [if_neg (by omega)]; rfl
    refine ⟨?_, fun _ => ⟨a, rfl, hsp⟩⟩
    rw [hs2]
    have one : ∀ i, i < len → ∃ cur e fr, W.heap[a.block]? = some (.cells cur e fr) ∧ cur[a.off + i]? = some (.int k (zs.getD i 0)) := fun i hi => by
      have gi := h i hi
      unfold World.cell? at gi
      split at gi
      · rename_i c e fr hw
        split at gi
        · cases gi
        · have e1 : (a.add i).block = a.block := by simp only [Addr.add]; split <;> rfl
          have e2 : (a.add i).off = a.off + i := by simp only [Addr.add]; split <;> simp_all
          rw [e1] at hw
          rw [e2] at gi
          exact ⟨c, e, fr, hw, gi⟩
      · cases gi
    obtain ⟨cur, e, fr, hw, _⟩ := one 0 h0
    refine ⟨cur, e, fr, hw, fun i sv hi => ?_⟩
    rw [List.getElem?_map, List.getElem?_take] at hi
    split at hi
    · rename_i hlt
      have hz : zs[i]? = some zs[i] := List.getElem?_eq_getElem (by omega)
      rw [hz] at hi
      simp only [Option.map_some, Option.some.injEq] at hi
      subst hi
      obtain ⟨cur', e', fr', hw', hc⟩ := one i hlt
      rw [hw] at hw'
      simp only [Option.some.injEq, Obj.cells.injEq] at hw'
      obtain ⟨rfl, _, _⟩ := hw'
      rw [List.getD_eq_getElem?_getD, hz] at hc
      exact ⟨_, hc, by simp [VR], rfl⟩
    · cases hi
theorem intsS_eq (l : List Int) : intsS l = l.map fun n => .pl (.int .i64 n) := rfl
/-- bytes, as they are read -/
def toU8 (l : List Int) : List UInt8 := l.map fun n => UInt8.ofNat n.toNat
theorem bytesS_toU8 {l : List Int} (h : ∀ n ∈ l, 0 ≤ n ∧ n ≤ 255) : bytesS (toU8 l) = l.map fun n => .pl (.int .u8 n) := by
  unfold bytesS toU8
  rw [List.map_map]
  refine List.map_congr_left fun n hn => ?_
  obtain ⟨h1, h2⟩ := h n hn
  have : ((UInt8.ofNat n.toNat).toNat : Int) = n := by
    rw [UInt8.toNat_ofNat', Nat.mod_eq_of_lt (by omega)]
    omega
  simp only [Function.comp, this]
/-- a slice of whole numbers that is handed in: what is told of it -/
theorem open_slice {H : Type} {enc : TypeId × Value → H} {P : Program} {W : World} {r : Reach} {b0 : Nat} {t e : TypeId} {k : IntKind} {v : Value} {d : DataW H} {p : List MemPlace}
    (ht : P.underlying t = some (.slice e)) (he : P.underlying e = some (.int k)) (hc : P.cellsOf e = 1) (hval : Value.okWide P W r b0 t v) (hd : DataW.Trod enc P W 0 (fun _ => true) true t v d p) :
    ∃ (a : Option Addr) (len cap : Nat) (zs : List Int), v = .slice a len cap ∧ zs.length = len ∧ len ≤ cap ∧ cap ≤ maxLen ∧ (∀ n ∈ zs, (Lit.int k n).wf = true) ∧
      (∀ g, RowAt g W (spotOf a len) (zs.map fun n => .pl (.int k n))) ∧ (0 < len → ∃ x, a = some x ∧ x.spot = none) := by
  obtain ⟨a0, len, cap, rfl⟩ := okWide_slice ht hval
  obtain ⟨fuel, hf⟩ := hd
  rcases open_ints ht he hc hf with ⟨hcs, hx⟩ | ⟨a, len', cap', zs, hcs, _, hl, hm, hz, hx, hcell, hwz⟩
  · simp [Value.cells] at hcs
    obtain ⟨rfl, rfl, rfl⟩ := hcs
    exact ⟨none, 0, 0, [], rfl, rfl, Nat.le_refl _, Nat.zero_le _, by simp, fun g => by simp [spotOf, RowAt], fun h => by omega⟩
  · simp [Value.cells] at hcs
    obtain ⟨rfl, rfl, rfl⟩ := hcs
    simp only [if_true] at hz
    have hlz : len ≤ zs.length := by omega
    have hrow := fun g => row_int (g := g) (len := len) (cs := (zs.take len).map fun n => .pl (.int k n)) (fun i hi => hcell i (by omega)) rfl hlz
    exact ⟨some a, len, cap, zs.take len, rfl, by simp; omega, hl, hm, fun n hn => hwz n (List.mem_of_mem_take hn), fun g => (hrow g).1, (hrow (gh0 W)).2⟩
end
end Go.Sx
