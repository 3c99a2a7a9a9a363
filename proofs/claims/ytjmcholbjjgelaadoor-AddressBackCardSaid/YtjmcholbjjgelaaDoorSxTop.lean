/- The abstract evaluator: from a run to a call out of any world. -/
import Derived.Test.YtjmcholbjjgelaaDoorSxCode
import Derived.Lib.LaidTab
namespace Go.Sx
noncomputable section
set_option linter.unusedVariables false
open Go.RowKit

/-! ### tables of types and functions -/
def TT.All {α : Type} (p : Nat → α → Prop) : TT α → Prop
  | .leaf => True
  | .node l k v r => l.All p ∧ p k v ∧ r.All p
theorem TT.get_node {α : Type} (l : TT α) (k : Nat) (v : α) (r : TT α) (n : Nat) : (TT.node l k v r).get n = match Nat.beq n k with | true => some v | false => match Nat.blt n k with | true => l.get n | false => r.get n := by
  show (Bool.rec (Bool.rec (r.get n) (l.get n) (Nat.blt n k)) (some v) (Nat.beq n k) : Option α) = _
  cases Nat.beq n k
  · cases Nat.blt n k <;> rfl
  · rfl
theorem TT.All.get {α : Type} {p : Nat → α → Prop} : ∀ {t : TT α} {n : Nat} {v : α}, t.All p → t.get n = some v → p n v
  | .leaf, n, v, h, hg => by cases hg
  | .node l k u r, n, v, h, hg => by
    obtain ⟨h1, h2, h3⟩ := h
    rw [TT.get_node] at hg
    split at hg
    · rename_i he
      rw [nbeq] at he
      have : n = k := by simpa using he
      subst this
      simp only [Option.some.injEq] at hg
      subst hg
      exact h2
    · split at hg
      · exact h1.get hg
      · exact h3.get hg

def bodyOk (fn : Func) : Bool := match fn.body with | some c => codeOk c | none => true
def nameOk (fn : Func) : Bool := !(fn.name == "runtime.NumGoroutine")
theorem tabOk_of {P : Program} {T : Tab} (h1 : T.ty.All (TIok P)) (h2 : T.fn.All fun f fn => P.funcs[f]? = some fn ∧ nameOk fn = true ∧ bodyOk fn = true) (h3 : P.follows .mixedOrders = true) : TabOk P T ∧ CodesOk T := by
  refine ⟨⟨fun t i h => h1.get h, fun f fn h => ?_, h3⟩, fun f fn c h hb => ?_⟩
  · obtain ⟨a, b, _⟩ := h2.get h
    refine ⟨a, fun e => ?_⟩
    unfold nameOk at b
    rw [e] at b
    simp at b
  · obtain ⟨_, _, a⟩ := h2.get h
    unfold bodyOk at a
    rw [hb] at a
    exact a

theorem MRel.below {g : Gh} {w0 : World} {F : Nat → Prop} {m : Me} {w w' : World} (h : MRel g w0 F m w) (hb : Below w.heap.size w w') : MRel g w0 F m w' := by
  refine h.grow ⟨hb.os, hb.tape, hb.output, hb.size, fun r hr _ => hb.block r hr⟩

/-- every block that was there is kept -/
abbrev Old (W : World) : Nat → Prop := fun r => r < W.heap.size

theorem callable_of {P : Program} {T : Tab} (hT : TabOk P T) {f : FuncId} (h : hasBody T f = true) : Callable P f := by
  unfold hasBody at h
  split at h
  · rename_i fn hfn
    split at h
    · rename_i c hc
      obtain ⟨h1, h2⟩ := hT.fn f fn hfn
      exact ⟨fn, h1, h2, by rw [hc]; rfl⟩
    · cases h
  · cases h
theorem LandsF.calls {P : Program} {f : FuncId} {vs : List Value} {w : World} {R : Value → World → Prop} (h : LandsF P f vs w R) (hc : Callable P f) : CallsIn Fence.wide 0 P f vs.toArray w (fun e w' => ∃ v, e = .returned v ∧ R v w') := by
  rcases h with ⟨_, h⟩ | ⟨_, v, w', h, _⟩
  · exact h
  · rw [callFunc_run hc] at h
    simp at h

theorem top {P : Program} {T : Tab} (hT : TabOk P T) {I : Intr} (hI : IntrOk P I) (hC : CodesOk T) {n : Nat} {f : FuncId} {args : List SV} {m m' : Me} {sv : SV} (hb : hasBody T f = true) (hrun : callS P T I n f args m = some (sv, m')) (hvc : AllP m'.vc)
    {g : Gh} {W : World} (hrel : MRel g W (Old W) m W) {vs : List Value} (hargs : VRs g args vs) :
    Calls P f vs.toArray W fun e w' => ∃ v, e = .returned v ∧ (∃ g', Ext g g' ∧ VR g' sv v) ∧ Below W.heap.size W w' := by
  refine callsIn_wide.1 (CallsIn.mono (LandsF.calls ((callS_sound hT hI hC n).sound (.fn f) _ _ _ _ hrun hvc g W (Old W) W vs hrel hargs) (callable_of hT hb)) fun e w' h => ?_)
  obtain ⟨v, he, g', hext, hm, hv⟩ := h
  exact ⟨v, he, ⟨g', hext, hv⟩, hm.os, hm.tape, hm.output, hm.size, fun k hk => (hm.keep k hk).2⟩

/-- the letters of a world at a call's start, without arguments that lead anywhere -/
def sizeAt (W : World) (k : Nat) : Nat := match W.heap[k]? with | some (.cells cur _ _) => cur.size | _ => 0
def gh0 (W : World) : Gh := ⟨fun b => b / 2, fun _ => 0, fun b => sizeAt W (b / 2), fun _ => false, fun _ => false, 128⟩

theorem start0 {W : World} {h : Heap} (hh : ∀ b o, h.get b = some o → b % 2 = 1 ∧ b < 128 ∧ ∃ cs el cur e fr, o = .cells cs false el ∧ W.heap[b / 2]? = some (.cells cur e fr) ∧
      ∀ (i : Nat) (sv : SV), cs[i]? = some sv → ∃ v, cur[i]? = some v ∧ sv = .pl v ∧ v.oneCell' = true) : MRel (gh0 W) W (Old W) ⟨h, 128, 128, [], []⟩ W := by
  refine ⟨rfl, (by decide : 128 % 2 = 0), fun b o ho => ?_, fun b b' o o' ho hw _ _ _ => ?_, fun b o ho hw => ?_, fun r hr => ⟨hr, rfl⟩, rfl, rfl, rfl, Nat.le_refl _, fun i hi => ?_⟩
  · obtain ⟨h1, h2, cs, el, cur, e, fr, rfl, hw, hc⟩ := hh b o ho
    refine ⟨⟨h2, rfl⟩, .inr ⟨rfl, cur, e, fr, hw, fun i sv hi => ?_, ?_, fun h => by cases h⟩⟩
    · obtain ⟨v, k1, k2, k3⟩ := hc i sv hi
      exact ⟨v, by show cur[0 + i]? = _; rw [Nat.zero_add]; exact k1, by rw [k2]; simp [VR], k3⟩
    · show sizeAt W (b / 2) = _
      simp [sizeAt, hw]
  · obtain ⟨h1, h2, cs, el, cur, e, fr, rfl, _⟩ := hh b o ho
    cases hw.1
  · obtain ⟨h1, h2, cs, el, cur, e, fr, rfl, _⟩ := hh b o ho
    cases hw.1
  · refine ⟨⟨by show 2 * i + 1 < 128; omega, rfl⟩, ?_, rfl⟩
    show (2 * i + 1) / 2 = i
    omega

/-- a table's block -/
def tabCells (k : IntKind) (zs : List Int) : List SV := zs.map fun z => .pl (.int k z)
theorem tab_heap {P : Program} {W : World} {name : String} {k : IntKind} {zs : List Int} {g : Nat} (h : Lib.TabIs P W name k zs) (hg : P.globalNamed name = some g) :
    ∃ cur e fr, W.heap[g]? = some (.cells cur e fr) ∧ ∀ (i : Nat) (sv : SV), (tabCells k zs)[i]? = some sv → ∃ v, cur[i]? = some v ∧ sv = .pl v ∧ v.oneCell' = true := by
  unfold Lib.TabIs World.var? at h
  rw [hg] at h
  simp only [Option.bind_some] at h
  split at h
  · rename_i cs e fr hw
    simp only [Option.some.injEq] at h
    subst h
    refine ⟨_, e, fr, hw, fun i sv hi => ?_⟩
    simp only [tabCells, List.getElem?_map] at hi
    cases hz : zs[i]? with
    | none => simp [hz] at hi
    | some z =>
      simp only [hz, Option.map_some, Option.some.injEq] at hi
      subst hi
      exact ⟨.int k z, by simp [hz], rfl, rfl⟩
  · cases h

/-! ### answers that are known -/
def noI : Intr := { own := fun _ _ _ _ _ _ _ _ _ _ => False, ownC := fun _ _ _ _ _ _ _ => False, ans := fun _ _ _ _ => none }
def ansI (a : FuncId → List SV → Heap → Nat → Option (SV × List AObj)) : Intr := { own := noI.own, ownC := noI.ownC, ans := a }
def one (k : FuncId) (r : List SV → Option SV) : Intr := ansI fun f args _ _ => match Nat.beq f k with
  | false => none
  | true => match r args with
    | some v => some (v, [])
    | none => none
def orI (I J : Intr) : Intr := ansI fun f args h nx => match I.ans f args h nx with
  | some x => some x
  | none => J.ans f args h nx
/-- with words on loops and calls, each to be proved -/
def told (P : Program) (I : Intr) : Intr := { own := LoopT P, ownC := CallT P, ans := I.ans }
theorem IntrOk.told {P : Program} {I : Intr} (h : IntrOk P I) : IntrOk P (told P I) := ⟨fun _ _ _ _ _ _ _ _ _ _ _ x => x, fun _ _ _ _ _ _ _ x => x, h.sound⟩
theorem ansI_ok {P : Program} {a : FuncId → List SV → Heap → Nat → Option (SV × List AObj)} (h : ∀ (f : FuncId) (args : List SV) (h : Heap) (nx : Nat) (v : SV) (new : List AObj), a f args h nx = some (v, new) →
    ∀ (g : Gh) (w0 : World) (F : Nat → Prop) (m : Me) (w : World) (vs : List Value), m.h = h → m.nx = nx → MRel g w0 F m w → VRs g args vs →
      LandsF P f vs w (fun v' w' => Turns g w0 F (addAll new m) v v' w')) : IntrOk P (ansI a) := ⟨fun _ _ _ _ _ _ _ _ _ _ _ x => x.elim, fun _ _ _ _ _ _ _ x => x.elim, h⟩

theorem noI_ok (P : Program) : IntrOk P noI := ⟨fun _ _ _ _ _ _ _ _ _ _ _ x => x.elim, fun _ _ _ _ _ _ _ x => x.elim, fun f args h nx v new e => by simp [noI] at e⟩
theorem IntrOk.or {P : Program} {I J : Intr} (hI : IntrOk P I) (hJ : IntrOk P J) : IntrOk P (orI I J) := ansI_ok fun f args h nx v new e => by
  split at e
  · rename_i x hx
    exact hI.sound f args h nx v new (by rw [hx]; exact e)
  · exact hJ.sound f args h nx v new e
theorem one_ok {P : Program} {k : FuncId} {r : List SV → Option SV} (hk : Callable P k)
    (h : ∀ (args : List SV) (sv : SV), r args = some sv → ∀ (g : Gh) (vs : List Value) (w : World), VRs g args vs → Calls P k vs.toArray w fun e w' => ∃ v, e = .returned v ∧ VR g sv v ∧ Below w.heap.size w w') : IntrOk P (one k r) :=
  ansI_ok fun f args hp nx v new e g w0 F m w vs hm hn hrel hargs => by
    split at e
    · cases e
    · rename_i hf
      rw [nbeq] at hf
      have hf' : f = k := by simpa using hf
      subst hf'
      split at e
      · rename_i sv hr
        simp only [Option.some.injEq, Prod.mk.injEq] at e
        obtain ⟨rfl, rfl⟩ := e
        refine .inl ⟨hk, callsIn_wide.2 ((h args sv hr g vs w hargs).mono fun e w' he => ?_)⟩
        obtain ⟨v, rfl, hv, hb⟩ := he
        exact ⟨v, rfl, g, Ext.refl g, hrel.below hb, hv⟩
      · cases e
/-- a function of the model's tables that hands back its one argument -/
def sameI (k : FuncId) : Intr := ansI fun f args _ _ => match Nat.beq f k with
  | false => none
  | true => match args with
    | [x] => some (x, [])
    | _ => none
theorem sameI_ok {P : Program} {k : FuncId} (hf : (P.funcs[k]?).isSome = true) (h : ∀ (v : Value) (w : World), (callFunc k #[v]).run P w = .ok (.value v) w) : IntrOk P (sameI k) :=
  ansI_ok fun f args hp nx v new e g w0 F m w vs hm hn hrel hargs => by
    split at e
    · cases e
    · rename_i hfk
      rw [nbeq] at hfk
      have hf' : f = k := by simpa using hfk
      subst hf'
      split at e
      · rename_i x
        simp only [Option.some.injEq, Prod.mk.injEq] at e
        obtain ⟨rfl, rfl⟩ := e
        simp only [VRs] at hargs
        obtain ⟨u, us, rfl, hu, rfl⟩ := hargs
        exact .inr ⟨hf, u, w, h u w, g, Ext.refl g, hrel, hu⟩
      · cases e
/-- a function of the model's tables that looks at plain values alone -/
def extI (k : FuncId) (r : List SV → Option Value) : Intr := ansI fun f args _ _ => match Nat.beq f k with
  | false => none
  | true => match r args with
    | some v => some (.pl v, [])
    | none => none
theorem extI_ok {P : Program} {k : FuncId} {r : List SV → Option Value} (hf : (P.funcs[k]?).isSome = true)
    (h : ∀ (args : List SV) (v : Value), r args = some v → ∀ (g : Gh) (vs : List Value) (w : World), VRs g args vs → (callFunc k vs.toArray).run P w = .ok (.value v) w) : IntrOk P (extI k r) :=
  ansI_ok fun f args hp nx v new e g w0 F m w vs hm hn hrel hargs => by
    split at e
    · cases e
    · rename_i hfk
      rw [nbeq] at hfk
      have hf' : f = k := by simpa using hfk
      subst hf'
      split at e
      · rename_i x hr
        simp only [Option.some.injEq, Prod.mk.injEq] at e
        obtain ⟨rfl, rfl⟩ := e
        exact .inr ⟨hf, x, w, h args x hr g vs w hargs, g, Ext.refl g, hrel, by simp only [VR]⟩
      · cases e

end
end Go.Sx
