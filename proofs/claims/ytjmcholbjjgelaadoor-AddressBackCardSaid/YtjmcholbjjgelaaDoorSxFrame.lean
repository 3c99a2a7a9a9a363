/- The abstract evaluator: what is told of memory, in part; blocks that are laid ahead. -/
import Derived.Test.YtjmcholbjjgelaaDoorSxPlain
namespace Go.Sx
noncomputable section
set_option linter.unusedVariables false
open Go.RowKit

theorem AObj.live_of {g : Gh} {b : Nat} {o : AObj} (h : o.there g b) (hw : o.wrB = true) : o.live g b := by
  cases o <;> simp_all [AObj.there, AObj.live, AObj.wrB]

/-- these blocks are set aside -/
def Aside (g : Gh) (F : Nat → Prop) (m : Me) (Y : Nat → Prop) : Nat → Prop := fun r => F r ∨ ∃ y o, Y y ∧ m.h.get y = some o ∧ o.there g y ∧ g.σ y = r
theorem MRel.out {g : Gh} {w0 : World} {F : Nat → Prop} {m : Me} {w : World} (h : MRel g w0 F m w) (m1 : Me) (hn : m1.nx = m.nx) (Y : Nat → Prop) (hg : ∀ b o, m1.h.get b = some o → m.h.get b = some o ∧ ¬ Y b) : MRel g w (Aside g F m Y) m1 w := by
  refine ⟨by rw [hn]; exact h.n, by rw [hn]; exact h.even, fun b o ho => h.heap b o (hg b o ho).1, fun b b' o o' h1 h2 h3 h4 h5 => h.inj b b' o o' (hg b o h1).1 h2 (hg b' o' h3).1 h4 h5, fun b o h1 h2 h3 => ?_, fun r hr => ?_, rfl, rfl, rfl, Nat.le_refl _, h.glob⟩
  · obtain ⟨k1, k2⟩ := hg b o h1
    rcases h3 with h3 | ⟨y, oy, hy, hy1, hy2, hy3⟩
    · exact h.frame b o k1 h2 h3
    · have := h.inj b y o oy k1 h2 hy1 hy2 hy3.symm
      subst this
      exact k2 hy
  · refine ⟨?_, rfl⟩
    rcases hr with hr | ⟨y, oy, hy, hy1, hy2, rfl⟩
    · exact Nat.lt_of_lt_of_le (h.keep r hr).1 h.size
    · exact h.heap.lt hy1 hy2
theorem MRel.back {g g' : Gh} {w0 : World} {F : Nat → Prop} {m m1 m2 : Me} {w w' : World} {Y : Nat → Prop} (h : MRel g w0 F m w) (e : Ext g g') (h1 : MRel g' w (Aside g F m Y) m1 w')
    (hwr : ∀ b o, m1.h.get b = some o → (m.h.get b = some o ∧ ¬ Y b) ∨ o.wrB = true) (hn : m2.nx = m1.nx) (hg : ∀ b o, m2.h.get b = some o → m1.h.get b = some o ∨ (Y b ∧ m.h.get b = some o)) : MRel g' w0 F m2 w' := by
  have inY : ∀ y o, Y y → m.h.get y = some o → o.there g' y → g.has y ∧ o.there g y ∧ g'.σ y = g.σ y ∧ Aside g F m Y (g'.σ y) := fun y o hy ho ht => by
    have hh := (h.heap y o ho).1
    have ht' := (AObj.there_ext e hh).1 ht
    exact ⟨hh, ht', e.σ y hh, .inr ⟨y, o, hy, ho, ht', (e.σ y hh).symm⟩⟩
  refine ⟨by rw [hn]; exact h1.n, by rw [hn]; exact h1.even, fun b o ho => ?_, fun b b' o o' ho hl ho' ht hs => ?_, fun b o ho hl hF => ?_, fun r hr => ?_, h1.os.trans h.os, h1.tape.trans h.tape, h1.output.trans h.output, Nat.le_trans h.size h1.size, h1.glob⟩
  · rcases hg b o ho with h2 | ⟨hy, h2⟩
    · exact h1.heap b o h2
    · obtain ⟨k1, k2⟩ := h.heap b o h2
      refine ⟨e.has k1, k2.ext e k1 fun ht => ?_⟩
      exact (h1.keep _ (.inr ⟨b, o, hy, h2, ht, rfl⟩)).2
  · rcases hg b o ho with h2 | ⟨hy, h2⟩
    · rcases hg b' o' ho' with h3 | ⟨hy', h3⟩
      · exact h1.inj b b' o o' h2 hl h3 ht hs
      · obtain ⟨_, _, _, k⟩ := inY b' o' hy' h3 ht
        rw [← hs] at k
        exact absurd k (h1.frame b o h2 hl)
    · obtain ⟨kh, kt, kσ, k⟩ := inY b o hy h2 (AObj.live_there hl)
      rcases hg b' o' ho' with h3 | ⟨hy', h3⟩
      · rcases hwr b' o' h3 with ⟨h4, h5⟩ | h4
        · have hh' := (h.heap b' o' h4).1
          have := h.inj b b' o o' h2 ((AObj.live_ext e kh).1 hl) h4 ((AObj.there_ext e hh').1 ht) (by rw [← kσ, hs, e.σ b' hh'])
          subst this
          exact absurd hy h5
        · rw [hs] at k
          exact absurd k (h1.frame b' o' h3 (AObj.live_of ht h4))
      · obtain ⟨kh', kt', kσ', _⟩ := inY b' o' hy' h3 ht
        exact h.inj b b' o o' h2 ((AObj.live_ext e kh).1 hl) h3 kt' (by rw [← kσ, hs, kσ'])
  · rcases hg b o ho with h2 | ⟨hy, h2⟩
    · exact h1.frame b o h2 hl (.inl hF)
    · have hh := (h.heap b o h2).1
      rw [e.σ b hh] at hF
      exact h.frame b o h2 ((AObj.live_ext e hh).1 hl) hF
  · obtain ⟨k1, k2⟩ := h.keep r hr
    exact ⟨k1, ((h1.keep r (.inl hr)).2).trans k2⟩

/-! ### blocks that are laid ahead -/
/-- letters that are told of later: the numbers are taken, nobody has them -/
def Gh.ahead (g : Gh) (n : Nat) : Gh := ⟨g.σ, g.ω, g.κ, g.v, fun b => if b < g.n then g.ho b else true, n⟩
theorem Gh.ahead_ext (g : Gh) {n : Nat} (h : g.n ≤ n) : Ext g (g.ahead n) :=
  ⟨⟨h, fun b hb => by show (if b < g.n then g.ho b else true) = false; rw [if_pos hb.1]; exact hb.2, fun _ _ => rfl, fun _ _ => rfl, fun _ _ => rfl, fun _ _ => rfl⟩,
    fun b hb hh => by show (if b < g.n then g.ho b else true) = true; rw [if_pos hb]; exact hh⟩
theorem MRel.ahead {g : Gh} {w0 : World} {F : Nat → Prop} {m m1 : Me} {w : World} (h : MRel g w0 F m w) (hn : m.nx ≤ m1.nx) (he : m1.nx % 2 = 0) (hg : ∀ b o, m1.h.get b = some o → m.h.get b = some o) : MRel (g.ahead m1.nx) w0 F m1 w := by
  have hext := g.ahead_ext (n := m1.nx) (by rw [h.n]; exact hn)
  refine ⟨rfl, he, fun b o ho => ?_, fun b b' o o' h1 h2 h3 h4 h5 => ?_, fun b o h1 h2 h3 => ?_, h.keep, h.os, h.tape, h.output, h.size, fun i hi => ?_⟩
  · obtain ⟨k1, k2⟩ := h.heap b o (hg b o ho)
    exact ⟨hext.has k1, k2.ext hext k1 fun _ => rfl⟩
  · exact h.inj b b' o o' (hg b o h1) ((AObj.live_ext hext (h.heap b o (hg b o h1)).1).1 h2) (hg b' o' h3) ((AObj.there_ext hext (h.heap b' o' (hg b' o' h3)).1).1 h4) h5
  · exact h.frame b o (hg b o h1) ((AObj.live_ext hext (h.heap b o (hg b o h1)).1).1 h2) h3
  · obtain ⟨k1, k2, k3⟩ := h.glob i hi
    exact ⟨hext.has k1, k2, k3⟩
/-- a number that was taken is had -/
def Gh.fill (g : Gh) (b r k : Nat) : Gh := ⟨upd g.σ b r, upd g.ω b 0, upd g.κ b k, fun y => if y = b then false else g.v y, fun y => if y = b then false else g.ho y, g.n⟩
theorem Gh.fill_ext (g : Gh) {b : Nat} (hb : g.ho b = true) (r k : Nat) : Ext0 g (g.fill b r k) := by
  have hne : ∀ c, g.has c → c ≠ b := fun c hc e => by subst e; have := hc.2; rw [hb] at this; cases this
  exact ⟨Nat.le_refl _, fun c hc => by show (if c = b then false else g.ho c) = false; rw [if_neg (hne c hc)]; exact hc.2, fun c hc => upd_ne _ (hne c hc), fun c hc => upd_ne _ (hne c hc), fun c hc => upd_ne _ (hne c hc), fun c hc => if_neg (hne c hc)⟩
theorem MRel.fill {g : Gh} {w0 : World} {F : Nat → Prop} {m m' : Me} {w w' : World} (h : MRel g w0 F m w) {b : Nat} (hbn : b < g.n) (hb : g.ho b = true) (hn : Near w w' none) {cur : Array Value} {e : TypeId} (hw : w'.heap[w.heap.size]? = some (.cells cur e (0, 0)))
    {cs : List SV} (hcs : ∀ (i : Nat) (sv : SV), cs[i]? = some sv → ∃ v, cur[i]? = some v ∧ VR g sv v ∧ v.oneCell' = true) (hnx : m'.nx = m.nx)
    (hg : ∀ c o, m'.h.get c = some o → (c = b ∧ o = .cells cs true e) ∨ (c ≠ b ∧ m.h.get c = some o)) : MRel (g.fill b w.heap.size cur.size) w0 F m' w' := by
  have hext := g.fill_ext hb w.heap.size cur.size
  have hσ : (g.fill b w.heap.size cur.size).σ b = w.heap.size := upd_eq _ _ _
  have old : ∀ c o, c ≠ b → m.h.get c = some o → g.has c ∧ (g.fill b w.heap.size cur.size).σ c = g.σ c ∧ (o.there g c → g.σ c < w.heap.size) := fun c o hne hc => by
    have hh := (h.heap c o hc).1
    exact ⟨hh, hext.σ c hh, fun ht => h.heap.lt hc ht⟩
  refine ⟨by rw [hnx]; exact h.n, by rw [hnx]; exact h.even, fun c o ho => ?_, fun c c' o o' ho hl ho' ht hs => ?_, fun c o ho hl hF => ?_, fun r hr => ?_, hn.os.trans h.os, hn.tape.trans h.tape, hn.output.trans h.output, Nat.le_trans h.size hn.size, fun i hi => ?_⟩
  · rcases hg c o ho with ⟨rfl, rfl⟩ | ⟨hne, hc⟩
    · refine ⟨⟨hbn, if_pos rfl⟩, .inr ⟨if_pos rfl, cur, e, (0, 0), by rw [hσ]; exact hw, fun i sv hi => ?_, upd_eq _ _ _, fun _ _ => ⟨upd_eq _ _ _, rfl, rfl⟩⟩⟩
      obtain ⟨v, h1, h2, h3⟩ := hcs i sv hi
      exact ⟨v, by rw [show (g.fill c w.heap.size cur.size).ω c = 0 from upd_eq _ _ _, Nat.zero_add]; exact h1, VR.ext0 hext _ _ h2, h3⟩
    · obtain ⟨k1, k2⟩ := h.heap c o hc
      exact ⟨hext.has k1, k2.ext0 hext k1 fun ht => hn.block _ (h.heap.lt hc ht) (by simp)⟩
  · rcases hg c o ho with ⟨rfl, rfl⟩ | ⟨hne, hc⟩
    · rcases hg c' o' ho' with ⟨rfl, rfl⟩ | ⟨hne', hc'⟩
      · rfl
      · obtain ⟨hh, k1, k2⟩ := old c' o' hne' hc'
        rw [hσ, k1] at hs
        have := k2 ((AObj.there_ext0 hext hh).1 ht)
        omega
    · obtain ⟨hh, k1, k2⟩ := old c o hne hc
      have hl' := (AObj.live_ext0 hext hh).1 hl
      rcases hg c' o' ho' with ⟨rfl, rfl⟩ | ⟨hne', hc'⟩
      · rw [hσ, k1] at hs
        have := k2 (AObj.live_there hl')
        omega
      · obtain ⟨hh', k1', _⟩ := old c' o' hne' hc'
        exact h.inj c c' o o' hc hl' hc' ((AObj.there_ext0 hext hh').1 ht) (by rw [← k1, hs, k1'])
  · rcases hg c o ho with ⟨rfl, rfl⟩ | ⟨hne, hc⟩
    · rw [hσ] at hF
      have := (h.keep _ hF).1
      have := h.size
      omega
    · obtain ⟨hh, k1, _⟩ := old c o hne hc
      rw [k1] at hF
      exact h.frame c o hc ((AObj.live_ext0 hext hh).1 hl) hF
  · obtain ⟨k1, k2⟩ := h.keep r hr
    exact ⟨k1, (hn.block r (Nat.lt_of_lt_of_le k1 h.size) (by simp)).trans k2⟩
  · obtain ⟨k1, k2, k3⟩ := h.glob i hi
    exact ⟨hext.has k1, by rw [hext.σ _ k1, k2], by rw [hext.ω _ k1, k3]⟩

theorem hide_get (m : Me) (b c : Nat) : (m.hide b).h.get c = if c = b then none else m.h.get c := by cases m; simp only [Me.hide, Tr.get_del]
theorem hide_nx (m : Me) (b : Nat) : (m.hide b).nx = m.nx := by cases m; rfl
theorem hide_vc (m : Me) (b : Nat) : (m.hide b).vc = m.vc := by cases m; rfl
theorem hide_wm (m : Me) (b : Nat) : (m.hide b).wm = m.wm := by cases m; rfl
theorem hideAll_spec : ∀ (u : List Nat) (m : Me), (hideAll u m).nx = m.nx ∧ (hideAll u m).vc = m.vc ∧ (hideAll u m).wm = m.wm ∧ ∀ c, (hideAll u m).h.get c = if c ∈ u then none else m.h.get c
  | [], m => ⟨rfl, rfl, rfl, fun c => by simp [hideAll]⟩
  | b :: u, m => by
    obtain ⟨h1, h2, h3, h4⟩ := hideAll_spec u (m.hide b)
    simp only [hideAll]
    refine ⟨by rw [h1, hide_nx], by rw [h2, hide_vc], by rw [h3, hide_wm], fun c => ?_⟩
    rw [h4 c, hide_get]
    by_cases e1 : c ∈ u
    · simp [e1]
    · by_cases e2 : c = b <;> simp [e1, e2]
theorem show_get (m : Me) (b c : Nat) (o : Option AObj) : (m.show b o).h.get c = if c = b ∧ o.isSome = true then o else m.h.get c := by
  cases m
  cases o with
  | none => simp [Me.show]
  | some o =>
    simp only [Me.show, Tr.get_put]
    by_cases e : c = b <;> simp [e]
theorem show_nx (m : Me) (b : Nat) (o : Option AObj) : (m.show b o).nx = m.nx := by cases m; cases o <;> rfl
theorem show_vc (m : Me) (b : Nat) (o : Option AObj) : (m.show b o).vc = m.vc := by cases m; cases o <;> rfl
theorem show_wm (m : Me) (b : Nat) (o : Option AObj) : (m.show b o).wm = m.wm := by cases m; cases o <;> rfl
theorem showAll_spec (h : Heap) : ∀ (u : List Nat) (m : Me), (showAll h u m).nx = m.nx ∧ (showAll h u m).vc = m.vc ∧ (showAll h u m).wm = m.wm ∧ ∀ c, (showAll h u m).h.get c = if c ∈ u ∧ (h.get c).isSome = true then h.get c else m.h.get c
  | [], m => ⟨rfl, rfl, rfl, fun c => by simp [showAll]⟩
  | b :: u, m => by
    obtain ⟨h1, h2, h3, h4⟩ := showAll_spec h u (m.show b (h.get b))
    simp only [showAll]
    refine ⟨by rw [h1, show_nx], by rw [h2, show_vc], by rw [h3, show_wm], fun c => ?_⟩
    rw [h4 c, show_get]
    by_cases e1 : c ∈ u
    · by_cases e2 : (h.get c).isSome = true
      · simp [e1, e2]
      · by_cases e3 : c = b
        · subst e3; simp [e2]
        · simp [e2, e3]
    · by_cases e3 : c = b
      · subst e3; simp [e1]
      · simp [e1, e3]

theorem fltAt_mem : ∀ (fl : List Flt) (i : Nat) (x : Flt), fltAt i fl = some x → x ∈ fl ∧ x.i = i
  | [], i, x, h => by simp [fltAt] at h
  | y :: r, i, x, h => by
    simp only [fltAt] at h
    split at h
    · rename_i he
      rw [nbeq] at he
      simp only [Option.some.injEq] at h
      subst h
      exact ⟨List.mem_cons_self, by simpa using he⟩
    · obtain ⟨h1, h2⟩ := fltAt_mem r i x h
      exact ⟨List.mem_cons_of_mem _ h1, h2⟩
theorem fltAt_none : ∀ (fl : List Flt) (i : Nat), fltAt i fl = none → ∀ x ∈ fl, x.i ≠ i
  | [], i, h, x, hx => by cases hx
  | y :: r, i, h, x, hx => by
    simp only [fltAt] at h
    split at h
    · cases h
    · rename_i he
      rw [nbeq] at he
      rcases List.mem_cons.1 hx with rfl | hx
      · simpa using he
      · exact fltAt_none r i h x hx
theorem unbound_mem {bef : Nat} : ∀ (fl : List Flt) (b : Nat), b ∈ unbound bef fl ↔ ∃ x ∈ fl, bit bef x.i = false ∧ x.b = b
  | [], b => by simp [unbound]
  | y :: r, b => by
    simp only [unbound]
    split
    · rename_i h
      rw [unbound_mem r b]
      constructor
      · rintro ⟨x, h1, h2⟩
        exact ⟨x, List.mem_cons_of_mem _ h1, h2⟩
      · rintro ⟨x, h1, h2, h3⟩
        rcases List.mem_cons.1 h1 with rfl | h1
        · rw [h] at h2; cases h2
        · exact ⟨x, h1, h2, h3⟩
    · rename_i h
      rw [List.mem_cons, unbound_mem r b]
      constructor
      · rintro (rfl | ⟨x, h1, h2⟩)
        · exact ⟨y, List.mem_cons_self, h, rfl⟩
        · exact ⟨x, List.mem_cons_of_mem _ h1, h2⟩
      · rintro ⟨x, h1, h2, h3⟩
        rcases List.mem_cons.1 h1 with rfl | h1
        · exact .inl h3.symm
        · exact .inr ⟨x, h1, h2, h3⟩

/-! ### what lays a block -/
section
variable {P : Program} {T : Tab} (hT : TabOk P T)
include hT
theorem lay_alloc {t : TypeId} {m m' : Me} {v : SV} (h : eAlloc T t m = some (v, m')) : ∃ cs, v = .ptr m.nx 0 ∧ m' = m.new (.cells cs true t) ∧
    ∀ (g : Gh) (w : World) (ρ' : Operand → Value) (o : Oper), o.op = .alloc t → ∃ vs : Array Value, (execOp ρ' o).run P w = .ok (.value (.pointer (some ⟨w.heap.size, 0, none⟩))) (w.alloc (.cells vs t)) ∧ VRs g cs vs.toList ∧ ∀ u ∈ vs.toList, u.oneCell' = true := by
  unfold eAlloc zeroOf? at h
  cases hi : T.ty.get t with
  | none => simp [hi] at h
  | some ti =>
    simp only [hi, Option.some.injEq, Prod.mk.injEq] at h
    obtain ⟨rfl, rfl⟩ := h
    obtain ⟨inf, z, hp, _, _, hz, hzc, hone, _⟩ := ty_ok hT hi
    refine ⟨_, rfl, rfl, fun g w ρ' o ho => ⟨z.cells, ?_, by rw [hzc]; exact VRs.pls _, fun u hu => oneV_eq u (List.all_eq_true.1 hone u (by rw [← hzc]; exact hu))⟩⟩
    simp [execOp, ho, Instr.alloc, zeroValue, typeInfo, hp, hz, newVar, newRow]
theorem lay_make {r i : Nat} {t : TypeId} {l c : Option Int} {m m' : Me} {v : SV} (h : eMakeSlice T r i t l c m = some (v, m')) : ∃ (n : Nat) (e : TypeId) (sz : Nat) (cs : List SV) (m2 : Me),
    l = some (n : Int) ∧ c = some (n : Int) ∧ v = .sl m2.nx 0 n (.own sz) ∧ m' = m2.new (.cells cs true e) ∧ Owes m m2 ∧
    (AllP m2.vc → ∀ (g : Gh) (w : World) (ρ' : Operand → Value) (o : Oper) (lo co : Operand) (kl kc : IntKind), o.op = .makeSlice t lo co → ρ' lo = .int kl n → ρ' co = .int kc n →
      ∃ vs : Array Value, (execOp ρ' o).run P w = .ok (.value (.slice (some ⟨w.heap.size, 0, none⟩) n n)) (w.alloc (.cells vs e)) ∧ VRs g cs vs.toList ∧ (∀ u ∈ vs.toList, u.oneCell' = true) ∧ vs.size = n * sz ∧ n ≤ maxLen) := by
  unfold eMakeSlice at h
  split at h
  · rename_i n
    split at h
    · rename_i k
      split at h
      · rename_i hnk
        have hnk' : n = k := by rw [nbeq] at hnk; simpa using hnk
        subst hnk'
        split at h
        · rename_i e he
          have hu := sliceOf_ok hT he
          unfold makeAt at h
          split at h
          · rename_i ti hi
            obtain ⟨inf, z, hp, hsz, hby, hz, hzc, hone, hzl⟩ := ty_ok hT hi
            split at h
            · rename_i m1 hck
              split at h
              rename_i cs m2 hrc
              simp only [Option.some.injEq, Prod.mk.injEq] at h
              obtain ⟨rfl, rfl⟩ := h
              refine ⟨n, e, ti.size, cs, m2, rfl, rfl, rfl, rfl, (check_owes hck).trans (recell_owes hrc), fun hvc g w ρ' o lo co kl kc ho hl hc => ?_⟩
              obtain ⟨c1, c2, c3⟩ := check_spec hck
              obtain ⟨d1, d2, d3⟩ := recell_spec hrc
              obtain ⟨hcs, hv1⟩ := d1 hvc
              obtain ⟨hcc, hv0⟩ := c1 hv1
              subst hcs
              simp only [Bool.and_eq_true, Nat.ble_eq] at hcc
              have hc2 : n < 9223372036854775808 := by simpa using hcc.2
              have hzs : z.cells.size = ti.size := by rw [← Array.length_toList, hzc, hzl]
              have hbb : (inf.bytes : Int) * (n : Int) ≤ 281474976710656 := by
                rw [hby]
                have h1 := hcc.1
                have h2 : ((n * ti.bytes : Nat) : Int) ≤ 140737488355328 := by omega
                rw [Int.natCast_mul, Int.mul_comm] at h2
                omega
              have hrun := run_makeSlice_any (P := P) w t e inf z hu hp hz kl kc (n : Int) (n : Int) (by omega) (Int.le_refl _) hbb (by omega)
              have hcells : (madeCells z.cells ((n : Int).toNat * inf.size)).toList = rep ti.zero n := by
                rw [hsz]
                have := made_eq z.cells n ti.size hzs
                rw [hzc] at this
                exact this
              refine ⟨madeCells z.cells ((n : Int).toNat * inf.size), ?_, by rw [hcells, rep_map]; exact VRs.pls _, fun u hu' => ?_, ?_, ?_⟩
              · simp only [execOp, ho, hl, hc]
                rw [Sem.run_bind, hrun]
                rfl
              · rw [hcells] at hu'
                obtain ⟨j, hj, rfl⟩ := List.mem_iff_getElem.1 hu'
                have hlt : j < n * ti.zero.length := by rw [rep_length] at hj; exact hj
                have hh := rep_get ti.zero n j hlt
                rw [List.getElem?_eq_getElem hj] at hh
                exact oneV_eq _ (List.all_eq_true.1 hone _ (List.mem_of_getElem? hh.symm))
              · rw [← Array.length_toList, hcells, rep_length, hzl]
              · unfold maxLen; omega
            · cases h
          · cases h
        · cases h
      · cases h
    · cases h
  · cases h

/-- a block that was laid ahead: what the operation does when it comes -/
structure Laid (P : Program) (o : Oper) (f : Fra) (x : Flt) (ob : AObj) : Prop where
  guard : o.guard = none
  run : ∃ cs e, ob = .cells cs true e ∧ ∀ (g : Gh) (a : Act) (w : World), ∃ (vs : Array Value) (val : Value), (execOp a.eval o).run P w = .ok (.value val) (w.alloc (.cells vs e)) ∧ VRs g cs vs.toList ∧ (∀ u ∈ vs.toList, u.oneCell' = true) ∧
    ∀ g' : Gh, g'.σ x.b = w.heap.size → g'.ω x.b = 0 → g'.κ x.b = vs.size → g'.v x.b = false → g'.has x.b → VR g' x.v val
theorem floats_spec {r : Nat} {f : Fra} : ∀ (ops : List Oper) (i : Nat) (m : Me) (fl : List Flt) (m' : Me), floats T r f ops i m = some (fl, m') → m.nx % 2 = 0 → (∀ b, m.nx ≤ b → m.h.get b = none) → AllP m'.vc →
    AllP m.vc ∧ m.nx ≤ m'.nx ∧ m'.nx % 2 = 0 ∧ (∀ b, m'.nx ≤ b → m'.h.get b = none) ∧ m'.wm = m.wm ∧ (∀ b, b < m.nx → m'.h.get b = m.h.get b) ∧
    (∀ b, m.nx ≤ b → (m'.h.get b).isSome = true → ∃ x ∈ fl, x.b = b) ∧
    (∀ x ∈ fl, i ≤ x.i ∧ m.nx ≤ x.b ∧ x.b < m'.nx ∧ ∃ o ob, ops[x.i - i]? = some o ∧ m'.h.get x.b = some ob ∧ Laid P o f x ob) ∧
    (∀ x ∈ fl, ∀ y ∈ fl, x.b = y.b → x.i = y.i) ∧ (∀ x ∈ fl, ∀ y ∈ fl, x.i = y.i → x.b = y.b) ∧
    (∀ j o, ops[j]? = some o → isFl o = true → ∃ x ∈ fl, x.i = i + j)
  | [], i, m, fl, m', h, he, hno, hvc => by
    simp only [floats, Option.some.injEq, Prod.mk.injEq] at h
    obtain ⟨rfl, rfl⟩ := h
    exact ⟨hvc, Nat.le_refl _, he, hno, rfl, fun _ _ => rfl, fun b hb hs => (by rw [hno b hb] at hs; cases hs), fun x hx => (by cases hx), fun x hx => (by cases hx), fun x hx => (by cases hx), fun j o ho => (by simp at ho)⟩
  | o :: ops, i, m, fl, m', h, he, hno, hvc => by
    simp only [floats] at h
    split at h
    · rename_i hf
      obtain ⟨h0, h1, h2, h3, h4, h5, h6, h7, h8, h9, h10⟩ := floats_spec ops (i + 1) m fl m' h he hno hvc
      refine ⟨h0, h1, h2, h3, h4, h5, h6, fun x hx => ?_, h8, h9, fun j o' hj hf' => ?_⟩
      · obtain ⟨k1, k2, k3, o', ob, k4, k5⟩ := h7 x hx
        refine ⟨by omega, k2, k3, o', ob, ?_, k5⟩
        rw [show x.i - i = (x.i - (i + 1)) + 1 by omega]
        simpa using k4
      · cases j with
        | zero => simp at hj; subst hj; rw [hf] at hf'; cases hf'
        | succ j =>
          obtain ⟨x, hx, hxi⟩ := h10 j o' (by simpa using hj) hf'
          exact ⟨x, hx, by omega⟩
    · rename_i hf
      split at h
      · rename_i v m1 hlay
        split at h
        · rename_i l m2 hrest
          simp only [Option.some.injEq, Prod.mk.injEq] at h
          obtain ⟨rfl, rfl⟩ := h
          -- the one block
          have key : ∃ mm cs e, Owes m mm ∧ m1 = mm.new (.cells cs true e) ∧ (AllP mm.vc → Laid P o f ⟨i, v, m.nx⟩ (.cells cs true e)) := by
            unfold isFl at hf
            split at hf
            · rename_i hg
              split at hf
              · unfold layFl at hlay
                split at hf
                · rename_i t hop
                  rw [hop] at hlay
                  simp only at hlay
                  obtain ⟨cs, hv, hm1, hrun⟩ := lay_alloc hT hlay
                  refine ⟨m, cs, t, Owes.refl m, hm1, fun _ => ⟨hg, cs, t, rfl, fun g a w => ?_⟩⟩
                  obtain ⟨vs, r1, r2, r3⟩ := hrun g w a.eval o hop
                  refine ⟨vs, _, r1, r2, r3, fun g' e1 e2 e3 e4 e5 => ?_⟩
                  show VR g' v _
                  rw [hv]
                  simp only [VR]
                  exact ⟨e5, by rw [e1, e2]⟩
                · rename_i t lo co hop
                  rw [hop] at hlay
                  simp only at hlay
                  rw [Bool.and_eq_true] at hf
                  obtain ⟨n, e, sz, cs, mm, hl, hc, hv, hm1, how, hrun⟩ := lay_make hT hlay
                  refine ⟨mm, cs, e, how, hm1, fun hvm => ⟨hg, cs, e, rfl, fun g a w => ?_⟩⟩
                  have hconst : ∀ (x : Operand), isConstO x = true → intOf? (evO f x) = some (n : Int) → ∃ k, a.eval x = .int k n := fun x hx hi => by
                    cases x <;> simp only [isConstO, Bool.false_eq_true] at hx
                    rename_i u
                    simp only [evO] at hi
                    obtain ⟨k, hk⟩ := intOf_spec (g := g) (v := u) hi (by simp only [VR])
                    exact ⟨k, hk⟩
                  obtain ⟨kl, hkl⟩ := hconst lo hf.1 hl
                  obtain ⟨kc, hkc⟩ := hconst co hf.2 hc
                  obtain ⟨vs, r1, r2, r3, r4, r5⟩ := hrun hvm g w a.eval o lo co kl kc hop hkl hkc
                  refine ⟨vs, _, r1, r2, r3, fun g' e1 e2 e3 e4 e5 => ?_⟩
                  show VR g' v _
                  rw [hv, how.nx]
                  simp only [VR]
                  exact ⟨e5, .inl ⟨n, by rw [e1, e2], Nat.le_refl _, rfl, e2, e4, by rw [e3, r4], r5⟩⟩
                · cases hf
              · cases hf
            · cases hf
          obtain ⟨mm, cs, e, how, rfl, hlaid⟩ := key
          have hNx : (mm.new (.cells cs true e)).nx = m.nx + 2 := by rw [Me.new_nx, how.nx]
          have hget : ∀ b, (mm.new (.cells cs true e)).h.get b = if b = m.nx then some (.cells cs true e) else m.h.get b := fun b => by rw [Me.new_h, Tr.get_put, how.nx, how.h]
          obtain ⟨h0, h1, h2, h3, h4, h5, h6, h7, h8, h9, h10⟩ := floats_spec ops (i + 1) _ l m2 hrest (by rw [hNx]; omega) (fun b hb => by
            rw [hNx] at hb
            rw [hget, if_neg (by omega)]
            exact hno b (by omega)) hvc
          rw [hNx] at h1 h5 h6
          rw [Me.new_vc] at h0
          have hat : m2.h.get m.nx = some (.cells cs true e) := by rw [h5 m.nx (by omega), hget, if_pos rfl]
          refine ⟨how.mo h0, by omega, h2, h3, by rw [h4, Me.new_wm, how.wm], fun b hb => by rw [h5 b (by omega), hget, if_neg (by omega)], fun b hb hs => ?_, fun x hx => ?_, fun x hx y hy hxy => ?_, fun x hx y hy hxy => ?_, fun j o' hj hf' => ?_⟩
          · by_cases e1 : b = m.nx
            · exact ⟨_, List.mem_cons_self, e1.symm⟩
            · by_cases e2 : b < m.nx + 2
              · rw [h5 b e2, hget, if_neg e1, hno b hb] at hs
                cases hs
              · obtain ⟨x, hx, hxb⟩ := h6 b (by omega) hs
                exact ⟨x, List.mem_cons_of_mem _ hx, hxb⟩
          · rcases List.mem_cons.1 hx with rfl | hx
            · exact ⟨Nat.le_refl _, Nat.le_refl _, by show m.nx < m2.nx; omega, o, _, by simp, hat, hlaid h0⟩
            · obtain ⟨k1, k2, k3, o', ob, k4, k5⟩ := h7 x hx
              rw [hNx] at k2
              refine ⟨by omega, by omega, k3, o', ob, ?_, k5⟩
              rw [show x.i - i = (x.i - (i + 1)) + 1 by omega]
              simpa using k4
          · rcases List.mem_cons.1 hx with rfl | hx <;> rcases List.mem_cons.1 hy with rfl | hy
            · rfl
            · obtain ⟨k1, k2, _⟩ := h7 y hy
              rw [hNx] at k2
              simp only at hxy
              omega
            · obtain ⟨k1, k2, _⟩ := h7 x hx
              rw [hNx] at k2
              simp only at hxy
              omega
            · exact h8 x hx y hy hxy
          · rcases List.mem_cons.1 hx with rfl | hx <;> rcases List.mem_cons.1 hy with rfl | hy
            · rfl
            · obtain ⟨k1, _⟩ := h7 y hy
              simp only at hxy
              omega
            · obtain ⟨k1, _⟩ := h7 x hx
              simp only at hxy
              omega
            · exact h9 x hx y hy hxy
          · cases j with
            | zero => exact ⟨_, List.mem_cons_self, rfl⟩
            | succ j =>
              obtain ⟨x, hx, hxi⟩ := h10 j o' (by simpa using hj) hf'
              exact ⟨x, List.mem_cons_of_mem _ hx, by omega⟩
        · cases h
      · cases h
end

end
end Go.Sx
