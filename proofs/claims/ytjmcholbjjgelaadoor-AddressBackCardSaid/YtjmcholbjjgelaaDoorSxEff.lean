/- The abstract evaluator: operations that turn memory. -/
import Derived.Test.YtjmcholbjjgelaaDoorSxVal
namespace Go.Sx
noncomputable section
set_option linter.unusedVariables false
open Go.RowKit

theorem eqV_spec {a b : Value} (h : eqV a b) : a = b := by
  unfold eqV at h
  split at h
  · split at h
    · rw [h]
    · exact h
  · split at h
    · split at h
      · rename_i hk
        rw [sameKind_eq hk, h]
      · exact h.elim
    · exact h
  · split at h
    · rw [h]
    · exact h
  · exact h
theorem eqS_spec {a b : SV} (h : eqS a b) : a = b := by
  unfold eqS at h
  split at h
  · split at h
    · rw [eqV_spec h]
    · exact h
  · exact h
theorem oweVal_spec {x : Option SV} {v : SV} (h : oweVal x v) : x = some v := by
  unfold oweVal at h
  split at h
  · rw [eqS_spec h]
  · exact h.elim
theorem strP_spec {h : Heap} {b off len : Nat} {v : SV} (hw : strP h b off len v) : strOf h b off len = some v := by
  unfold strP at hw
  split at hw
  · rename_i cs hcs
    unfold strC at hw
    unfold strOf
    rw [hcs]
    exact hw
  · exact hw.elim
theorem bound_ends {ρ : Operand → SV} {x : Option Operand} {l : Option Int} (h : ends ρ x = some l) (d most : Nat) : bound? ρ x d most = boundI l d most := by
  unfold ends at h
  split at h
  · simp only [Option.some.injEq] at h
    subst h
    rfl
  · split at h
    · rename_i y i hi
      simp only [Option.some.injEq] at h
      subst h
      simp only [bound?, hi, boundI]
    · cases h
theorem owe_spec {P : Program} {T : Tab} {h : Heap} {ρ : Operand → SV} {o : Oper} {v : SV} (hw : owe P T h ρ o v) : valOp P T h ρ o = some v := by
  unfold owe at hw
  split at hw
  · rename_i op t x y t' ho
    split at hw
    · rename_i k a b hsa
      split at hw
      · rename_i k' c
        split at hw
        · rename_i hk
          have hk' := sameKind_eq hk
          subst hk'
          obtain ⟨hlt, rfl⟩ := hw
          obtain ⟨hs, hx, k', hy⟩ := shiftArgs_inv hsa
          have hbf : binFast op (ρ x) (ρ y) = none := by
            rw [hx, hy]
            unfold binFast binFast1 binFast2
            simp only
            split
            · cases op <;> simp [isShift] at hs <;> rfl
            · rfl
          simp only [valOp, ho, plainBin, hbf, shiftFast, hsa, hlt]
        · exact hw.elim
      · exact hw.elim
    · rename_i hsn
      split at hw
      · rename_i a b hca
        split at hw
        · rename_i c
          obtain ⟨hle, rfl⟩ := hw
          obtain ⟨rfl, hx, hy⟩ := catArgs_inv hca
          have hbf : binFast .add (ρ x) (ρ y) = none := by rw [hx, hy]; rfl
          have hsf : shiftFast .add (ρ x) (ρ y) = none := by unfold shiftFast; rw [hsn]
          simp only [valOp, ho, plainBin, hbf, hsf, catFast, hca]
          rw [show Nat.ble (a.size + b.size) 9223372036854775807 = true by rw [Nat.ble_eq]; exact hle]
        · exact hw.elim
      · exact oweVal_spec hw
  · rename_i t x y ho
    split at hw
    · rename_i s hx
      split at hw
      · rename_i k i hy
        split at hw
        · rename_i hs
          simp only [valOp, ho, vIndex, indexPl, hx, hy, hs]
          exact hw
        · exact hw.elim
      · exact hw.elim
    · exact hw.elim
  · rename_i t a ho
    split at hw
    · rename_i b off ha
      split at hw
      · rename_i cs hcs
        simp only [valOp, ho, vLoad, ha, loadS, hcs]
        exact hw
      · exact hw.elim
    · exact hw.elim
  · rename_i t x ix ho
    split at hw
    · rename_i b off len own hx
      split at hw
      · rename_i e he
        simp only [valOp, ho, vIndexAddr, hx, he]
        exact hw
      · exact hw.elim
    · rename_i b off hx
      split at hw
      · rename_i e he
        simp only [valOp, ho, vIndexAddr, hx, he]
        exact hw
      · exact hw.elim
    · exact hw.elim
  · rename_i t x lo hi mx ho
    split at hw
    · exact hw.elim
    · split at hw
      · rename_i l hl
        split at hw
        · rename_i hh hhi
          split at hw
          · rename_i s hx
            split at hw
            · rename_i hst
              simp only [valOp, ho, vSlice, hx, vSliceP, hst, cutStr, bound_ends hl, bound_ends hhi]
              exact hw
            · exact hw.elim
          · rename_i b off len own hx
            split at hw
            · rename_i e he
              split at hw
              · rename_i sz hsz
                simp only [valOp, ho, vSlice, hx, he, cutSl, bound_ends hl, bound_ends hhi, hsz]
                exact hw
              · exact hw.elim
            · exact hw.elim
          · simp only [valOp, ho]
            exact hw
        · exact hw.elim
      · exact hw.elim
  · rename_i t x ix ok ho
    split at hw
    · rename_i z es hm
      split at hw
      · rename_i s hix
        simp only [valOp, ho, vLookup, hm, hix]
        exact hw
      · exact hw.elim
    · exact hw.elim
  · rename_i src dst x ho
    split at hw
    · rename_i b off len own hx
      split at hw
      · rename_i hb
        simp only [valOp, ho, vConvert, hx, hb]
        exact strP_spec hw
      · exact hw.elim
    · exact oweVal_spec hw
  · exact oweVal_spec hw

/-! ### the relation of memory -/
def Globs (g : Gh) : Prop := ∀ i, i < 64 → g.has (2 * i + 1) ∧ g.σ (2 * i + 1) = i ∧ g.ω (2 * i + 1) = 0
structure MRel (g : Gh) (w0 : World) (F : Nat → Prop) (m : Me) (w : World) : Prop where
  n : g.n = m.nx
  even : m.nx % 2 = 0
  heap : HR g m.h w
  inj : ∀ b b' o o', m.h.get b = some o → o.live g b → m.h.get b' = some o' → o'.there g b' → g.σ b = g.σ b' → b = b'
  frame : ∀ b o, m.h.get b = some o → o.live g b → ¬ F (g.σ b)
  keep : ∀ r, F r → r < w0.heap.size ∧ w.heap[r]? = w0.heap[r]?
  os : w.os = w0.os
  tape : w.tape = w0.tape
  output : w.output = w0.output
  size : w0.heap.size ≤ w.heap.size
  glob : Globs g

structure FRel (g : Gh) (f : Fra) (a : Act) : Prop where
  nt : f.nt ≤ a.tmps.size
  slots : ∀ t, VR g (f.get t) (a.tmps.getD t undef)

theorem FRel.ext {g g' : Gh} (e : Ext g g') {f : Fra} {a : Act} (h : FRel g f a) : FRel g' f a := ⟨h.nt, fun t => VR.ext e _ _ (h.slots t)⟩

theorem evO_at {g : Gh} {f : Fra} {a : Act} (hg : Globs g) (x : Operand) (h : ∀ t, x = .tmp t → VR g (f.get t) (a.tmps.getD t undef)) : VR g (evO f x) (a.eval x) := by
  cases x with
  | tmp t => exact h t rfl
  | const v => simp [evO, Act.eval, VR]
  | global i =>
    simp only [evO, Act.eval]
    split
    · rename_i hi
      obtain ⟨h1, h2, h3⟩ := hg i (by simpa using hi)
      simp only [VR]
      exact ⟨h1, by rw [h2, h3]⟩
    · simp [VR]
  | func f => simp [evO, Act.eval, VR]
theorem evO_sound {g : Gh} {f : Fra} {a : Act} (h : FRel g f a) (hg : Globs g) (x : Operand) : VR g (evO f x) (a.eval x) := evO_at hg x fun t _ => h.slots t

theorem Fra.get_put {f f' : Fra} {d : Option Tmp} {v : SV} (h : f.put d v = some f') :
    f'.nt = f.nt ∧ (∀ t, d = some t → t < f.nt) ∧ ∀ t, f'.get t = if d = some t then v else f.get t := by
  obtain ⟨sl, df, nt⟩ := f
  cases d with
  | none =>
    simp only [Fra.put, Option.some.injEq] at h
    subst h
    refine ⟨rfl, ?_, ?_⟩
    · intro t ht; cases ht
    · intro t; simp
  | some d =>
    simp only [Fra.put] at h
    split at h
    · rename_i hlt
      simp only [Option.some.injEq] at h
      subst h
      have hlt' : d < nt := by simpa using hlt
      refine ⟨rfl, fun t ht => by cases ht; exact hlt', fun t => ?_⟩
      simp only [Fra.get, Tr.get_put]
      by_cases e : t = d
      · subst e; simp
      · rw [if_neg e, if_neg (by simpa using fun h => e h.symm)]
    · cases h

theorem put_sound {g : Gh} {f f' : Fra} {a : Act} {d : Option Tmp} {sv : SV} {v : Value} (h : FRel g f a) (hp : f.put d sv = some f') (hv : VR g sv v) : FRel g f' (a.put d v) := by
  obtain ⟨hn, hd, hg⟩ := Fra.get_put hp
  cases d with
  | none =>
    refine ⟨by rw [hn]; exact h.nt, fun t => ?_⟩
    rw [hg t]
    simpa [Act.put] using h.slots t
  | some d =>
    have hlt : d < a.tmps.size := Nat.lt_of_lt_of_le (hd d rfl) h.nt
    refine ⟨by rw [hn]; simpa [Act.put] using h.nt, fun t => ?_⟩
    rw [hg t]
    by_cases e : d = t
    · subst e
      simp only [if_true, Act.put]
      rw [Array.getD_eq_getD_getElem?, Array.getElem?_setIfInBounds]
      simpa [hlt] using hv
    · rw [if_neg (by simpa using e)]
      simp only [Act.put]
      rw [Array.getD_eq_getD_getElem?, Array.getElem?_setIfInBounds, if_neg e, ← Array.getD_eq_getD_getElem?]
      exact h.slots t

/-- what is owed holds -/
def AllP : List Prop → Prop
  | [] => True
  | p :: r => p ∧ AllP r

/-- A step of memory: what was owed ahead is owed still; the world behind stands to the abstract memory behind. -/
def Turns (g : Gh) (w0 : World) (F : Nat → Prop) (m' : Me) (sv : SV) (v : Value) (w' : World) : Prop :=
  ∃ g', Ext g g' ∧ MRel g' w0 F m' w' ∧ VR g' sv v

def upd (f : Nat → Nat) (b x : Nat) : Nat → Nat := fun y => if y = b then x else f y
theorem upd_eq (f : Nat → Nat) (b x : Nat) : upd f b x b = x := by simp [upd]
theorem upd_ne (f : Nat → Nat) {b x y : Nat} (h : y ≠ b) : upd f b x y = f y := by simp [upd, h]

/-- the letters behind a new block -/
def Gh.new (g : Gh) (r k : Nat) (vt : Bool := false) : Gh := ⟨upd g.σ g.n r, upd g.ω g.n 0, upd g.κ g.n k, fun y => if y = g.n then vt else g.v y, fun y => if y = g.n then false else g.ho y, g.n + 2⟩
theorem Gh.new_ext (g : Gh) (he : g.n % 2 = 0) (r k : Nat) (vt : Bool := false) : Ext g (g.new r k vt) := by
  have hne : ∀ b, g.has b → b ≠ g.n := fun b hb e => by simp only [Gh.has] at hb; omega
  exact ⟨⟨by simp [Gh.new], fun b hb => by show (if b = g.n then false else g.ho b) = false; rw [if_neg (hne b hb)]; exact hb.2, fun b hb => upd_ne _ (hne b hb), fun b hb => upd_ne _ (hne b hb), fun b hb => upd_ne _ (hne b hb), fun b hb => if_neg (hne b hb)⟩,
    fun b hb hh => by show (if b = g.n then false else g.ho b) = true; rw [if_neg (by omega)]; exact hh⟩

theorem Me.new_h (m : Me) (o : AObj) : (m.new o).h = m.h.put m.nx o := by cases m; rfl
theorem Me.new_nx (m : Me) (o : AObj) : (m.new o).nx = m.nx + 2 := by cases m; rfl
theorem Me.new_vc (m : Me) (o : AObj) : (m.new o).vc = m.vc := by cases m; rfl
theorem Me.put_h (m : Me) (b : Nat) (o : AObj) : (m.put b o).h = m.h.put b o := by cases m; rfl
theorem Me.put_nx (m : Me) (b : Nat) (o : AObj) : (m.put b o).nx = m.nx := by cases m; rfl
theorem Me.put_vc (m : Me) (b : Nat) (o : AObj) : (m.put b o).vc = m.vc := by cases m; rfl
theorem Me.del_h (m : Me) (b : Nat) : (m.del b).h = m.h.del b := by cases m; rfl
theorem Me.del_nx (m : Me) (b : Nat) : (m.del b).nx = m.nx := by cases m; rfl
theorem Me.del_vc (m : Me) (b : Nat) : (m.del b).vc = m.vc := by cases m; rfl
theorem Me.need_h (m : Me) (hs : List Hint) (p : Prop) : (m.need hs p).h = m.h := by cases m; rfl
theorem Me.need_nx (m : Me) (hs : List Hint) (p : Prop) : (m.need hs p).nx = m.nx := by cases m; rfl
theorem Me.need_vc (m : Me) (hs : List Hint) (p : Prop) : (m.need hs p).vc = p :: m.vc := by cases m; rfl
theorem Me.setWm_h (m : Me) (x : Nat) : (m.setWm x).h = m.h := by cases m; rfl
theorem Me.setWm_nx (m : Me) (x : Nat) : (m.setWm x).nx = m.nx := by cases m; rfl
theorem Me.setWm_vc (m : Me) (x : Nat) : (m.setWm x).vc = m.vc := by cases m; rfl

theorem MRel.same {g : Gh} {w0 : World} {F : Nat → Prop} {m m' : Me} {w : World} (h : MRel g w0 F m w) (hh : m'.h = m.h) (hn : m'.nx = m.nx) : MRel g w0 F m' w :=
  ⟨by rw [hn]; exact h.n, by rw [hn]; exact h.even, by rw [hh]; exact h.heap, by rw [hh]; exact h.inj, by rw [hh]; exact h.frame, h.keep, h.os, h.tape, h.output, h.size, h.glob⟩

/-- A world that is another one's but for what is new, and for one block. -/
structure Near (w w' : World) (row : Option Nat) : Prop where
  os : w'.os = w.os
  tape : w'.tape = w.tape
  output : w'.output = w.output
  size : w.heap.size ≤ w'.heap.size
  block : ∀ k, k < w.heap.size → some k ≠ row → w'.heap[k]? = w.heap[k]?

theorem HR.lt {g : Gh} {h : Heap} {w : World} (hh : HR g h w) {b : Nat} {o : AObj} (hb : h.get b = some o) (ht : o.there g b) : g.σ b < w.heap.size := by
  have := (hh b o hb).2
  cases o with
  | cells cs wr el' =>
    obtain ⟨cur, e, fr, h1, _⟩ := this.of_v ht
    exact (Array.getElem?_eq_some_iff.1 h1).1
  | obj o => exact (Array.getElem?_eq_some_iff.1 this).1
  | lrec st pe f ps asg body d =>
    obtain ⟨L, h1, _⟩ := this
    exact (Array.getElem?_eq_some_iff.1 h1).1

/-- A new block (a new row of the real memory, at r: new, or the place of a row that is told no more; or none at all). -/
theorem MRel.newAny {g : Gh} {w0 : World} {F : Nat → Prop} {m : Me} {w w' : World} (h : MRel g w0 F m w) (del : Option Nat) (row : Option Nat) (hn : Near w w' row) (r k : Nat) (vt : Bool)
    (hrow : ∀ q, row = some q → ∃ b o, del = some b ∧ m.h.get b = some o ∧ o.live g b ∧ g.σ b = q)
    (o' : AObj) (hr : o'.there (g.new r k vt) g.n → w.heap.size ≤ r ∨ ∃ b o, del = some b ∧ m.h.get b = some o ∧ o.live g b ∧ g.σ b = r)
    (hor : OR (g.new r k vt) g.n w' o') : MRel (g.new r k vt) w0 F ((delRow del m).new o') w' := by
  have hext := g.new_ext (by rw [h.n]; exact h.even) r k vt
  have hH : ((delRow del m).new o').h = (match del with | some b => m.h.del b | none => m.h).put m.nx o' := by
    rw [Me.new_h]
    cases del with
    | none => rfl
    | some b => simp only [delRow, Me.del_h, Me.del_nx]
  have hN : ((delRow del m).new o').nx = m.nx + 2 := by
    rw [Me.new_nx]
    cases del with
    | none => rfl
    | some b => simp only [delRow, Me.del_nx]
  have hget : ∀ b, ((match del with | some b => m.h.del b | none => m.h).put m.nx o').get b = if b = m.nx then some o' else if del = some b then none else m.h.get b := by
    intro b
    rw [Tr.get_put]
    by_cases e : b = m.nx
    · rw [if_pos e, if_pos e]
    · rw [if_neg e, if_neg e]
      cases del with
      | none => simp
      | some d =>
        simp only [Tr.get_del, Option.some.injEq]
        by_cases e2 : b = d
        · rw [if_pos e2, if_pos e2.symm]
        · rw [if_neg e2, if_neg (fun x => e2 x.symm)]
  have hnew : (g.new r k vt).σ m.nx = r := by rw [← h.n]; exact upd_eq _ _ _
  -- an elder block that is still told keeps its place, and isn't r
  have old : ∀ b o, b ≠ m.nx → del ≠ some b → m.h.get b = some o → g.has b ∧ (g.new r k vt).σ b = g.σ b ∧ (o.there g b → w'.heap[g.σ b]? = w.heap[g.σ b]? ∧ (o'.there (g.new r k vt) g.n → g.σ b ≠ r)) := by
    intro b o hb hd ho
    have hhas := (h.heap b o ho).1
    refine ⟨hhas, hext.σ b hhas, fun hth => ?_⟩
    have hlt := h.heap.lt ho hth
    have hne : ∀ q, (∃ b o, del = some b ∧ m.h.get b = some o ∧ o.live g b ∧ g.σ b = q) → g.σ b ≠ q := by
      rintro q ⟨b', o', hdel, hb', hwr, hs⟩ e
      have := h.inj b' b o' o hb' hwr ho hth (by rw [hs, e])
      exact hd (by rw [hdel, this])
    refine ⟨hn.block _ hlt (fun e => hne _ (hrow _ e.symm) rfl), fun ht e => ?_⟩
    rcases hr ht with hr | hr
    · omega
    · exact hne r hr e
  refine ⟨by rw [hN, ← h.n]; rfl, by rw [hN]; have := h.even; omega, ?_, ?_, ?_, ?_, hn.os.trans h.os, hn.tape.trans h.tape, hn.output.trans h.output, Nat.le_trans h.size hn.size, ?_⟩
  · intro b o hb
    rw [hH, hget] at hb
    by_cases e : b = m.nx
    · subst e
      rw [if_pos rfl] at hb
      cases hb
      exact ⟨by rw [← h.n]; simp [Gh.new, Gh.has], by rw [← h.n]; exact hor⟩
    · rw [if_neg e] at hb
      by_cases e2 : del = some b
      · rw [if_pos e2] at hb; cases hb
      · rw [if_neg e2] at hb
        obtain ⟨hhas, hσ, hbl⟩ := old b o e e2 hb
        exact ⟨hext.has hhas, (h.heap b o hb).2.ext hext hhas fun ht => (hbl ht).1⟩
  · intro b b' o o2 hb hwr hb' hth hs
    rw [hH, hget] at hb hb'
    by_cases e : b = m.nx
    · by_cases e' : b' = m.nx
      · rw [e, e']
      · rw [if_neg e'] at hb'
        by_cases e2 : del = some b'
        · rw [if_pos e2] at hb'; cases hb'
        · rw [if_neg e2] at hb'
          rw [if_pos e] at hb
          cases hb
          obtain ⟨hhas, hσ, hne⟩ := old b' o2 e' e2 hb'
          rw [e, hnew, hσ] at hs
          subst e
          have hth' := (AObj.there_ext hext hhas).1 hth
          exact absurd hs.symm ((hne hth').2 (by rw [h.n]; exact (AObj.live_there hwr)))
    · rw [if_neg e] at hb
      by_cases e2 : del = some b
      · rw [if_pos e2] at hb; cases hb
      · rw [if_neg e2] at hb
        obtain ⟨hhas, hσ, hne⟩ := old b o e e2 hb
        have hwr' := (AObj.live_ext hext hhas).1 hwr
        by_cases e' : b' = m.nx
        · rw [if_pos e'] at hb'
          cases hb'
          rw [e', hnew, hσ] at hs
          subst e'
          exact absurd hs ((hne (AObj.live_there hwr')).2 (by rw [h.n]; exact hth))
        · rw [if_neg e'] at hb'
          by_cases e3 : del = some b'
          · rw [if_pos e3] at hb'; cases hb'
          · rw [if_neg e3] at hb'
            obtain ⟨hhas', hσ', _⟩ := old b' o2 e' e3 hb'
            rw [hσ, hσ'] at hs
            exact h.inj b b' o o2 hb hwr' hb' ((AObj.there_ext hext hhas').1 hth) hs
  · intro b o hb hwr hF
    rw [hH, hget] at hb
    by_cases e : b = m.nx
    · rw [if_pos e] at hb
      cases hb
      rw [e, hnew] at hF
      subst e
      rcases hr (by rw [h.n]; exact (AObj.live_there hwr)) with hr | ⟨b2, o2, hdel, hb2, hwr2, hs2⟩
      · have := (h.keep r hF).1
        have := h.size
        omega
      · exact h.frame b2 o2 hb2 hwr2 (by rw [hs2]; exact hF)
    · rw [if_neg e] at hb
      by_cases e2 : del = some b
      · rw [if_pos e2] at hb; cases hb
      · rw [if_neg e2] at hb
        obtain ⟨hhas, hσ, _⟩ := old b o e e2 hb
        exact h.frame b o hb ((AObj.live_ext hext hhas).1 hwr) (by rw [← hσ]; exact hF)
  · intro q hF
    obtain ⟨h1, h2⟩ := h.keep q hF
    refine ⟨h1, ?_⟩
    rw [hn.block q (Nat.lt_of_lt_of_le h1 h.size) (fun e => ?_), h2]
    obtain ⟨b2, o2, _, hb2, hwr2, hs2⟩ := hrow q e.symm
    exact h.frame b2 o2 hb2 hwr2 (by rw [hs2]; exact hF)
  · intro i hi
    obtain ⟨h1, h2, h3⟩ := h.glob i hi
    exact ⟨hext.has h1, by rw [hext.σ _ h1, h2], by rw [hext.ω _ h1, h3]⟩
/-- a row of cells that is there -/
theorem MRel.newRow {g : Gh} {w0 : World} {F : Nat → Prop} {m : Me} {w w' : World} (h : MRel g w0 F m w) (del : Option Nat) (row : Option Nat) (hn : Near w w' row) (r : Nat)
    (hrow : ∀ q, row = some q → ∃ b o, del = some b ∧ m.h.get b = some o ∧ o.live g b ∧ g.σ b = q)
    (hr : w.heap.size ≤ r ∨ row = some r) (cur : Array Value) (e : TypeId) (hw : w'.heap[r]? = some (.cells cur e (0, 0)))
    (cs : List SV) (hcs : ∀ (i : Nat) (sv : SV), cs[i]? = some sv → ∃ v, cur[i]? = some v ∧ VR g sv v ∧ v.oneCell' = true) :
    MRel (g.new r cur.size) w0 F ((delRow del m).new (.cells cs true e)) w' := by
  have hext := g.new_ext (by rw [h.n]; exact h.even) r cur.size
  refine h.newAny del row hn r cur.size false hrow _ (fun _ => hr.imp id fun h => hrow r h) (.inr ⟨if_pos rfl, cur, e, (0, 0), ?_, fun i sv hi => ?_, upd_eq _ _ _, fun _ _ => ⟨upd_eq _ _ _, rfl, rfl⟩⟩)
  · rw [show (g.new r cur.size).σ g.n = r from upd_eq _ _ _]; exact hw
  · obtain ⟨v, h1, h2, h3⟩ := hcs i sv hi
    exact ⟨v, by rw [show (g.new r cur.size).ω g.n = 0 from upd_eq _ _ _, Nat.zero_add]; exact h1, VR.ext hext _ _ h2, h3⟩
/-- a world that has grown -/
theorem MRel.grow {g : Gh} {w0 : World} {F : Nat → Prop} {m : Me} {w w' : World} (h : MRel g w0 F m w) (hn : Near w w' none) : MRel g w0 F m w' :=
  ⟨h.n, h.even, fun b o ho => ⟨(h.heap b o ho).1, (h.heap b o ho).2.ext (Ext.refl g) (h.heap b o ho).1 fun ht => hn.block _ (h.heap.lt ho ht) (by simp)⟩, h.inj, h.frame,
    fun r hr => ⟨(h.keep r hr).1, (hn.block r (Nat.lt_of_lt_of_le (h.keep r hr).1 h.size) (by simp)).trans (h.keep r hr).2⟩,
    hn.os.trans h.os, hn.tape.trans h.tape, hn.output.trans h.output, Nat.le_trans h.size hn.size, h.glob⟩
/-- a block is told no more, and turned -/
theorem MRel.delRow {g : Gh} {w0 : World} {F : Nat → Prop} {m : Me} {w w' : World} (h : MRel g w0 F m w) {b : Nat} {o : AObj} (hb : m.h.get b = some o) (hl : o.live g b) (hn : Near w w' (some (g.σ b))) : MRel g w0 F (m.del b) w' := by
  have hget : ∀ b', (m.del b).h.get b' = if b' = b then none else m.h.get b' := fun b' => by rw [Me.del_h, Tr.get_del]
  have get : ∀ b' o', (m.del b).h.get b' = some o' → b' ≠ b ∧ m.h.get b' = some o' := fun b' o' h' => by
    rw [hget] at h'
    by_cases e : b' = b
    · rw [if_pos e] at h'; cases h'
    · rw [if_neg e] at h'; exact ⟨e, h'⟩
  refine ⟨by rw [Me.del_nx]; exact h.n, by rw [Me.del_nx]; exact h.even, fun b' o' h' => ?_, fun b1 b2 o1 o2 h1 h2 h3 h4 h5 => h.inj b1 b2 o1 o2 (get _ _ h1).2 h2 (get _ _ h3).2 h4 h5, fun b1 o1 h1 h2 => h.frame b1 o1 (get _ _ h1).2 h2,
    fun r hr => ⟨(h.keep r hr).1, (hn.block r (Nat.lt_of_lt_of_le (h.keep r hr).1 h.size) ?_).trans (h.keep r hr).2⟩, hn.os.trans h.os, hn.tape.trans h.tape, hn.output.trans h.output, Nat.le_trans h.size hn.size, h.glob⟩
  · obtain ⟨hne, h1⟩ := get _ _ h'
    obtain ⟨k1, k2⟩ := h.heap b' o' h1
    refine ⟨k1, k2.ext (Ext.refl g) k1 fun ht => hn.block _ (h.heap.lt h1 ht) fun e => ?_⟩
    simp only [Option.some.injEq] at e
    exact hne (h.inj b b' o o' hb hl h1 ht e.symm).symm
  · intro e
    simp only [Option.some.injEq] at e
    exact h.frame b o hb hl (by rw [← e]; exact hr)
/-- a block becomes another one, in its place -/
theorem MRel.putAny {g : Gh} {w0 : World} {F : Nat → Prop} {m : Me} {w w' : World} (h : MRel g w0 F m w) {b : Nat} {o o' : AObj} (hb : m.h.get b = some o) (hl : o.live g b) (hl' : o'.live g b → o.live g b) (hn : Near w w' (some (g.σ b)))
    (hor : OR g b w' o') : MRel g w0 F (m.put b o') w' := by
  have hget : ∀ b', (m.put b o').h.get b' = if b' = b then some o' else m.h.get b' := fun b' => by rw [Me.put_h, Tr.get_put]
  have hhas := (h.heap b o hb).1
  have ne : ∀ b' o1, b' ≠ b → m.h.get b' = some o1 → o1.there g b' → g.σ b' ≠ g.σ b := fun b' o1 hne h1 ht e => hne (h.inj b b' o o1 hb hl h1 ht e.symm).symm
  refine ⟨by rw [Me.put_nx]; exact h.n, by rw [Me.put_nx]; exact h.even, fun b' o1 h1 => ?_, fun b1 b2 o1 o2 h1 h2 h3 h4 h5 => ?_, fun b1 o1 h1 h2 => ?_,
    fun r hr => ⟨(h.keep r hr).1, (hn.block r (Nat.lt_of_lt_of_le (h.keep r hr).1 h.size) ?_).trans (h.keep r hr).2⟩, hn.os.trans h.os, hn.tape.trans h.tape, hn.output.trans h.output, Nat.le_trans h.size hn.size, h.glob⟩
  · rw [hget] at h1
    by_cases e : b' = b
    · rw [if_pos e] at h1
      cases h1
      rw [e]
      exact ⟨hhas, hor⟩
    · rw [if_neg e] at h1
      obtain ⟨k1, k2⟩ := h.heap b' o1 h1
      exact ⟨k1, k2.ext (Ext.refl g) k1 fun ht => hn.block _ (h.heap.lt h1 ht) fun e' => ne b' o1 e h1 ht (by simpa using e')⟩
  · rw [hget] at h1 h3
    by_cases e1 : b1 = b
    · by_cases e2 : b2 = b
      · rw [e1, e2]
      · rw [if_neg e2] at h3
        rw [e1] at h5
        exact absurd h5.symm (ne b2 o2 e2 h3 h4)
    · rw [if_neg e1] at h1
      by_cases e2 : b2 = b
      · rw [e2] at h5
        exact absurd h5 (ne b1 o1 e1 h1 (AObj.live_there h2))
      · rw [if_neg e2] at h3
        exact h.inj b1 b2 o1 o2 h1 h2 h3 h4 h5
  · rw [hget] at h1
    by_cases e1 : b1 = b
    · rw [e1]
      exact h.frame b o hb hl
    · rw [if_neg e1] at h1
      exact h.frame b1 o1 h1 h2
  · intro e
    simp only [Option.some.injEq] at e
    exact h.frame b o hb hl (by rw [← e]; exact hr)

end
end Go.Sx
