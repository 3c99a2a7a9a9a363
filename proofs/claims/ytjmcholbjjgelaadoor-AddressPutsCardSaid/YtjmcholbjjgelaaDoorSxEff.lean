/- The abstract evaluator: operations that turn memory. -/
import Derived.Test.YtjmcholbjjgelaaDoorSxVal
namespace Go.Sx
set_option linter.unusedVariables false
open Go.RowKit

theorem val_sound {P : Program} {T : Tab} (hT : TabOk P T) {g : Gh} {h : Heap} {w : World} (hh : HR g h w) {ρ : Operand → SV} {ρ' : Operand → Value} {o : Oper} {sv : SV}
    (hv : ∀ x ∈ o.op.operands, VR g (ρ x) (ρ' x)) (hs : valOp P T h ρ o = some sv) : Gives P g o ρ' w sv := by
  cases ho : o.op <;> simp only [valOp, ho] at hs
  case move x => exact move_sound hv (.inl ho) (by simpa using hs)
  case assign x => exact move_sound hv (.inr ho) (by simpa using hs)
  case pick c a b => exact pick_sound hv ho hs
  case extract t i => exact extract_sound hv ho hs
  case load t a => exact load_sound hT hh hv ho hs
  case binOp op t x y t' => exact plainBin_sound ho hs hv
  case nilCheck x => exact nilCheck_sound hv ho hs
  case fieldAddr s x f => exact fieldAddr_sound hT hv ho hs
  case field s x f => exact field_sound hT hv ho hs
  case indexAddr t x ix => exact indexAddr_sound hT hv ho hs
  case index t x ix => exact strAt_sound hT ho hs hv
  case slice t x lo hi mx => exact slice_sound hT hv ho hs
  case makeFunc fn first caps => exact makeFunc_sound hv ho hs
  case convert src dst x => exact convert_sound hT hh hv ho hs
  case call c =>
    unfold vCall at hs
    split at hs
    · rename_i hc; exact len_sound hT hv ho hc hs
    · exact slow_sound hs hv
    · cases hs
  all_goals exact slow_sound hs hv

theorem eqV_spec {a b : Value} (h : eqV a b) : a = b := by
  unfold eqV at h
  split at h
  · split at h
    · rw [h]
    · exact h
  · split at h
    · split at h
      · rename_i hk
        rw [sameKind_eq hk, h]
      · exact h.elim
    · exact h
  · split at h
    · rw [h]
    · exact h
  · exact h
theorem eqS_spec {a b : SV} (h : eqS a b) : a = b := by
  unfold eqS at h
  split at h
  · split at h
    · rw [eqV_spec h]
    · exact h
  · exact h
theorem oweVal_spec {x : Option SV} {v : SV} (h : oweVal x v) : x = some v := by
  unfold oweVal at h
  split at h
  · rw [eqS_spec h]
  · exact h.elim
theorem owe_spec {P : Program} {T : Tab} {h : Heap} {ρ : Operand → SV} {o : Oper} {v : SV} (hw : owe P T h ρ o v) : valOp P T h ρ o = some v := by
  unfold owe at hw
  split at hw
  · rename_i t x y ho
    split at hw
    · rename_i s hx
      split at hw
      · rename_i k i hy
        split at hw
        · rename_i hs
          simp only [valOp, ho, indexPl, hx, hy, hs]
          exact hw
        · exact hw.elim
      · exact hw.elim
    · exact hw.elim
  · rename_i t a ho
    split at hw
    · rename_i b off ha
      split at hw
      · rename_i cs hcs
        simp only [valOp, ho, vLoad, ha, loadS, hcs]
        exact hw
      · exact hw.elim
    · exact hw.elim
  · rename_i t x ix ho
    split at hw
    · rename_i b off len own hx
      split at hw
      · rename_i e he
        simp only [valOp, ho, vIndexAddr, hx, he]
        exact hw
      · exact hw.elim
    · rename_i b off hx
      split at hw
      · rename_i e he
        simp only [valOp, ho, vIndexAddr, hx, he]
        exact hw
      · exact hw.elim
    · exact hw.elim
  · rename_i t x lo hi mx ho
    simp only [valOp, ho]
    exact hw
  · rename_i src dst x ho
    split at hw
    · rename_i b off len own hx
      split at hw
      · rename_i hb
        simp only [valOp, ho, vConvert, hx, hb]
        exact hw
      · exact hw.elim
    · exact oweVal_spec hw
  · exact oweVal_spec hw

/-! ### the relation of memory -/
def Globs (g : Gh) : Prop := ∀ i, i < 64 → g.has (2 * i + 1) ∧ g.σ (2 * i + 1) = i ∧ g.ω (2 * i + 1) = 0
structure MRel (g : Gh) (w0 : World) (F : Nat → Prop) (m : Me) (w : World) : Prop where
  n : g.n = m.nx
  even : m.nx % 2 = 0
  heap : HR g m.h w
  inj : ∀ b b' o o', m.h.get b = some o → o.wr = true → m.h.get b' = some o' → g.σ b = g.σ b' → b = b'
  frame : ∀ b o, m.h.get b = some o → o.wr = true → ¬ F (g.σ b)
  keep : ∀ r, F r → r < w0.heap.size ∧ w.heap[r]? = w0.heap[r]?
  os : w.os = w0.os
  tape : w.tape = w0.tape
  output : w.output = w0.output
  size : w0.heap.size ≤ w.heap.size
  glob : Globs g

structure FRel (g : Gh) (f : Fra) (a : Act) : Prop where
  nt : f.nt ≤ a.tmps.size
  slots : ∀ t, VR g (f.get t) (a.tmps.getD t undef)

theorem FRel.ext {g g' : Gh} (e : Ext g g') {f : Fra} {a : Act} (h : FRel g f a) : FRel g' f a := ⟨h.nt, fun t => VR.ext e _ _ (h.slots t)⟩

theorem evO_at {g : Gh} {f : Fra} {a : Act} (hg : Globs g) (x : Operand) (h : ∀ t, x = .tmp t → VR g (f.get t) (a.tmps.getD t undef)) : VR g (evO f x) (a.eval x) := by
  cases x with
  | tmp t => exact h t rfl
  | const v => simp [evO, Act.eval, VR]
  | global i =>
    simp only [evO, Act.eval]
    split
    · rename_i hi
      obtain ⟨h1, h2, h3⟩ := hg i (by simpa using hi)
      simp only [VR]
      exact ⟨h1, by rw [h2, h3]⟩
    · simp [VR]
  | func f => simp [evO, Act.eval, VR]
theorem evO_sound {g : Gh} {f : Fra} {a : Act} (h : FRel g f a) (hg : Globs g) (x : Operand) : VR g (evO f x) (a.eval x) := evO_at hg x fun t _ => h.slots t

theorem Fra.get_put {f f' : Fra} {d : Option Tmp} {v : SV} (h : f.put d v = some f') :
    f'.nt = f.nt ∧ (∀ t, d = some t → t < f.nt) ∧ ∀ t, f'.get t = if d = some t then v else f.get t := by
  obtain ⟨sl, df, nt⟩ := f
  cases d with
  | none =>
    simp only [Fra.put, Option.some.injEq] at h
    subst h
    refine ⟨rfl, ?_, ?_⟩
    · intro t ht; cases ht
    · intro t; simp
  | some d =>
    simp only [Fra.put] at h
    split at h
    · rename_i hlt
      simp only [Option.some.injEq] at h
      subst h
      have hlt' : d < nt := by simpa using hlt
      refine ⟨rfl, fun t ht => by cases ht; exact hlt', fun t => ?_⟩
      simp only [Fra.get, Tr.get_put]
      by_cases e : t = d
      · subst e; simp
      · rw [if_neg e, if_neg (by simpa using fun h => e h.symm)]
    · cases h

theorem put_sound {g : Gh} {f f' : Fra} {a : Act} {d : Option Tmp} {sv : SV} {v : Value} (h : FRel g f a) (hp : f.put d sv = some f') (hv : VR g sv v) : FRel g f' (a.put d v) := by
  obtain ⟨hn, hd, hg⟩ := Fra.get_put hp
  cases d with
  | none =>
    refine ⟨by rw [hn]; exact h.nt, fun t => ?_⟩
    rw [hg t]
    simpa [Act.put] using h.slots t
  | some d =>
    have hlt : d < a.tmps.size := Nat.lt_of_lt_of_le (hd d rfl) h.nt
    refine ⟨by rw [hn]; simpa [Act.put] using h.nt, fun t => ?_⟩
    rw [hg t]
    by_cases e : d = t
    · subst e
      simp only [if_true, Act.put]
      rw [Array.getD_eq_getD_getElem?, Array.getElem?_setIfInBounds]
      simpa [hlt] using hv
    · rw [if_neg (by simpa using e)]
      simp only [Act.put]
      rw [Array.getD_eq_getD_getElem?, Array.getElem?_setIfInBounds, if_neg e, ← Array.getD_eq_getD_getElem?]
      exact h.slots t

/-- what is owed holds -/
def AllP : List Prop → Prop
  | [] => True
  | p :: r => p ∧ AllP r

/-- A step of memory: what was owed ahead is owed still; the world behind stands to the abstract memory behind. -/
def Turns (g : Gh) (w0 : World) (F : Nat → Prop) (m' : Me) (sv : SV) (v : Value) (w' : World) : Prop :=
  ∃ g', Ext g g' ∧ MRel g' w0 F m' w' ∧ VR g' sv v

def upd (f : Nat → Nat) (b x : Nat) : Nat → Nat := fun y => if y = b then x else f y
theorem upd_eq (f : Nat → Nat) (b x : Nat) : upd f b x b = x := by simp [upd]
theorem upd_ne (f : Nat → Nat) {b x y : Nat} (h : y ≠ b) : upd f b x y = f y := by simp [upd, h]

/-- the letters behind a new block -/
def Gh.new (g : Gh) (r k : Nat) : Gh := ⟨upd g.σ g.n r, upd g.ω g.n 0, upd g.κ g.n k, g.n + 2⟩
theorem Gh.new_ext (g : Gh) (he : g.n % 2 = 0) (r k : Nat) : Ext g (g.new r k) := by
  have hne : ∀ b, g.has b → b ≠ g.n := fun b hb e => by simp only [Gh.has] at hb; omega
  exact ⟨by simp [Gh.new], fun b hb => upd_ne _ (hne b hb), fun b hb => upd_ne _ (hne b hb), fun b hb => upd_ne _ (hne b hb)⟩

theorem Me.new_h (m : Me) (o : AObj) : (m.new o).h = m.h.put m.nx o := by cases m; rfl
theorem Me.new_nx (m : Me) (o : AObj) : (m.new o).nx = m.nx + 2 := by cases m; rfl
theorem Me.new_vc (m : Me) (o : AObj) : (m.new o).vc = m.vc := by cases m; rfl
theorem Me.put_h (m : Me) (b : Nat) (o : AObj) : (m.put b o).h = m.h.put b o := by cases m; rfl
theorem Me.put_nx (m : Me) (b : Nat) (o : AObj) : (m.put b o).nx = m.nx := by cases m; rfl
theorem Me.put_vc (m : Me) (b : Nat) (o : AObj) : (m.put b o).vc = m.vc := by cases m; rfl
theorem Me.del_h (m : Me) (b : Nat) : (m.del b).h = m.h.del b := by cases m; rfl
theorem Me.del_nx (m : Me) (b : Nat) : (m.del b).nx = m.nx := by cases m; rfl
theorem Me.del_vc (m : Me) (b : Nat) : (m.del b).vc = m.vc := by cases m; rfl
theorem Me.need_h (m : Me) (hs : List Hint) (p : Prop) : (m.need hs p).h = m.h := by cases m; rfl
theorem Me.need_nx (m : Me) (hs : List Hint) (p : Prop) : (m.need hs p).nx = m.nx := by cases m; rfl
theorem Me.need_vc (m : Me) (hs : List Hint) (p : Prop) : (m.need hs p).vc = p :: m.vc := by cases m; rfl
theorem Me.setWm_h (m : Me) (x : Nat) : (m.setWm x).h = m.h := by cases m; rfl
theorem Me.setWm_nx (m : Me) (x : Nat) : (m.setWm x).nx = m.nx := by cases m; rfl
theorem Me.setWm_vc (m : Me) (x : Nat) : (m.setWm x).vc = m.vc := by cases m; rfl

theorem MRel.same {g : Gh} {w0 : World} {F : Nat → Prop} {m m' : Me} {w : World} (h : MRel g w0 F m w) (hh : m'.h = m.h) (hn : m'.nx = m.nx) : MRel g w0 F m' w :=
  ⟨by rw [hn]; exact h.n, by rw [hn]; exact h.even, by rw [hh]; exact h.heap, by rw [hh]; exact h.inj, by rw [hh]; exact h.frame, h.keep, h.os, h.tape, h.output, h.size, h.glob⟩

/-- A world that is another one's but for what is new, and for one block. -/
structure Near (w w' : World) (row : Option Nat) : Prop where
  os : w'.os = w.os
  tape : w'.tape = w.tape
  output : w'.output = w.output
  size : w.heap.size ≤ w'.heap.size
  block : ∀ k, k < w.heap.size → some k ≠ row → w'.heap[k]? = w.heap[k]?

theorem HR.lt {g : Gh} {h : Heap} {w : World} (hh : HR g h w) {b : Nat} {o : AObj} (hb : h.get b = some o) : g.σ b < w.heap.size := by
  have := (hh b o hb).2
  cases o with
  | cells cs wr el' =>
    obtain ⟨cur, e, fr, h1, _⟩ := this
    exact (Array.getElem?_eq_some_iff.1 h1).1
  | obj o => exact (Array.getElem?_eq_some_iff.1 this).1

/-- A new block of cells (a new row of the real memory, at r: new, or the place of a row that is told no more). -/
theorem MRel.newRow {g : Gh} {w0 : World} {F : Nat → Prop} {m : Me} {w w' : World} (h : MRel g w0 F m w) (del : Option Nat) (row : Option Nat) (hn : Near w w' row) (r : Nat)
    (hrow : ∀ k, row = some k → ∃ b o, del = some b ∧ m.h.get b = some o ∧ o.wr = true ∧ g.σ b = k)
    (hr : r = w.heap.size ∨ row = some r) (cur : Array Value) (e : TypeId) (hw : w'.heap[r]? = some (.cells cur e (0, 0)))
    (cs : List SV) (hcs : ∀ (i : Nat) (sv : SV), cs[i]? = some sv → ∃ v, cur[i]? = some v ∧ VR g sv v ∧ v.oneCell' = true) :
    MRel (g.new r cur.size) w0 F ((match del with | some b => m.del b | none => m).new (.cells cs true e)) w' := by
  have hext := g.new_ext (by rw [h.n]; exact h.even) r cur.size
  have hH : ((match del with | some b => m.del b | none => m).new (.cells cs true e)).h = (match del with | some b => m.h.del b | none => m.h).put m.nx (.cells cs true e) := by
    rw [Me.new_h]
    cases del with
    | none => rfl
    | some b => simp only [Me.del_h, Me.del_nx]
  have hN : ((match del with | some b => m.del b | none => m).new (.cells cs true e)).nx = m.nx + 2 := by
    rw [Me.new_nx]
    cases del with
    | none => rfl
    | some b => simp only [Me.del_nx]
  have hget : ∀ b, ((match del with | some b => m.h.del b | none => m.h).put m.nx (.cells cs true e)).get b = if b = m.nx then some (.cells cs true e) else if del = some b then none else m.h.get b := by
    intro b
    rw [Tr.get_put]
    by_cases e : b = m.nx
    · rw [if_pos e, if_pos e]
    · rw [if_neg e, if_neg e]
      cases del with
      | none => simp
      | some d =>
        simp only [Tr.get_del, Option.some.injEq]
        by_cases e2 : b = d
        · rw [if_pos e2, if_pos e2.symm]
        · rw [if_neg e2, if_neg (fun x => e2 x.symm)]
  have hnew : (g.new r cur.size).σ m.nx = r := by rw [← h.n]; exact upd_eq _ _ _
  -- an elder block that is still told keeps its place, and isn't r
  have old : ∀ b o, b ≠ m.nx → del ≠ some b → m.h.get b = some o → g.has b ∧ (g.new r cur.size).σ b = g.σ b ∧ w'.heap[g.σ b]? = w.heap[g.σ b]? ∧ (o.wr = true → g.σ b ≠ r) := by
    intro b o hb hd ho
    have hhas := (h.heap b o ho).1
    have hlt := h.heap.lt ho
    have hne : ∀ k, row = some k → g.σ b ≠ k := by
      intro k hk e
      obtain ⟨b', o', hdel, hb', hwr, hs⟩ := hrow k hk
      have := h.inj b' b o' o hb' hwr ho (by rw [hs, e])
      exact hd (by rw [hdel, this])
    refine ⟨hhas, hext.σ b hhas, hn.block _ hlt (fun e => hne _ e.symm rfl), fun _ e => ?_⟩
    rcases hr with hr | hr
    · omega
    · exact hne r hr e
  refine ⟨by rw [hN, ← h.n]; rfl, by rw [hN]; have := h.even; omega, ?_, ?_, ?_, ?_, hn.os.trans h.os, hn.tape.trans h.tape, hn.output.trans h.output, Nat.le_trans h.size hn.size, ?_⟩
  · intro b o hb
    rw [hH, hget] at hb
    by_cases e : b = m.nx
    · subst e
      rw [if_pos rfl] at hb
      cases hb
      refine ⟨by rw [← h.n]; simp [Gh.new, Gh.has], cur, _, (0, 0), by rw [hnew]; exact hw, ?_, by rw [← h.n]; exact upd_eq _ _ _, fun _ => ⟨by rw [← h.n]; exact upd_eq _ _ _, rfl, rfl⟩⟩
      intro i sv hi
      obtain ⟨v, h1, h2, h3⟩ := hcs i sv hi
      have hω : (g.new r cur.size).ω m.nx = 0 := by rw [← h.n]; exact upd_eq _ _ _
      exact ⟨v, by rw [hω, Nat.zero_add]; exact h1, VR.ext hext _ _ h2, h3⟩
    · rw [if_neg e] at hb
      by_cases e2 : del = some b
      · rw [if_pos e2] at hb; cases hb
      · rw [if_neg e2] at hb
        obtain ⟨hhas, hσ, hbl, _⟩ := old b o e e2 hb
        exact ⟨hext.has hhas, (h.heap b o hb).2.ext hext hhas hbl⟩
  · intro b b' o o' hb hwr hb' hs
    rw [hH, hget] at hb hb'
    by_cases e : b = m.nx
    · by_cases e' : b' = m.nx
      · rw [e, e']
      · rw [if_neg e'] at hb'
        by_cases e2 : del = some b'
        · rw [if_pos e2] at hb'; cases hb'
        · rw [if_neg e2] at hb'
          obtain ⟨_, hσ, _, hne⟩ := old b' o' e' e2 hb'
          rw [e, hnew, hσ] at hs
          -- a read-only block could lie at r only if r were its place; but r is new or a row's that was told
          exfalso
          rcases hr with hr | hr
          · have := h.heap.lt hb'; omega
          · obtain ⟨b2, o2, hdel, hb2, hwr2, hs2⟩ := hrow r hr
            have := h.inj b2 b' o2 o' hb2 hwr2 hb' (by rw [hs2, hs])
            exact e2 (by rw [hdel, this])
    · rw [if_neg e] at hb
      by_cases e2 : del = some b
      · rw [if_pos e2] at hb; cases hb
      · rw [if_neg e2] at hb
        obtain ⟨_, hσ, _, hne⟩ := old b o e e2 hb
        by_cases e' : b' = m.nx
        · rw [e', hnew, hσ] at hs
          exact absurd hs (hne hwr)
        · rw [if_neg e'] at hb'
          by_cases e3 : del = some b'
          · rw [if_pos e3] at hb'; cases hb'
          · rw [if_neg e3] at hb'
            obtain ⟨_, hσ', _, _⟩ := old b' o' e' e3 hb'
            rw [hσ, hσ'] at hs
            exact h.inj b b' o o' hb hwr hb' hs
  · intro b o hb hwr hF
    rw [hH, hget] at hb
    by_cases e : b = m.nx
    · rw [e, hnew] at hF
      rcases hr with hr | hr
      · have := (h.keep r hF).1
        have := h.size
        omega
      · obtain ⟨b2, o2, hdel, hb2, hwr2, hs2⟩ := hrow r hr
        exact h.frame b2 o2 hb2 hwr2 (by rw [hs2]; exact hF)
    · rw [if_neg e] at hb
      by_cases e2 : del = some b
      · rw [if_pos e2] at hb; cases hb
      · rw [if_neg e2] at hb
        obtain ⟨_, hσ, _, _⟩ := old b o e e2 hb
        exact h.frame b o hb hwr (by rw [← hσ]; exact hF)
  · intro k hF
    obtain ⟨h1, h2⟩ := h.keep k hF
    refine ⟨h1, ?_⟩
    rw [hn.block k (Nat.lt_of_lt_of_le h1 h.size) (fun e => ?_), h2]
    obtain ⟨b2, o2, _, hb2, hwr2, hs2⟩ := hrow k e.symm
    exact h.frame b2 o2 hb2 hwr2 (by rw [hs2]; exact hF)
  · intro i hi
    obtain ⟨h1, h2, h3⟩ := h.glob i hi
    exact ⟨hext.has h1, by rw [hext.σ _ h1, h2], by rw [hext.ω _ h1, h3]⟩

end Go.Sx
