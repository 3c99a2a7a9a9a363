/- The abstract evaluator: a region whose order is open: whatever order is drawn. -/
import Derived.Test.YtjmcholbjjgelaaDoorSxDraw
namespace Go.Sx
noncomputable section
set_option linter.unusedVariables false
open Go.RowKit

theorem valOp_heap {P : Program} {T : Tab} {h h' : Heap} {ρ : Operand → SV} {o : Oper} (hb : ∀ b, readOf ρ o = some b → h.get b = h'.get b) : valOp P T h ρ o = valOp P T h' ρ o := by
  unfold valOp
  split <;> try rfl
  · rename_i t a ho
    unfold vLoad
    split
    · rename_i b off ha
      have := hb b (by simp only [readOf, ho, ha])
      simp only [loadS, cellsOf?, this]
    · rfl
  · rename_i src dst x ho
    unfold vConvert
    split
    · rename_i b off hx
      have := hb b (by simp only [readOf, ho, hx])
      simp only [unsafeP, this]
    · rename_i b off len own hx
      have := hb b (by simp only [readOf, ho, hx])
      simp only [strOf, cellsOf?, this]
    all_goals rfl
  · rename_i t x ix ok ho
    have hm : mapAt T h t (ρ x) = mapAt T h' t (ρ x) := by
      unfold mapAt
      split
      · rename_i b hx
        have := hb b (by simp only [readOf, ho, hx])
        simp only [this]
      · rfl
    simp only [vLookup, hm]

theorem isCall_eff {o : Oper} (h : isCall o = true) : isEff o.op = true := by
  unfold isCall at h
  split at h
  · rename_i c hc
    split at h
    · cases h
    · rename_i hb
      simp only [isEff, hc, isEffCall]
  · cases h

theorem run_quiet {o : Oper} {m m' : Me} {x : Option (SV × Me)} {v : SV} (h : callQuiet o m x = some (v, m')) :
    (isCall o = false ∧ x = some (v, m')) ∨ (isCall o = true ∧ ∃ m1, x = some (v, m1) ∧ m.nx ≤ m1.wm ∧ m' = m1.setWm m.wm) := by
  unfold callQuiet at h
  split at h
  · rename_i hc; exact .inl ⟨hc, h⟩
  · rename_i hc
    split at h
    · rename_i v1 m1
      split at h
      · rename_i hle
        simp only [Option.some.injEq, Prod.mk.injEq] at h
        obtain ⟨rfl, rfl⟩ := h
        exact .inr ⟨hc, m1, rfl, by simpa using hle, rfl⟩
      · cases h
    · cases h
theorem fresh_h (o : Oper) (m : Me) : (fresh o m).h = m.h ∧ (fresh o m).nx = m.nx ∧ (fresh o m).vc = m.vc := by
  unfold fresh
  split
  · exact ⟨Me.setWm_h _ _, Me.setWm_nx _ _, Me.setWm_vc _ _⟩
  · exact ⟨rfl, rfl, rfl⟩

section
variable {P : Program} {T : Tab} {cf : CallF} (hcf : FineCall cf) {r : Nat} {ops : Array Oper} {fl : List Flt} {FF : Nat → Fra} {MM : Nat → Me} {VV : Nat → SV} {RT : Nat → Option Nat × Option Nat}
include hcf
/-- one operation, in place -/
theorem step_fine {ol : List Oper} {i : Nat} {o : Oper} {f : Fra} {m m' : Me} {v : SV} (h : callQuiet o m (evGuarded P T cf r ol i o f (fresh o m)) = some (v, m')) :
    Fine m m' ∧ (isEff o.op = false → Owes m m') ∧ (∀ b, b < m.nx → (isEff o.op = true → clash (some b) (turnOf (evO f) o) = false) → m'.h.get b = m.h.get b) := by
  rcases run_quiet h with ⟨hc, hx⟩ | ⟨hc, m1, hx, hle, hm⟩
  · have hfr : fresh o m = m := by unfold fresh; rw [hc]
    rw [hfr] at hx
    refine ⟨guarded_fine hcf hx, fun he => ?_, fun b hb hcl => ?_⟩
    · unfold evGuarded at hx
      split at hx
      · unfold evOp at hx
        rw [he] at hx
        exact (val_owes hx).1
      · simp only [Option.some.injEq, Prod.mk.injEq] at hx
        rw [← hx.2]
        exact Owes.refl _
      · cases hx
    · unfold evGuarded at hx
      split at hx
      · unfold evOp at hx
        split at hx
        · rename_i he
          have ht := (eff_turn hcf hx).2 hc
          have hcl := hcl he
          refine ht.2 b hb fun e => ?_
          rw [e] at hcl
          simp [clash] at hcl
        · rw [(val_owes hx).1.h]
      · simp only [Option.some.injEq, Prod.mk.injEq] at hx
        rw [← hx.2]
      · cases hx
  · have hfr : fresh o m = m.setWm m.nx := by unfold fresh; rw [hc]
    have hf := guarded_fine hcf hx
    rw [hfr] at hf
    have hq : ∀ b, b < m.nx → m'.h.get b = m.h.get b := fun b hb => by
      have := hf.quiet b (by omega) (by rw [Me.setWm_nx]; exact hb)
      rw [hm, Me.setWm_h, this, Me.setWm_h]
    refine ⟨⟨fun h => ?_, ?_, ?_, fun b hb hn => hq b hn, fun b o' ho => ?_⟩, fun he => ?_, fun b hb _ => hq b hb⟩
    · rw [hm, Me.setWm_vc] at h
      have := hf.mo h
      rwa [Me.setWm_vc] at this
    · have := hf.nx
      rw [Me.setWm_nx] at this
      rw [hm, Me.setWm_nx]
      exact this
    · rw [hm, Me.setWm_wm]; exact Nat.le_refl _
    · rw [hm, Me.setWm_h] at ho
      have := hf.wr b o' ho
      rwa [Me.setWm_h] at this
    · rw [isCall_eff hc] at he; cases he

omit hcf in
/-- what is known of the run at every operation -/
def Runs (P : Program) (T : Tab) (cf : CallF) (r : Nat) (ops : Array Oper) (fl : List Flt) (FF : Nat → Fra) (MM : Nat → Me) (VV : Nat → SV) (RT : Nat → Option Nat × Option Nat) : Prop :=
  ∀ (j : Nat) (o : Oper), ops[j]? = some o → Run P T cf r ops.toList fl FF MM VV RT 0 j o (befOf ops j)

omit hcf in
/-- how one operation of a drawn region goes -/
theorem evD_spec {ol : List Oper} {b i : Nat} {o : Oper} {f : Fra} {m m' : Me} {v : SV} (h : evD P T cf r ol fl b i o f m = some (v, m')) :
    (∃ x, fltAt i fl = some x ∧ v = x.v ∧ m' = m) ∨
    (fltAt i fl = none ∧ isEff o.op = false ∧ evGuarded P T cf r ol i o f m = some (v, m')) ∨
    (fltAt i fl = none ∧ isEff o.op = true ∧ ∃ m1, callQuiet o (hideAll (unbound b fl) m) (evGuarded P T cf r ol i o f (fresh o (hideAll (unbound b fl) m))) = some (v, m1) ∧
      m'.nx = m1.nx ∧ m'.vc = m1.vc ∧ m'.wm = m1.wm ∧ ∀ c, m'.h.get c = if c ∈ unbound b fl ∧ (m.h.get c).isSome = true then m.h.get c else m1.h.get c) := by
  unfold evD at h
  split at h
  · rename_i x hx
    simp only [Option.some.injEq, Prod.mk.injEq] at h
    exact .inl ⟨x, hx, h.1.symm, h.2.symm⟩
  · rename_i hx
    split at h
    · rename_i he
      exact .inr (.inl ⟨hx, he, h⟩)
    · rename_i he
      refine .inr (.inr ⟨hx, he, ?_⟩)
      split at h
      · rename_i hu
        rw [hu]
        exact ⟨m', h, rfl, rfl, rfl, fun c => by simp⟩
      · unfold showX at h
        split at h
        · rename_i v1 m1 hq
          simp only [Option.some.injEq, Prod.mk.injEq] at h
          obtain ⟨rfl, rfl⟩ := h
          obtain ⟨k1, k2, k3, k4⟩ := showAll_spec m.h (unbound b fl) m1
          exact ⟨m1, hq, k1, k2, k3, k4⟩
        · cases h

theorem run_fine (hR : Runs P T cf r ops fl FF MM VV RT) {j : Nat} {o : Oper} (ho : ops[j]? = some o) :
    Fine (MM j) (MM (j + 1)) ∧ (isEff o.op = false ∨ (fltAt j fl).isSome = true → Owes (MM j) (MM (j + 1))) ∧
    (∀ b, b < (MM j).nx → (isEff o.op = true → fltAt j fl = none → clash (some b) (RT j).2 = false) → (MM (j + 1)).h.get b = (MM j).h.get b) ∧
    (∀ x ∈ fl, fltAt j fl = none → isEff o.op = true → bit (befOf ops j) x.i = false → ((MM j).h.get x.b).isSome = true → (MM (j + 1)).h.get x.b = (MM j).h.get x.b) := by
  have hr := hR j o ho
  rcases evD_spec hr.step with ⟨x, hx, _, hm⟩ | ⟨hx, he, hg⟩ | ⟨hx, he, m1, hq, k1, k2, k3, k4⟩
  · rw [hm]
    exact ⟨Fine.refl _, fun _ => Owes.refl _, fun _ _ _ => rfl, fun _ _ _ _ _ _ => rfl⟩
  · have how : Owes (MM j) (MM (j + 1)) := by
      unfold evGuarded at hg
      split at hg
      · unfold evOp at hg
        rw [he] at hg
        exact (val_owes hg).1
      · simp only [Option.some.injEq, Prod.mk.injEq] at hg
        rw [← hg.2]
        exact Owes.refl _
      · cases hg
    exact ⟨how.fine, fun _ => how, fun _ _ _ => by rw [how.h], fun _ _ _ h => by rw [he] at h; cases h⟩
  · obtain ⟨f1, f2, f3⟩ := step_fine hcf hq
    obtain ⟨u1, u2, u3, u4⟩ := hideAll_spec (unbound (befOf ops j) fl) (MM j)
    have same : ∀ b, m1.h.get b = (hideAll (unbound (befOf ops j) fl) (MM j)).h.get b → (MM (j + 1)).h.get b = (MM j).h.get b := fun b hb => by
      rw [k4 b, hb, u4 b]
      by_cases e1 : b ∈ unbound (befOf ops j) fl
      · by_cases e2 : ((MM j).h.get b).isSome = true
        · rw [if_pos ⟨e1, e2⟩]
        · rw [if_neg (fun hh => e2 hh.2), if_pos e1]
          cases hg : (MM j).h.get b with
          | none => rfl
          | some o' => rw [hg] at e2; simp at e2
      · rw [if_neg (fun hh => e1 hh.1), if_neg e1]
    refine ⟨⟨fun h => ?_, ?_, ?_, fun b hb hn => same b (f1.quiet b (by rw [← k3]; exact hb) (by rw [u1]; exact hn)), fun b o' hb => ?_⟩, fun h => ?_, fun b hb hcl => same b (f3 b (by rw [u1]; exact hb) fun h => ?_), fun x hxm _ _ hbit hs => ?_⟩
    · rw [k2] at h
      have := f1.mo h
      rwa [u2] at this
    · rw [k1, ← u1]; exact f1.nx
    · rw [k3, ← u3]; exact f1.wm
    · rw [k4 b] at hb
      by_cases e1 : b ∈ unbound (befOf ops j) fl ∧ ((MM j).h.get b).isSome = true
      · rw [if_pos e1] at hb; exact .inl hb
      · rw [if_neg e1] at hb
        rcases f1.wr b o' hb with h | h
        · rw [u4 b] at h
          split at h
          · cases h
          · exact .inl h
        · exact .inr h
    · rw [he, hx] at h; simp at h
    · have := hcl h hx
      rw [hr.rt] at this
      exact this
    · rw [k4 x.b, if_pos ⟨(unbound_mem fl x.b).2 ⟨x, hxm, hbit, rfl⟩, hs⟩]

theorem run_upto (hR : Runs P T cf r ops fl FF MM VV RT) {b : Nat} : ∀ (k j : Nat), j + k ≤ ops.size → b < (MM j).nx → (∀ i o, j ≤ i → i < j + k → ops[i]? = some o → isEff o.op = true → fltAt i fl = none → clash (some b) (RT i).2 = false) →
    (MM (j + k)).h.get b = (MM j).h.get b ∧ (MM j).nx ≤ (MM (j + k)).nx
  | 0, j, hk, hb, hcl => ⟨rfl, Nat.le_refl _⟩
  | k + 1, j, hk, hb, hcl => by
    obtain ⟨h1, h2⟩ := run_upto hR k j (by omega) hb fun i o h1 h2 => hcl i o h1 (by omega)
    have ho : ops[j + k]? = some ops[j + k] := Array.getElem?_eq_getElem (by omega)
    obtain ⟨f1, f2, f3, _⟩ := run_fine hcf hR ho
    have e : j + (k + 1) = j + k + 1 := by omega
    rw [e]
    exact ⟨(f3 b (by omega) fun he hx => hcl _ _ (by omega) (by omega) ho he hx).trans h1, Nat.le_trans h2 f1.nx⟩
theorem run_nx (hR : Runs P T cf r ops fl FF MM VV RT) : ∀ (k j : Nat), j + k ≤ ops.size → (MM j).nx ≤ (MM (j + k)).nx ∧ (AllP (MM (j + k)).vc → AllP (MM j).vc)
  | 0, j, hk => ⟨Nat.le_refl _, id⟩
  | k + 1, j, hk => by
    obtain ⟨h1, h2⟩ := run_nx hR k j (by omega)
    have ho : ops[j + k]? = some ops[j + k] := Array.getElem?_eq_getElem (by omega)
    obtain ⟨f1, _⟩ := run_fine hcf hR ho
    have e : j + (k + 1) = j + k + 1 := by omega
    rw [e]
    exact ⟨Nat.le_trans h1 f1.nx, fun h => h2 (f1.mo h)⟩
/-- without an operation that turns memory, memory stays -/
theorem run_still (hR : Runs P T cf r ops fl FF MM VV RT) : ∀ (k j : Nat), j + k ≤ ops.size → (∀ i o, j ≤ i → i < j + k → ops[i]? = some o → isEff o.op = false ∨ (fltAt i fl).isSome = true) →
    (MM (j + k)).h = (MM j).h ∧ (MM (j + k)).nx = (MM j).nx
  | 0, j, hk, hcl => ⟨rfl, rfl⟩
  | k + 1, j, hk, hcl => by
    obtain ⟨h1, h2⟩ := run_still hR k j (by omega) fun i o h1 h2 => hcl i o h1 (by omega)
    have ho : ops[j + k]? = some ops[j + k] := Array.getElem?_eq_getElem (by omega)
    have f2 := (run_fine hcf hR ho).2.1 (hcl _ _ (by omega) (by omega) ho)
    have e : j + (k + 1) = j + k + 1 := by omega
    rw [e]
    exact ⟨f2.h.trans h1, f2.nx.trans h2⟩
/-- a block that was laid ahead stays, while what isn't bound to come behind it goes on -/
theorem run_kept (hR : Runs P T cf r ops fl FF MM VV RT) {x : Flt} (hx : x ∈ fl) {ob : AObj} (h0 : (MM 0).h.get x.b = some ob) : ∀ c, c ≤ ops.size → (∀ j o, j < c → ops[j]? = some o → isEff o.op = true → fltAt j fl = none → bit (befOf ops j) x.i = false) →
    (MM c).h.get x.b = some ob
  | 0, _, _ => h0
  | c + 1, hc, hb => by
    have ih := run_kept hR hx h0 c (by omega) fun j o hj => hb j o (by omega)
    have ho : ops[c]? = some ops[c] := Array.getElem?_eq_getElem (by omega)
    obtain ⟨f1, f2, f3, f4⟩ := run_fine hcf hR ho
    by_cases he : isEff (ops[c]).op = true ∧ fltAt c fl = none
    · rw [f4 x hx he.2 he.1 (hb c _ (by omega) ho he.1 he.2) (by rw [ih]; rfl), ih]
    · rw [(f2 (by
        by_cases e1 : isEff (ops[c]).op = true
        · right
          cases h2 : fltAt c fl with
          | none => exact absurd ⟨e1, h2⟩ he
          | some y => rfl
        · left; simpa using e1)).h, ih]

omit hcf in
/-- the last writer of a slot ahead of i -/
theorem run_slot (hR : Runs P T cf r ops fl FF MM VV RT) (t : Nat) : ∀ i, i ≤ ops.size →
    (FF i).nt = (FF 0).nt ∧
    ((∃ j o, j < i ∧ ops[j]? = some o ∧ o.dst = some t ∧ (∀ k o', j < k → k < i → ops[k]? = some o' → o'.dst ≠ some t) ∧ (FF i).get t = VV j) ∨
     ((∀ j o, j < i → ops[j]? = some o → o.dst ≠ some t) ∧ (FF i).get t = (FF 0).get t))
  | 0, _ => ⟨rfl, .inr ⟨fun j o hj => by omega, rfl⟩⟩
  | i + 1, hi => by
    obtain ⟨hn, ih⟩ := run_slot hR t i (by omega)
    have ho : ops[i]? = some ops[i] := Array.getElem?_eq_getElem (by omega)
    obtain ⟨g1, g2, g3⟩ := Fra.get_put (hR i _ ho).put
    refine ⟨g1.trans hn, ?_⟩
    rw [g3 t]
    by_cases hd : (ops[i]).dst = some t
    · exact .inl ⟨i, _, by omega, ho, hd, fun k o' h1 h2 => by omega, by rw [if_pos hd]⟩
    · rw [if_neg hd]
      have hne : ∀ k o', k = i → ops[k]? = some o' → o'.dst ≠ some t := fun k o' e h => by
        subst e
        rw [ho] at h
        cases h
        exact hd
      rcases ih with ⟨j, o, h1, h2, h3, h4, h5⟩ | ⟨h1, h2⟩
      · refine .inl ⟨j, o, by omega, h2, h3, fun k o' k1 k2 k3 => ?_, h5⟩
        by_cases e : k = i
        · exact hne k o' e k3
        · exact h4 k o' k1 (by omega) k3
      · refine .inr ⟨fun j o k1 k2 => ?_, h2⟩
        by_cases e : j = i
        · exact hne j o e k2
        · exact h1 j o (by omega) k2
end

/-- the blocks laid ahead that aren't there yet -/
def undone (L : Nat → Bool) : List Flt → List Nat
  | [] => []
  | x :: r => match L x.i with | true => undone L r | false => x.b :: undone L r
theorem undone_mem {L : Nat → Bool} : ∀ (fl : List Flt) (b : Nat), b ∈ undone L fl ↔ ∃ x ∈ fl, L x.i = false ∧ x.b = b
  | [], b => by simp [undone]
  | y :: r, b => by
    simp only [undone]
    split
    · rename_i h
      rw [undone_mem r b]
      constructor
      · rintro ⟨x, h1, h2⟩
        exact ⟨x, List.mem_cons_of_mem _ h1, h2⟩
      · rintro ⟨x, h1, h2, h3⟩
        rcases List.mem_cons.1 h1 with rfl | h1
        · rw [h] at h2; cases h2
        · exact ⟨x, h1, h2, h3⟩
    · rename_i h
      rw [List.mem_cons, undone_mem r b]
      constructor
      · rintro (rfl | ⟨x, h1, h2⟩)
        · exact ⟨y, List.mem_cons_self, h, rfl⟩
        · exact ⟨x, List.mem_cons_of_mem _ h1, h2⟩
      · rintro ⟨x, h1, h2, h3⟩
        rcases List.mem_cons.1 h1 with rfl | h1
        · exact .inl h3.symm
        · exact .inr ⟨x, h1, h2, h3⟩
/-- the blocks laid ahead, as they were laid -/
structure FlOk (P : Program) (ops : Array Oper) (f : Fra) (fl : List Flt) (m1 : Me) (n0 : Nat) : Prop where
  at' : ∀ x ∈ fl, n0 ≤ x.b ∧ x.b < m1.nx ∧ ∃ o ob, ops[x.i]? = some o ∧ m1.h.get x.b = some ob ∧ Laid P o f x ob
  inj : ∀ x ∈ fl, ∀ y ∈ fl, x.b = y.b → x.i = y.i
  fn : ∀ x ∈ fl, ∀ y ∈ fl, x.i = y.i → x.b = y.b
  all : ∀ j o, ops[j]? = some o → isFl o = true → ∃ x ∈ fl, x.i = j
theorem FlOk.not {P : Program} {ops : Array Oper} {f : Fra} {fl : List Flt} {m1 : Me} {n0 : Nat} (h : FlOk P ops f fl m1 n0) {j : Nat} {o : Oper} (ho : ops[j]? = some o) (hx : fltAt j fl = none) : isFl o = false := by
  cases hf : isFl o with
  | false => rfl
  | true =>
    obtain ⟨x, h1, h2⟩ := h.all j o ho hf
    exact absurd h2 (fltAt_none fl j hx x h1)

/-- where a drawn region stands: which operations are behind it -/
structure At (ops : Array Oper) (fl : List Flt) (FF : Nat → Fra) (MM : Nat → Me) (VV : Nat → SV) (g : Gh) (w0 : World) (F : Nat → Prop) (D : List Deferred) (L : Nat → Bool) (a : Act) (w : World) (c : Nat) : Prop where
  closed : ∀ k, L k = true → ∀ j, bit (befOf ops k) j = true → L j = true
  cle : c ≤ ops.size
  eff : ∀ (j : Nat) (o : Oper), ops[j]? = some o → isEff o.op = true → fltAt j fl = none → (L j = true ↔ j < c)
  me : MRel g w0 F (hideAll (undone L fl) (MM c)) w
  hole : ∀ x ∈ fl, L x.i = false → g.ho x.b = true
  defers : a.defers = D
  nt : (FF 0).nt ≤ a.tmps.size
  slot0 : ∀ t, (∀ (j : Nat) (o : Oper), ops[j]? = some o → o.dst = some t → L j = false) → VR g ((FF 0).get t) (a.tmps.getD t undef)
  slot1 : ∀ (t j : Nat) (o : Oper), ops[j]? = some o → o.dst = some t → L j = true → (∀ (k : Nat) (o' : Oper), j < k → ops[k]? = some o' → o'.dst = some t → L k = false) → VR g (VV j) (a.tmps.getD t undef)

section
variable {P : Program} {T : Tab} (hT : TabOk P T) {cf : CallF} (hcf : SoundCall P cf) {r : Nat} {ops : Array Oper} (hok : DrawOk ops) {fl : List Flt} {FF : Nat → Fra} {MM : Nat → Me} {VV : Nat → SV} {RT : Nat → Option Nat × Option Nat}
  (hR : Runs P T cf r ops fl FF MM VV RT) {n0 : Nat} {f0 : Fra} (hfl : FlOk P ops f0 fl (MM 0) n0) {g0 g : Gh} {w0 : World} {F : Nat → Prop} {D : List Deferred} {L : Nat → Bool} {a : Act} {w : World} {c : Nat} (h : At ops fl FF MM VV g w0 F D L a w c)

include hok h in
/-- what stands to an operation that isn't listed, and may be taken -/
theorem At.order {i : Nat} {o : Oper} (ho : ops[i]? = some o) (hi : L i = false) (hready : ∀ j, bit (befOf ops i) j = true → L j = true) {j : Nat} {oj : Oper} (hj : ops[j]? = some oj) (hne : j ≠ i) :
    (j < i ∧ L j = true) ∨ (i < j ∧ L j = false) ∨
      (bit (befOf ops (max i j)) (min i j) = false ∧ (∀ d, oj.dst = some d → d ∉ o.looksAt ops) ∧ (∀ d, o.dst = some d → d ∉ oj.looksAt ops) ∧ (∀ d, o.dst = some d → oj.dst ≠ some d) ∧ (isEff oj.op = true → isEff o.op = true → isFl oj = true ∨ isFl o = true)) := by
  rcases Nat.lt_or_gt_of_ne hne with hlt | hgt
  · cases hb : bit (befOf ops i) j with
    | true => exact .inl ⟨hlt, hready j hb⟩
    | false =>
      obtain ⟨h1, h2⟩ := hok.pair i j o oj ho hj hlt hb
      obtain ⟨a1, a2, a3⟩ := Oper.apart_spec h1
      refine .inr (.inr ⟨?_, a1, a3, fun d hd hd' => a2 d hd' hd, h2⟩)
      rw [Nat.max_eq_left (by omega), Nat.min_eq_right (by omega)]; exact hb
  · cases hb : bit (befOf ops j) i with
    | true =>
      refine .inr (.inl ⟨hgt, ?_⟩)
      cases hl : L j with
      | false => rfl
      | true => have := h.closed j hl i hb; rw [hi] at this; cases this
    | false =>
      obtain ⟨h1, h2⟩ := hok.pair j i oj o hj ho hgt hb
      obtain ⟨a1, a2, a3⟩ := Oper.apart_spec h1
      refine .inr (.inr ⟨?_, a3, a1, fun d hd => a2 d hd, fun x y => (h2 y x).symm⟩)
      rw [Nat.max_eq_right (by omega), Nat.min_eq_left (by omega)]; exact hb

include hok h hR in
theorem At.look {i : Nat} {o : Oper} (ho : ops[i]? = some o) (hi : L i = false) (hready : ∀ j, bit (befOf ops i) j = true → L j = true) : LRel g (FF i) a ops o := by
  have hsz : i < ops.size := (Array.getElem?_eq_some_iff.1 ho).1
  refine ⟨by rw [(run_slot hR 0 i (by omega)).1]; exact h.nt, fun t ht => ?_⟩
  have wr : ∀ (j : Nat) (oj : Oper), ops[j]? = some oj → oj.dst = some t → (j < i ∧ L j = true) ∨ (i ≤ j ∧ L j = false) := fun j oj hj hd => by
    by_cases e : j = i
    · subst e; exact .inr ⟨Nat.le_refl _, hi⟩
    · rcases h.order hok ho hi hready hj e with h1 | ⟨h1, h2⟩ | ⟨_, h1, _⟩
      · exact .inl h1
      · exact .inr ⟨by omega, h2⟩
      · exact absurd ht (h1 t hd)
  rcases (run_slot hR t i (by omega)).2 with ⟨j, oj, h1, h2, h3, h4, h5⟩ | ⟨h1, h2⟩
  · rw [h5]
    refine h.slot1 t j oj h2 h3 ?_ fun k o' k1 k2 k3 => ?_
    · rcases wr j oj h2 h3 with hh | hh
      · exact hh.2
      · omega
    · rcases wr k o' k2 k3 with hh | hh
      · exact absurd k3 (h4 k o' k1 hh.1 k2)
      · exact hh.2
  · rw [h2]
    refine h.slot0 t fun j oj hj hd => ?_
    rcases wr j oj hj hd with hh | hh
    · exact absurd hd (h1 j oj hh.1 hj)
    · exact hh.2

include hok h hR in
theorem At.next {i : Nat} {o : Oper} (ho : ops[i]? = some o) (hi : L i = false) (hready : ∀ j, bit (befOf ops i) j = true → L j = true) {L' : Nat → Bool} (hL : ∀ j, L' j = true ↔ j = i ∨ L j = true)
    {g' : Gh} (he : Ext0 g g') {w' : World} {c' : Nat} (hc : c' ≤ ops.size) (heff : ∀ (j : Nat) (o : Oper), ops[j]? = some o → isEff o.op = true → fltAt j fl = none → (L' j = true ↔ j < c')) (hm : MRel g' w0 F (hideAll (undone L' fl) (MM c')) w')
    (hho : ∀ x ∈ fl, L' x.i = false → g'.ho x.b = true) {v : Value} (hv : VR g' (VV i) v) : At ops fl FF MM VV g' w0 F D L' (a.put o.dst v) w' c' := by
  have hsz : i < ops.size := (Array.getElem?_eq_some_iff.1 ho).1
  have hL0 : ∀ j, L' j = false → j ≠ i ∧ L j = false := fun j hj => by
    refine ⟨fun e => ?_, ?_⟩
    · have := (hL j).2 (.inl e); rw [hj] at this; cases this
    · cases hl : L j with
      | false => rfl
      | true => have := (hL j).2 (.inr hl); rw [hj] at this; cases this
  obtain ⟨p1, p2, p3⟩ := Fra.get_put (hR i o ho).put
  have hsame : ∀ t, o.dst ≠ some t → (a.put o.dst v).tmps.getD t undef = a.tmps.getD t undef := fun t hne => by
    cases hd : o.dst with
    | none => rfl
    | some d =>
      have hdt : d ≠ t := fun e => hne (by rw [hd, e])
      simp only [Act.put]
      rw [Array.getD_eq_getD_getElem?, Array.getElem?_setIfInBounds, if_neg hdt, ← Array.getD_eq_getD_getElem?]
  refine ⟨fun k hk j hb => ?_, hc, heff, hm, hho, by rw [put_defers]; exact h.defers, ?_, fun t ht => ?_, fun t j oj hj hd hl hlast => ?_⟩
  · rcases (hL k).1 hk with rfl | hk
    · exact (hL j).2 (.inr (hready j hb))
    · exact (hL j).2 (.inr (h.closed k hk j hb))
  · have := h.nt
    cases hd : o.dst <;> simpa [Act.put] using this
  · have hne : o.dst ≠ some t := fun e => (hL0 i (ht i o ho e)).1 rfl
    rw [hsame t hne]
    exact VR.ext0 he _ _ (h.slot0 t fun j oj hj hd => (hL0 j (ht j oj hj hd)).2)
  · by_cases hdt : o.dst = some t
    · have hji : j = i := by
        rcases (hL j).1 hl with e | hl'
        · exact e
        · refine Classical.byContradiction fun hne => ?_
          rcases h.order hok ho hi hready hj hne with ⟨h1, _⟩ | ⟨h1, h2⟩ | ⟨_, _, _, h3, _⟩
          · have := (hL0 i (hlast i o h1 ho hdt)).1
            exact this rfl
          · rw [h2] at hl'; cases hl'
          · exact h3 t hdt hd
      subst hji
      have hlt : t < a.tmps.size := Nat.lt_of_lt_of_le (p2 t hdt) (by rw [(run_slot hR 0 j (by omega)).1]; exact h.nt)
      rw [hdt]
      simp only [Act.put]
      rw [Array.getD_eq_getD_getElem?, Array.getElem?_setIfInBounds]
      simpa [hlt] using hv
    · rw [hsame t hdt]
      rcases (hL j).1 hl with e | hl'
      · subst e
        rw [ho] at hj
        cases hj
        exact absurd hd hdt
      · exact VR.ext0 he _ _ (h.slot1 t j oj hj hd hl' fun k o' k1 k2 k3 => (hL0 k (hlast k o' k1 k2 k3)).2)

include hT hcf hok h hR hfl in
/-- one operation, in whatever order -/
theorem At.step {i : Nat} {o : Oper} (ho : ops[i]? = some o) (hi : L i = false) (hready : ∀ j, bit (befOf ops i) j = true → L j = true) {L' : Nat → Bool} (hL : ∀ j, L' j = true ↔ j = i ∨ L j = true)
    (hvc : AllP (MM ops.size).vc) {ro : Option Nat} {K : Act → World → Prop} {Q : Exit → Act → World → Prop} (he0 : Ext g0 g) (hn0 : g0.n ≤ n0)
    (hK : ∀ g' a' w' c', Ext g0 g' → At ops fl FF MM VV g' w0 F D L' a' w' c' → K a' w') :
    if Region.wanted o (yielded ops a.tmps) = true then o.wpIn (FW ro) 0 P a w K Q else (∀ f, o.about P w a.eval = some f → (FW ro).fn f) ∧ K (a.put o.dst undef) w := by
  have hsz : i < ops.size := (Array.getElem?_eq_some_iff.1 ho).1
  have hlook := h.look hok hR ho hi hready
  have hr := hR i o ho
  have hvi : AllP (MM (i + 1)).vc := by
    have := (run_nx hcf.fine hR (ops.size - (i + 1)) (i + 1) (by omega)).2
    rw [show i + 1 + (ops.size - (i + 1)) = ops.size by omega] at this
    exact this hvc
  have hLf : ∀ j, L' j = false ↔ j ≠ i ∧ L j = false := fun j => by
    constructor
    · intro hj
      refine ⟨fun e => ?_, ?_⟩
      · have := (hL j).2 (.inl e); rw [hj] at this; cases this
      · cases hl : L j with
        | false => rfl
        | true => have := (hL j).2 (.inr hl); rw [hj] at this; cases this
    · rintro ⟨h1, h2⟩
      cases hl : L' j with
      | false => rfl
      | true =>
        rcases (hL j).1 hl with e | e
        · exact absurd e h1
        · rw [h2] at e; cases e
  rcases evD_spec hr.step with ⟨x, hx, hvx, _⟩ | ⟨hx, he, hg⟩ | ⟨hx, he, m1, hq, k1, k2, k3, k4⟩
  · -- a block that was laid ahead comes to be
    obtain ⟨hxm, hxi⟩ := fltAt_mem fl i x hx
    obtain ⟨b1, b2, o', ob, ho', hob, hlaid⟩ := hfl.at' x hxm
    rw [hxi, ho] at ho'
    cases ho'
    obtain ⟨cs, e, hobe, hrun⟩ := hlaid.run
    obtain ⟨vs, val, r1, r2, r3, r4⟩ := hrun g a w
    have hhole := h.hole x hxm (by rw [hxi]; exact hi)
    have hkept := run_kept hcf.fine hR hxm hob c h.cle fun j oj hj hoj hej hxj => by
      cases hb : bit (befOf ops j) x.i with
      | false => rfl
      | true =>
        have := h.closed j ((h.eff j oj hoj hej hxj).2 hj) x.i hb
        rw [hxi, hi] at this
        cases this
    have hbn : x.b < g.n := by
      rw [h.me.n, (hideAll_spec _ _).1]
      have := (run_nx hcf.fine hR c 0 (by have := h.cle; omega)).1
      rw [Nat.zero_add] at this
      omega
    rw [if_pos (by simp [Region.wanted, hlaid.guard])]
    refine wpIn_value r1 ?_
    have hfill := h.me.fill hbn hhole (near_alloc w (.cells vs e)) (heap_alloc_new w _) (cs := cs) (fun j sv hj => by
      obtain ⟨v, h1, h2⟩ := r2.get hj
      exact ⟨v, by simpa using h1, h2, r3 v (List.mem_of_getElem? h1)⟩) (m' := hideAll (undone L' fl) (MM c)) (by rw [(hideAll_spec _ _).1, (hideAll_spec _ _).1]) (fun b o' hb => by
        rw [(hideAll_spec _ _).2.2.2 b] at hb
        split at hb
        · cases hb
        · rename_i hnu
          by_cases e1 : b = x.b
          · subst e1
            rw [hkept, hobe] at hb
            simp only [Option.some.injEq] at hb
            exact .inl ⟨rfl, hb.symm⟩
          · refine .inr ⟨e1, ?_⟩
            rw [(hideAll_spec _ _).2.2.2 b, if_neg]
            · exact hb
            · intro hu
              obtain ⟨y, hy, hyl, hyb⟩ := (undone_mem fl b).1 hu
              refine hnu ((undone_mem fl b).2 ⟨y, hy, (hLf _).2 ⟨fun e2 => e1 ?_, hyl⟩, hyb⟩)
              rw [← hyb]
              exact hfl.fn y hy x hxm (by rw [e2, hxi]))
    have hext := g.fill_ext hhole w.heap.size vs.size
    have hext0 : Ext g0 (g.fill x.b w.heap.size vs.size) := ⟨he0.toExt0.trans hext, fun b hb hh => by
      show (if b = x.b then false else g.ho b) = true
      rw [if_neg (by omega)]
      exact he0.hole b hb hh⟩
    refine hK _ _ _ c hext0 (h.next hok hR ho hi hready hL hext h.cle (fun j oj hj hej hxj => ?_) hfill (fun y hy hyl => ?_) ?_)
    · rw [hL j, h.eff j oj hj hej hxj]
      constructor
      · rintro (rfl | hh)
        · rw [hx] at hxj; cases hxj
        · exact hh
      · exact .inr
    · obtain ⟨h1, h2⟩ := (hLf _).1 hyl
      show (if y.b = x.b then false else g.ho y.b) = true
      rw [if_neg (fun e => h1 (by rw [hfl.inj y hy x hxm e, hxi]))]
      exact h.hole y hy h2
    · rw [hvx]
      exact r4 _ (upd_eq _ _ _) (upd_eq _ _ _) (upd_eq _ _ _) (if_pos rfl) ⟨hbn, if_pos rfl⟩
  · -- an operation that gives a value
    have hLu : undone L' fl = undone L fl := by
      have : ∀ l : List Flt, (∀ y ∈ l, y ∈ fl) → undone L' l = undone L l := fun l => by
        induction l with
        | nil => intro _; rfl
        | cons y l ih =>
          intro hl
          have hyi : y.i ≠ i := fltAt_none fl i hx y (hl y List.mem_cons_self)
          have : L' y.i = L y.i := by
            cases hly : L y.i with
            | true => exact (hL _).2 (.inr hly)
            | false => exact (hLf _).2 ⟨hyi, hly⟩
          simp only [undone, this]
          rw [ih fun z hz => hl z (List.mem_cons_of_mem _ hz)]
      exact this fl fun _ hy => hy
    have fin : ∀ v, VR g (VV i) v → K (a.put o.dst v) w := fun v hv => by
      refine hK g _ w c he0 (h.next hok hR ho hi hready hL (Ext.refl g).toExt0 h.cle (fun j oj hj hej hxj => ?_) (by rw [hLu]; exact h.me) (fun y hy hyl => h.hole y hy ((hLf _).1 hyl).2) hv)
      rw [hL j, h.eff j oj hj hej hxj]
      constructor
      · rintro (rfl | hh)
        · rw [ho] at hj; cases hj; rw [he] at hej; cases hej
        · exact hh
      · exact .inr
    unfold evGuarded at hg
    split at hg
    · rename_i hw
      rw [if_pos (wanted_spec hlook rfl hw)]
      unfold evOp at hg
      rw [he] at hg
      obtain ⟨hows, hval⟩ := val_owes hg
      have hval := hval hvi
      refine val_op hT hlook h.me (sv := VV i) ?_ fin
      rw [← hval]
      refine valOp_heap fun b hb => ?_
      have hrd : (RT i).1 = some b := by rw [hr.rt]; exact hb
      have hbi : b < (MM i).nx := by
        have := hr.rd
        rw [hrd] at this
        simpa [rdLt] using this
      have hhas : g.has b := by
        have hops : ∀ x ∈ o.op.operands, VR g (evO (FF i) x) (a.eval x) := hlook.operand h.me.glob
        unfold readOf at hb
        split at hb
        · rename_i t x hox
          have := hops x (by simp [hox, Op.operands])
          split at hb
          · rename_i b' off hab
            simp only [Option.some.injEq] at hb
            rw [hab] at this
            simp only [VR] at this
            rw [← hb]; exact this.1
          · cases hb
        · rename_i src dst x hox
          have := hops x (by simp [hox, Op.operands])
          split at hb
          · rename_i b' off len own hab
            simp only [Option.some.injEq] at hb
            rw [hab] at this
            simp only [VR] at this
            rw [← hb]; exact this.1
          · rename_i b' off hab
            simp only [Option.some.injEq] at hb
            rw [hab] at this
            simp only [VR] at this
            rw [← hb]; exact this.1
          · cases hb
        · rename_i t x ix ok hox
          have := hops x (by simp [hox, Op.operands])
          split at hb
          · rename_i b' hab
            simp only [Option.some.injEq] at hb
            rw [hab] at this
            simp only [VR] at this
            rw [← hb]; exact this.1
          · cases hb
        · cases hb
      have hnu : b ∉ undone L fl := fun hu => by
        obtain ⟨y, hy, hyl, hyb⟩ := (undone_mem fl b).1 hu
        have := h.hole y hy hyl
        rw [hyb, hhas.2] at this
        cases this
      rw [(hideAll_spec _ _).2.2.2 b, if_neg hnu]
      rcases Nat.le_total c i with hci | hic
      · have hbc : b < (MM c).nx := by
          have := hhas.1
          rw [h.me.n, (hideAll_spec _ _).1] at this
          exact this
        have := (run_upto hcf.fine hR (i - c) c (by omega) hbc fun j oj h1 h2 hj hej hxj => by
          have hlt : j < i := by omega
          have hun : L j = false := by
            cases hl : L j with
            | false => rfl
            | true => have := (h.eff j oj hj hej hxj).1 hl; omega
          have hbit : bit (befOf ops i) j = false := by
            cases hb' : bit (befOf ops i) j with
            | false => rfl
            | true => have := hready j hb'; rw [hun] at this; cases this
          have := (hr.dyn j hlt hbit).1
          rw [hrd] at this
          exact this).1
        rw [show c + (i - c) = i by omega] at this
        exact this.symm
      · have := (run_upto hcf.fine hR (c - i) i (by have := h.cle; omega) hbi fun j oj h1 h2 hj hej hxj => by
          have hne : j ≠ i := by
            intro e
            subst e
            rw [ho] at hj; cases hj
            rw [he] at hej; cases hej
          have hl : L j = true := (h.eff j oj hj hej hxj).2 (by omega)
          have hbit : bit (befOf ops j) i = false := by
            cases hb' : bit (befOf ops j) i with
            | false => rfl
            | true => have := h.closed j hl i hb'; rw [hi] at this; cases this
          have := ((hR j oj hj).dyn i (by omega) hbit).2
          rw [hrd] at this
          exact this).1
        rw [show i + (c - i) = c by omega] at this
        exact this
    · rename_i hw
      have := wanted_spec hlook rfl hw
      rw [if_neg (by rw [this]; decide)]
      simp only [Option.some.injEq, Prod.mk.injEq] at hg
      exact ⟨fun _ _ => trivial, fin undef (by rw [← hg.1]; simp [undefS, VR])⟩
    · cases hg
  · -- an operation that turns memory
    have hLu : undone L' fl = undone L fl := by
      have : ∀ l : List Flt, (∀ y ∈ l, y ∈ fl) → undone L' l = undone L l := fun l => by
        induction l with
        | nil => intro _; rfl
        | cons y l ih =>
          intro hl
          have hyi : y.i ≠ i := fltAt_none fl i hx y (hl y List.mem_cons_self)
          have : L' y.i = L y.i := by
            cases hly : L y.i with
            | true => exact (hL _).2 (.inr hly)
            | false => exact (hLf _).2 ⟨hyi, hly⟩
          simp only [undone, this]
          rw [ih fun z hz => hl z (List.mem_cons_of_mem _ hz)]
      exact this fl fun _ hy => hy
    have hnfl := hfl.not ho hx
    have key : ∀ j oj, ops[j]? = some oj → isEff oj.op = true → fltAt j fl = none → (L j = true ↔ j < i) := fun j oj hj hej hxj => by
      by_cases e : j = i
      · subst e; rw [hi]; simp
      · rcases h.order hok ho hi hready hj e with ⟨h1, h2⟩ | ⟨h1, h2⟩ | ⟨_, _, _, _, h3⟩
        · rw [h2]; simp [h1]
        · rw [h2]; simp; omega
        · rcases h3 hej he with h3 | h3
          · rw [hfl.not hj hxj] at h3; cases h3
          · rw [hnfl] at h3; cases h3
    have hci : c ≤ i := by
      have := h.eff i o ho he hx
      rw [hi] at this
      simp at this
      exact this
    have hstill := run_still hcf.fine hR (i - c) c (by omega) fun j oj h1 h2 hj => by
      cases hej : isEff oj.op with
      | false => exact .inl rfl
      | true =>
        cases hxj : fltAt j fl with
        | some y => exact .inr rfl
        | none =>
          have k1 := (key j oj hj hej hxj).2 (by omega)
          have k2 := (h.eff j oj hj hej hxj).1 k1
          omega
    rw [show c + (i - c) = i by omega] at hstill
    obtain ⟨m0, hm0⟩ : ∃ m0, hideAll (undone L fl) (MM i) = m0 := ⟨_, rfl⟩
    have hgm0 : ∀ b, m0.h.get b = if b ∈ undone L fl then none else (MM i).h.get b := fun b => by rw [← hm0]; exact (hideAll_spec _ _).2.2.2 b
    have hmi : MRel g w0 F m0 w := by
      refine h.me.less (fun b o' hb => ?_) ?_
      · rw [hgm0 b] at hb
        rw [(hideAll_spec _ _).2.2.2 b, ← hstill.1]
        exact hb
      · rw [← hm0, (hideAll_spec _ _).1, (hideAll_spec _ _).1, hstill.2]
    obtain ⟨u1, u2, u3, u4⟩ := hideAll_spec (unbound (befOf ops i) fl) (MM i)
    have hsub : ∀ b, b ∈ undone L fl → b ∈ unbound (befOf ops i) fl := fun b hb => by
      obtain ⟨y, hy, hyl, hyb⟩ := (undone_mem fl b).1 hb
      refine (unbound_mem fl b).2 ⟨y, hy, ?_, hyb⟩
      cases hbit : bit (befOf ops i) y.i with
      | false => rfl
      | true => have := hready _ hbit; rw [hyl] at this; cases this
    have hfrh := fresh_h o (hideAll (unbound (befOf ops i) fl) (MM i))
    have hmo : MRel g w (Aside g F m0 fun b => b ∈ unbound (befOf ops i) fl) (fresh o (hideAll (unbound (befOf ops i) fl) (MM i))) w := by
      refine hmi.out _ ?_ _ fun b o' hb => ?_
      · rw [hfrh.2.1, u1, ← hm0, (hideAll_spec _ _).1]
      · rw [hfrh.1, u4 b] at hb
        split at hb
        · cases hb
        · rename_i hnb
          refine ⟨?_, hnb⟩
          rw [hgm0 b, if_neg (fun hu => hnb (hsub b hu))]
          exact hb
    obtain ⟨m2, hg, hm2, hvc2⟩ : ∃ m2, evGuarded P T cf r ops.toList i o (FF i) (fresh o (hideAll (unbound (befOf ops i) fl) (MM i))) = some (VV i, m2) ∧ (m1.h = m2.h ∧ m1.nx = m2.nx) ∧ AllP m2.vc := by
      rcases run_quiet hq with ⟨_, hx'⟩ | ⟨_, m3, hx', _, hm⟩
      · exact ⟨m1, hx', ⟨rfl, rfl⟩, by rw [← k2]; exact hvi⟩
      · exact ⟨m3, hx', by rw [hm, Me.setWm_h, Me.setWm_nx]; exact ⟨rfl, rfl⟩, by rw [k2, hm, Me.setWm_vc] at hvi; exact hvi⟩
    have hfine := guarded_fine hcf.fine hg
    refine op_sound hT hcf hlook hmo hg hvc2 fun v w' ht => ?_
    obtain ⟨g', hext, hm', hv⟩ := ht
    have hback : MRel g' w0 F (hideAll (undone L' fl) (MM (i + 1))) w' := by
      refine hmi.back hext hm' (fun b o' hb => ?_) ?_ fun b o' hb => ?_
      · rcases hfine.wr b o' hb with hb' | hb'
        · rw [hfrh.1, u4 b] at hb'
          split at hb'
          · cases hb'
          · rename_i hnb
            refine .inl ⟨?_, hnb⟩
            rw [hgm0 b, if_neg (fun hu => hnb (hsub b hu))]
            exact hb'
        · exact .inr hb'
      · rw [(hideAll_spec _ _).1, k1, hm2.2]
      · rw [hLu, (hideAll_spec _ _).2.2.2 b] at hb
        split at hb
        · cases hb
        · rename_i hnu
          rw [k4 b] at hb
          split at hb
          · rename_i hc2
            refine .inr ⟨hc2.1, ?_⟩
            rw [hgm0 b, if_neg hnu]
            exact hb
          · rw [hm2.1] at hb
            exact .inl hb
    refine hK g' _ w' (i + 1) (he0.trans hext) (h.next hok hR ho hi hready hL hext.toExt0 (by omega) (fun j oj hj hej hxj => ?_) hback (fun y hy hyl => ?_) hv)
    · rw [hL j, key j oj hj hej hxj]
      omega
    · refine hext.hole y.b ?_ (h.hole y hy ((hLf _).1 hyl).2)
      rw [hmo.n, hfrh.2.1, u1]
      have := (run_nx hcf.fine hR i 0 (by omega)).1
      rw [Nat.zero_add] at this
      have := (hfl.at' y hy).2.1
      omega

include hcf h hR in
theorem At.last (hall : ∀ j, j < ops.size → L j = true) (hin : ∀ x ∈ fl, x.i < ops.size) : FRel g (FF ops.size) a ∧ MRel g w0 F (MM ops.size) w := by
  refine ⟨⟨by rw [(run_slot hR 0 ops.size (Nat.le_refl _)).1]; exact h.nt, fun t => ?_⟩, ?_⟩
  · rcases (run_slot hR t ops.size (Nat.le_refl _)).2 with ⟨j, oj, h1, h2, h3, h4, h5⟩ | ⟨h1, h2⟩
    · rw [h5]
      exact h.slot1 t j oj h2 h3 (hall j h1) fun k o' k1 k2 k3 => absurd k3 (h4 k o' k1 (Array.getElem?_eq_some_iff.1 k2).1 k2)
    · rw [h2]
      exact h.slot0 t fun j oj hj hd => absurd hd (h1 j oj (Array.getElem?_eq_some_iff.1 hj).1 hj)
  · have hstill := run_still hcf.fine hR (ops.size - c) c (by have := h.cle; omega) fun j oj h1 h2 hj => by
      cases hej : isEff oj.op with
      | false => exact .inl rfl
      | true =>
        cases hxj : fltAt j fl with
        | some y => exact .inr rfl
        | none =>
          have := (h.eff j oj hj hej hxj).1 (hall j (Array.getElem?_eq_some_iff.1 hj).1)
          omega
    rw [show c + (ops.size - c) = ops.size by have := h.cle; omega] at hstill
    refine h.me.less (fun b o hb => ?_) ?_
    · rw [(hideAll_spec _ _).2.2.2 b, if_neg, ← hstill.1]
      · exact hb
      · intro hu
        obtain ⟨y, hy, hyl, _⟩ := (undone_mem fl b).1 hu
        rw [hall _ (hin y hy)] at hyl
        cases hyl
    · rw [(hideAll_spec _ _).1, hstill.2]
end

end
end Go.Sx
