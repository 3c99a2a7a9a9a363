/- The abstract evaluator: code, and calls. -/
import Derived.Test.YtjmcholbjjgelaaDoorSxDraw3
import Derived.Scope
import Derived.RangeFuncRecord
namespace Go.Sx
noncomputable section
set_option linter.unusedVariables false
open Go.RowKit

/-! ### rules that the kit lacks -/
section
variable {F : Fence} {n : Nat} {P : Program} {Q : Exit → Act → World → Prop} {a : Act} {w : World}
theorem stepR_scope {b : Frame} {c : Code} {k : List Item} {cs : List Frame} : step P (lone (b.atR a (.code (.scope c) :: k)) cs w) = .next (lone (b.atR a (.code c :: .inScope c :: k)) cs w) :=
  step_lone_go (by simp [stepG, stepG.exec, Frame.atR])
theorem stepR_inScope {b : Frame} {c : Code} {k : List Item} {cs : List Frame} : step P (lone (b.atR a (.inScope c :: k)) cs w) = .next (lone (b.atR a k) cs w) :=
  step_lone_go (by simp [stepG, stepG.exec, Frame.atR])

theorem wpIn_scope {c : Code} (h : c.wpIn F n P (Exit.noGoto Q) a w) : (Code.scope c).wpIn F n P Q a w := by
  intro b k cs hro hb hr
  have h0 : (lone (b.atR a (.code (.scope c) :: k)) cs w).fenced P F := fenced_calm hb hr rfl
  obtain ⟨e, a₁, w₁, hq, harr⟩ := h b (.inScope c :: k) cs hro hb hr
  cases e with
  | normal => exact ⟨.normal, a₁, w₁, hq, .head h0 stepR_scope (StepsIn.trans harr (.one (fenced_calm hb hr rfl) stepR_inScope))⟩
  | exit id =>
    have hx : exitTo id (.inScope c :: k) = exitTo id k := by simp [exitTo]
    exact ⟨.exit id, a₁, w₁, hq, fun k' hk => .head h0 stepR_scope (harr.1 k' (by rw [hx]; exact hk)),
      fun hr' hk => let ⟨k₁, h1, h2⟩ := harr.2 hr' (by rw [hx]; exact hk); ⟨k₁, h1, .head h0 stepR_scope h2⟩⟩
  | goto l => exact hq.elim
  | ret => exact ⟨_, a₁, w₁, hq, .of_steps (.one h0 stepR_scope) harr⟩
  | panic ch => exact ⟨_, a₁, w₁, hq, .of_steps (.one h0 stepR_scope) harr⟩
  | outgrown => exact ⟨_, a₁, w₁, hq, .of_steps (.one h0 stepR_scope) harr⟩

/-- a loop that has been entered -/
def LB (F : Fence) (n : Nat) (P : Program) (c : Code) (Q : Exit → Act → World → Prop) (a : Act) (w : World) : Prop :=
  ∀ (b : Frame) (k : List Item) (cs : List Frame), b.roundOf = F.round → F.fn b.fn → F.room (cs.length + 1 + n) →
    ∃ e a' w', Q e a' w' ∧ ArrivesIn (Machine.fenced P F) P (lone (b.atR a (.code c :: .inLoop c :: k)) cs w) b k cs e a' w'
theorem LB.of_body {c : Code} (h : c.wpIn F n P (Exit.then (LB F n P c Q) Q) a w) : LB F n P c Q a w := by
  intro b k cs hro hb hr
  obtain ⟨e, a₁, w₁, hq, harr⟩ := h b (.inLoop c :: k) cs hro hb hr
  cases e with
  | normal =>
    obtain ⟨e₂, a₂, w₂, hq₂, harr₂⟩ := hq b k cs hro hb hr
    exact ⟨e₂, a₂, w₂, hq₂, .of_steps (StepsIn.trans harr (.one (fenced_calm hb hr rfl) stepR_inLoop)) harr₂⟩
  | exit id => exact ⟨_, a₁, w₁, hq, .pass (x := .inLoop c) rfl (fun _ _ => .inl (by simp)) harr⟩
  | goto l => exact ⟨_, a₁, w₁, hq, .pass (x := .inLoop c) rfl (fun _ _ => .inl (by simp)) harr⟩
  | ret => exact ⟨_, a₁, w₁, hq, .pass (x := .inLoop c) rfl (fun _ _ => .inl (by simp)) harr⟩
  | panic ch => exact ⟨_, a₁, w₁, hq, .pass (x := .inLoop c) rfl (fun _ _ => .inl (by simp)) harr⟩
  | outgrown => exact ⟨_, a₁, w₁, hq, .pass (x := .inLoop c) rfl (fun _ _ => .inl (by simp)) harr⟩
theorem LB.loop {c : Code} (h : LB F n P c Q a w) : (Code.loop c).wpIn F n P Q a w := by
  intro b k cs hro hb hr
  obtain ⟨e, a', w', hq, harr⟩ := h b k cs hro hb hr
  exact ⟨e, a', w', hq, .of_steps (.one (fenced_calm hb hr rfl) stepR_loop) harr⟩
end

def CodesOk (T : Tab) : Prop := ∀ f fn c, T.fn.get f = some fn → fn.body = some c → codeOk c = true

theorem SRel.same {g : Gh} {w0 : World} {F : Nat → Prop} {D : Ctx} {s s' : St} {a : Act} {w : World} (h : SRel g w0 F D s a w) (hf : s'.f = s.f) (hh : s'.m.h = s.m.h) (hn : s'.m.nx = s.m.nx) : SRel g w0 F D s' a w :=
  ⟨by rw [hf]; exact h.fr, h.me.same hh hn, by rw [hf]; exact h.defers, by rw [hf]; exact h.marks, by rw [hf]; exact h.rd⟩
theorem pairs_get {α : Type} : ∀ (l : List (Nat × α)) (i : Nat) (x : α), (pairs l).get i = some x → (i, x) ∈ l
  | [], i, x, h => by simp [pairs, Tr.get_e] at h
  | y :: r, i, x, h => by
    simp only [pairs, Tr.get_put] at h
    by_cases e : i = y.1
    · rw [if_pos e] at h
      simp only [Option.some.injEq] at h
      rw [e, ← h]
      exact List.mem_cons_self
    · rw [if_neg e] at h
      exact List.mem_cons_of_mem _ (pairs_get r i x h)
theorem slotsAt_mem {f : Fra} : ∀ (l : List Nat) (x : Nat × SV), x ∈ slotsAt f l → x.2 = f.get x.1
  | [], x, h => by cases h
  | j :: r, x, h => by
    simp only [slotsAt, List.mem_cons] at h
    rcases h with rfl | h
    · rfl
    · exact slotsAt_mem r x h
theorem blocksAt_mem {h : Heap} : ∀ (l : List Nat) (x : Nat × AObj), x ∈ blocksAt h l → h.get x.1 = some x.2
  | [], x, hh => by cases hh
  | c :: r, x, hh => by
    simp only [blocksAt] at hh
    split at hh
    · rename_i o ho
      simp only [List.mem_cons] at hh
      rcases hh with rfl | hh
      · exact ho
      · exact blocksAt_mem r x hh
    · exact blocksAt_mem r x hh
/-- how a piece of code is left -/
def Post (g : Gh) (w0 : World) (F : Nat → Prop) (D : Ctx) (e : Exit) (s' : St) : Exit → Act → World → Prop := fun e' a' w' => e' = e ∧ ∃ g', Ext g g' ∧ SRel g' w0 F D s' a' w'
theorem Post.mk {g g' : Gh} {w0 : World} {F : Nat → Prop} {D : Ctx} {e : Exit} {s' : St} {a' : Act} {w' : World} (he : Ext g g') (h : SRel g' w0 F D s' a' w') : Post g w0 F D e s' e a' w' := ⟨rfl, g', he, h⟩

/-- a piece of code, from an abstract state, is left so -/
def Tri (P : Program) (c : Code) (s : St) (e : Exit) (s' : St) : Prop :=
  ∀ (g : Gh) (w0 : World) (F : Nat → Prop) (D : Ctx) (a : Act) (w : World), SRel g w0 F D s a w →
    c.wpIn (FW D.ro) 0 P (Post g w0 F D e s') a w ∧ ∀ c', c = .loop c' → LB (FW D.ro) 0 P c' (Post g w0 F D e s') a w
/-- a loop, from a state of which something is told, is left so -/
def LoopT (P : Program) (c : Code) (nt : Nat) (rd : Option (Option Nat)) (ss : List (Nat × SV)) (bl : List (Nat × AObj)) (nx : Nat) (e : Exit) (ss' : List (Nat × SV)) (ups : List (Nat × Option AObj)) (nx' : Nat) : Prop :=
  ∀ (fr : Fra) (m : Me), fr.nt = nt → fr.rd = rd → m.nx = nx → (∀ x ∈ ss, x.2 = fr.get x.1) → (∀ x ∈ bl, m.h.get x.1 = some x.2) → Tri P c ⟨fr, m⟩ e ⟨fraOf fr ss', (upsM ups m).setNx nx'⟩
/-- a function's call, with memory of which something is told, comes to this -/
def CallT (P : Program) (f : FuncId) (args : List SV) (bl : List (Nat × AObj)) (nx : Nat) (sv : SV) (ups : List (Nat × Option AObj)) (nx' : Nat) : Prop :=
  ∀ (g : Gh) (w0 : World) (F : Nat → Prop) (m : Me) (w : World) (vs : List Value), MRel g w0 F m w → m.nx = nx → (∀ x ∈ bl, m.h.get x.1 = some x.2) → VRs g args vs →
    LandsF P f vs w (fun v w' => Turns g w0 F ((upsM ups m).setNx nx') sv v w')
structure RecOk (P : Program) (rec : Rec) : Prop where
  fine : ∀ c s e s', rec c s = some (e, s') → Fine s.m s'.m
  sound : ∀ c s e s', codeOk c = true → rec c s = some (e, s') → AllP s'.m.vc → Tri P c s e s'

structure IntrOk (P : Program) (I : Intr) : Prop where
  own : ∀ c nt rd ss bl nx e ss' ups nx', codeOk c = true → I.own c nt rd ss bl nx e ss' ups nx' → LoopT P c nt rd ss bl nx e ss' ups nx'
  ownC : ∀ f args bl nx sv ups nx', I.ownC f args bl nx sv ups nx' → CallT P f args bl nx sv ups nx'
  sound : ∀ (f : FuncId) (args : List SV) (h : Heap) (nx : Nat) (v : SV) (new : List AObj), I.ans f args h nx = some (v, new) →
    ∀ (g : Gh) (w0 : World) (F : Nat → Prop) (m : Me) (w : World) (vs : List Value), m.h = h → m.nx = nx → MRel g w0 F m w → VRs g args vs →
      LandsF P f vs w (fun v' w' => Turns g w0 F (addAll new m) v v' w')

theorem addAll_fine : ∀ (l : List AObj) (m : Me), wrObjs l = true → Fine m (addAll l m)
  | [], m, _ => Fine.refl _
  | o :: l, m, h => by
    simp only [wrObjs] at h
    split at h
    · rename_i hw
      exact (Fine.new m o hw).trans (addAll_fine l _ h)
    · cases h
theorem upsM_fine : ∀ (l : List (Nat × Option AObj)) (m : Me), wrAll l = true → Fine m (upsM l m)
  | [], m, _ => Fine.refl _
  | x :: l, m, h => by
    simp only [upsM]
    simp only [wrAll] at h
    split
    · rename_i o ho
      rw [ho] at h
      simp only at h
      split at h
      · rename_i hw
        exact (Fine.put m _ _ hw).trans (upsM_fine l _ h)
      · cases h
    · rename_i ho
      rw [ho] at h
      exact (Fine.del m _).trans (upsM_fine l _ h)
theorem upsM_nx : ∀ (l : List (Nat × Option AObj)) (m : Me), (upsM l m).nx = m.nx
  | [], m => rfl
  | x :: l, m => by
    simp only [upsM]
    split
    · rw [upsM_nx l, Me.put_nx]
    · rw [upsM_nx l, Me.del_nx]
theorem Me.setNx_h (m : Me) (x : Nat) : (m.setNx x).h = m.h := by cases m; rfl
theorem Me.setNx_nx (m : Me) (x : Nat) : (m.setNx x).nx = x := by cases m; rfl
theorem Me.setNx_wm (m : Me) (x : Nat) : (m.setNx x).wm = m.wm := by cases m; rfl
theorem Me.setNx_vc (m : Me) (x : Nat) : (m.setNx x).vc = m.vc := by cases m; rfl
theorem Me.setHs_h (m : Me) (x : List Hint) : (m.setHs x).h = m.h := by cases m; rfl
theorem Me.setHs_nx (m : Me) (x : List Hint) : (m.setHs x).nx = m.nx := by cases m; rfl
theorem Me.setHs_vc (m : Me) (x : List Hint) : (m.setHs x).vc = m.vc := by cases m; rfl
theorem Fine.setNx {m m' : Me} (h : Fine m m') {x : Nat} (hx : m.nx ≤ x) : Fine m (m'.setNx x) :=
  ⟨by rw [Me.setNx_vc]; exact h.mo, by rw [Me.setNx_nx]; exact hx, by rw [Me.setNx_wm]; exact h.wm, fun b hb hn => by rw [Me.setNx_wm] at hb; rw [Me.setNx_h]; exact h.quiet b hb hn, fun b o hb => by rw [Me.setNx_h] at hb; exact h.wr b o hb⟩
theorem closeMarks_fine : ∀ (l : List Nat) (m m' : Me), closeMarks l m = some m' → Fine m m'
  | [], m, m', h => by simp only [closeMarks, Option.some.injEq] at h; subst h; exact Fine.refl _
  | d :: l, m, m', h => by
    simp only [closeMarks] at h
    split at h
    · exact (Fine.put m _ _).trans (closeMarks_fine l _ _ h)
    · cases h

/-! ### results -/
theorem run_mapM_list {P : Program} {α : Type} {g : Gh} {w : World} (f : α → Sem Value) (fs : α → Option SV) : ∀ (l : List α) (vs : List SV), (∀ x ∈ l, ∀ sv, fs x = some sv → ∃ v, (f x).run P w = .ok v w ∧ VR g sv v) →
    (∀ (i : Nat) (x : α), l[i]? = some x → fs x = vs[i]?) → vs.length = l.length → ∃ us, (l.mapM f).run P w = .ok us w ∧ VRs g vs us
  | [], vs, h, hv, hl => by
    have : vs = [] := List.eq_nil_of_length_eq_zero (by simpa using hl)
    subst this
    exact ⟨[], by simp, by simp [VRs]⟩
  | x :: l, vs, h, hv, hl => by
    cases vs with
    | nil => simp at hl
    | cons sv vs =>
      have h0 := hv 0 x (by simp)
      obtain ⟨v, h1, h2⟩ := h x (by simp) sv (by simpa using h0)
      obtain ⟨us, h3, h4⟩ := run_mapM_list f fs l vs (fun y hy => h y (by simp [hy])) (fun i y hy => by simpa using hv (i + 1) y (by simpa using hy)) (by simpa using hl)
      refine ⟨v :: us, by simp [List.mapM_cons, h1, h3], ?_⟩
      simp only [VRs]
      exact ⟨v, us, rfl, h2, h4⟩

theorem resAll_spec {T : Tab} {s : St} : ∀ (l : List ResultVar) (vs : List SV), resAll T s l = some vs → vs.length = l.length ∧ ∀ (i : Nat) x, l[i]? = some x → resOne T s x = vs[i]?
  | [], vs, h => by simp only [resAll, Option.some.injEq] at h; subst h; simp
  | x :: l, vs, h => by
    simp only [resAll] at h
    split at h
    · rename_i v hv
      split at h
      · rename_i r hr
        simp only [Option.some.injEq] at h
        subst h
        obtain ⟨h1, h2⟩ := resAll_spec l r hr
        refine ⟨by simp [h1], fun i y hy => ?_⟩
        cases i with
        | zero => simp at hy; subst hy; simpa using hv
        | succ i => simpa using h2 i y (by simpa using hy)
      · cases h
    · cases h

section
variable {P : Program} {T : Tab} (hT : TabOk P T)
include hT

theorem resOne_sound {g : Gh} {w0 : World} {F : Nat → Prop} {D : Ctx} {s : St} {a : Act} {w : World} (hs : SRel g w0 F D s a w) {x : ResultVar} {sv : SV} (h : resOne T s x = some sv) :
    ∃ v, (match x with | .tmp t => (pure (a.tmps.getD t undef) : Sem Value) | .cell c t => do loadVar t (← asAddr (a.tmps.getD c undef))).run P w = .ok v w ∧ VR g sv v := by
  obtain ⟨f, m⟩ := s
  unfold resOne at h
  cases x with
  | tmp t =>
    simp only [Option.some.injEq] at h
    subst h
    exact ⟨_, by simp, hs.fr.slots t⟩
  | cell c t =>
    simp only at h
    unfold vLoad at h
    split at h
    · rename_i b off hb
      have := hs.fr.slots c
      rw [hb] at this
      simp only [VR] at this
      obtain ⟨v, h1, h2⟩ := load_run hT hs.me.heap h
      refine ⟨v, ?_, h2⟩
      simp only [this.2]
      simp [asAddr, h1]
    · cases h

theorem res_sound {fn : Func} {g : Gh} {w0 : World} {F : Nat → Prop} {D : Ctx} {s : St} {a : Act} {w : World} (hs : SRel g w0 F D s a w) {sv : SV} (h : resS T fn s = some sv) :
    ∃ v, (results fn a.tmps).run P w = .ok v w ∧ VR g sv v := by
  unfold resS at h
  split at h
  · rename_i l hl
    obtain ⟨h1, h2⟩ := resAll_spec _ _ hl
    obtain ⟨us, h3, h4⟩ := run_mapM_list (P := P) (g := g) (w := w) (fun (x : ResultVar) => match x with | .tmp t => (pure (a.tmps.getD t undef) : Sem Value) | .cell c t => do loadVar t (← asAddr (a.tmps.getD c undef)))
      (resOne T s) fn.results.toList l (fun x _ sv hsv => resOne_sound hT hs hsv) h2 h1
    have hrun : (results fn a.tmps).run P w = .ok (if h : us.toArray.size = 1 then us.toArray[0] else .tuple us.toArray) w := by
      unfold results
      rw [Array.mapM_eq_mapM_toList]
      simp only [Sem.run_bind, Sem.run_map]
      have key : ∀ r : Result (List Value), r = .ok us w → ((r.andThen fun a w' => Result.ok a.toArray w').andThen fun a w' => Sem.run P (pure (if h : a.size = 1 then a[0] else Value.tuple a)) w') =
        .ok (if h : us.toArray.size = 1 then us.toArray[0] else .tuple us.toArray) w := by
        rintro _ rfl
        rfl
      exact key _ h3
    refine ⟨_, hrun, ?_⟩
    split at h
    · rename_i sv'
      simp only [Option.some.injEq] at h
      subst h
      simp only [VRs] at h4
      obtain ⟨v, vs, rfl, hv, rfl⟩ := h4
      simpa using hv
    · rename_i hne
      simp only [Option.some.injEq] at h
      subst h
      have hlen := h4.length
      have : ¬ us.toArray.size = 1 := by
        intro e
        have : l.length = 1 := by simpa [hlen] using e
        obtain ⟨v, hv⟩ := List.length_eq_one_iff.1 this
        exact hne v hv
      rw [dif_neg this]
      exact mkTup_VR (by simpa using h4)
  · cases h

/-! ### calls -/
omit hT in
/-- a frame that leaves with marks -/
theorem leaves_marks {g : Gh} {w0 : World} {F : Nat → Prop} {fn : Func} {tmps : Array Value} {R : Ending → World → Prop} : ∀ (dm : List Nat) (m m1 : Me) (w : World), closeMarks dm m = some m1 → MRel g w0 F m w →
    (∀ w1, MRel g w0 F m1 w1 → ∃ v, (results fn tmps).run P w1 = .ok v w1 ∧ R (.returned v) w1) → LeavesInM Fence.wide 0 P fn tmps R (dm.map (mark g)) .returning w
  | [], m, m1, w, h, hm, hr => by
    simp only [closeMarks, Option.some.injEq] at h
    subst h
    simp only [List.map_nil, LeavesInM, LeavesIn]
    exact hr w hm
  | d :: dm, m, m1, w, h, hm, hr => by
    simp only [closeMarks] at h
    split at h
    · rename_i hd
      have hw : w.heap[g.σ d]? = some (.deferred (some [])) := (hm.heap d _ hd).2
      have hlt := (Array.getElem?_eq_some_iff.1 hw).1
      simp only [List.map_cons, LeavesInM]
      refine ⟨by simp, .inl ⟨g.σ d, _, rfl, run_takeDeferred hw, ?_⟩⟩
      exact leaves_marks dm _ _ _ h (hm.putAny hd trivial (fun _ => trivial) (near_putObj _ _ _) (World.putObj_heap_same hlt)) hr
    · cases h

omit hT in
theorem setAll_spec : ∀ (ps : List Tmp) (args : List SV) (f f' : Fra), setAll ps args f = some f' → ps.length = args.length ∧ f'.dm = f.dm ∧ f'.rd = f.rd ∧
    ∀ (g : Gh) (tmps : Array Value) (vs : List Value), f.nt ≤ tmps.size → (∀ t, VR g (f.get t) (tmps.getD t undef)) → VRs g args vs →
      f'.nt ≤ ((ps.zip vs).foldl (fun tmps (t, a) => tmps.setIfInBounds t a) tmps).size ∧ ∀ t, VR g (f'.get t) (((ps.zip vs).foldl (fun tmps (t, a) => tmps.setIfInBounds t a) tmps).getD t undef)
  | [], [], f, f', h => by
    simp only [setAll, Option.some.injEq] at h
    subst h
    exact ⟨rfl, rfl, rfl, fun g tmps vs h1 h2 h3 => ⟨h1, h2⟩⟩
  | t :: ps, v :: args, f, f', h => by
    simp only [setAll] at h
    split at h
    · rename_i f1 hp
      obtain ⟨k1, k2, k3, k4⟩ := setAll_spec ps args f1 f' h
      obtain ⟨p1, p2⟩ := put_more hp
      obtain ⟨q1, q2, q3⟩ := Fra.get_put hp
      refine ⟨by simp [k1], k2.trans p1, k3.trans p2, fun g tmps vs h1 h2 h3 => ?_⟩
      simp only [VRs] at h3
      obtain ⟨u, us, rfl, h4, h5⟩ := h3
      simp only [List.zip_cons_cons, List.foldl_cons]
      refine k4 g _ us (by simp [q1, h1]) (fun t' => ?_) h5
      rw [q3 t']
      by_cases e : t = t'
      · subst e
        rw [if_pos rfl, Array.getD_eq_getD_getElem?, Array.getElem?_setIfInBounds]
        have hlt : t < tmps.size := Nat.lt_of_lt_of_le (q2 t rfl) h1
        simpa [hlt] using h4
      · rw [if_neg (by simpa using e), Array.getD_eq_getD_getElem?, Array.getElem?_setIfInBounds, if_neg e, ← Array.getD_eq_getD_getElem?]
        exact h2 t'
    · cases h
  | [], _ :: _, f, f', h => by simp [setAll] at h
  | _ :: _, [], f, f', h => by simp [setAll] at h

omit hT in
/-- one round -/
theorem round_sound {rec : Rec} (hrec : RecOk P rec) {b : Nat} {args : List SV} {m m' : Me} {sv : SV} (h : roundS rec b args m = some (sv, m')) :
    Fine m m' ∧ (AllP m'.vc → ∀ (g : Gh) (w0 : World) (F : Nat → Prop) (w : World) (vs : List Value), MRel g w0 F m w → VRs g args vs → Lands P g (.yld b) vs w (fun v w' => Turns g w0 F m' sv v w')) := by
  unfold roundS at h
  split at h
  · rename_i f ps asg body d hg
    split at h
    · rename_i sl df nt dm rd hset
      unfold roundBody at h
      split at h
      · rename_i e1 s1 h1
        split at h
        · split at h
          rename_i fr2 m2
          split at h
          · rename_i f2 ps2 asg2 body2 d2 hg2
            unfold roundEnd at h
            split at h
            · rename_i e3 s3 h3
              split at h
              rename_i fr4 m4
              split at h
              · rename_i hdm
                split at h
                · rename_i j hj
                  split at h
                  · rename_i f5 ps5 asg5 body5 d5 hg5
                    simp only [Option.some.injEq, Prod.mk.injEq] at h
                    obtain ⟨rfl, rfl⟩ := h
                    have f1 := hrec.fine _ _ _ _ h1
                    have f3 := hrec.fine _ _ _ _ h3
                    refine ⟨((f1.trans (Fine.put _ _ _)).trans f3).trans (Fine.put _ _ _), fun hvc g w0 F w vs hm hvs => ?_⟩
                    rw [Me.put_vc] at hvc
                    have hv3 : AllP m2.vc := by
                      have := f3.mo hvc
                      rwa [Me.put_vc] at this
                    obtain ⟨hhas, L, hw, hst, hpe, hrr, hps, hasg, hbody, hd1, hd2, ok1, ok2⟩ := hm.heap b _ hg
                    obtain ⟨k1, k2, k3, k4⟩ := setAll_spec ps args f _ hset
                    have hlen := hvs.length
                    refine ⟨L.fn, _, L.assign, L.body, run_yield hw (by
                      have hl2 : L.params.size = ps.length := by rw [← hps, Array.length_toList]
                      rw [hl2, k1]; simpa using hlen), ?_⟩
                    refine roundIn_of_wpIn (F := Fence.wide) trivial ?_
                    obtain ⟨r1, r2⟩ := k4 g L.tmps vs hrr.1 hrr.2 hvs
                    have hzip : (L.params.zip vs.toArray).foldl (fun tmps (x : Tmp × Value) => tmps.setIfInBounds x.1 x.2) L.tmps = (ps.zip vs).foldl (fun tmps (x : Tmp × Value) => tmps.setIfInBounds x.1 x.2) L.tmps := by
                      rw [← Array.foldl_toList, Array.toList_zip, hps]
                    have hs0 : SRel g w0 F ⟨[], some (g.σ b)⟩ ⟨⟨sl, df, nt, [], some (some b)⟩, m⟩ { tmps := (L.params.zip vs.toArray).foldl (fun tmps (x : Tmp × Value) => tmps.setIfInBounds x.1 x.2) L.tmps, defers := [] } w := by
                      refine ⟨⟨?_, fun t => ?_⟩, hm, rfl, (fun b hb => by cases hb), hhas, rfl⟩
                      · rw [hzip]; exact r1
                      · have := r2 t
                        rw [hzip]; exact this
                    have ha := (hrec.sound _ _ _ _ ok1 h1 hv3 g w0 F ⟨[], some (g.σ b)⟩ _ w hs0).1
                    rw [hasg]
                    refine wpIn_mono ha fun e' a1 w1 hp => ?_
                    obtain ⟨rfl, g1, he1, hs1⟩ := hp
                    obtain ⟨hhas1, L1, hw1, hst1, hpe1, hrr1, hps1, hasg1, hbody1, hd11, hd12, ok11, ok12⟩ := hs1.me.heap b _ hg2
                    rw [he1.σ b hhas] at hw1
                    have hlt1 := (Array.getElem?_eq_some_iff.1 hw1).1
                    refine ⟨_, run_beginRound hw1 hst1, ?_⟩
                    have hm3 : MRel g1 w0 F (m2.put b (.lrec .busy none f2 ps2 asg2 body2 d2)) (w1.putObj (g.σ b) (.loop { L1 with state := .busy })) := by
                      refine hs1.me.putAny hg2 trivial (fun _ => trivial) (by rw [he1.σ b hhas]; exact near_putObj _ _ _) ⟨{ L1 with state := .busy }, ?_, rfl, hpe1, hrr1, hps1, hasg1, hbody1, hd11, hd12, ok11, ok12⟩
                      rw [he1.σ b hhas]
                      exact World.putObj_heap_same hlt1
                    have hs3 : SRel g1 w0 F ⟨[], some (g.σ b)⟩ ⟨fr2, m2.put b (.lrec .busy none f2 ps2 asg2 body2 d2)⟩ a1 (w1.putObj (g.σ b) (.loop { L1 with state := .busy })) :=
                      ⟨hs1.fr, hm3, hs1.defers, hs1.marks, hs1.rd⟩
                    have hb3 := (hrec.sound _ _ _ _ ok2 h3 hvc g1 w0 F ⟨[], some (g.σ b)⟩ _ _ hs3).1
                    rw [hbody]
                    refine wpIn_mono hb3 fun e' a4 w4 hp => ?_
                    obtain ⟨rfl, g4, he4, hs4⟩ := hp
                    have he14 := he1.trans he4
                    obtain ⟨hhas4, L4, hw4, hst4, hpe4, hrr4, hps4, hasg4, hbody4, hd41, hd42, ok41, ok42⟩ := hs4.me.heap b _ hg5
                    rw [he14.σ b hhas] at hw4
                    have hlt4 := (Array.getElem?_eq_some_iff.1 hw4).1
                    have fin : ∀ jump : Option Code, j = jump → ∃ v w', (Instr.endRound (g.σ b) jump).run P w4 = .ok v w' ∧ (∃ v', (Ending.returned v : Ending) = .returned v' ∧ Turns g w0 F (m4.put b (.lrec (stJ j) j f5 ps5 asg5 body5 d5)) (.pl (.bool j.isNone)) v' w') := by
                      rintro jump rfl
                      refine ⟨_, _, run_endRound j hw4, _, rfl, g4, he14, ?_, by simp [VR]⟩
                      refine hs4.me.putAny hg5 trivial (fun _ => trivial) (by rw [he14.σ b hhas]; exact near_putObj _ _ _) ⟨{ L4 with state := if j.isNone then .ready else .done, pending := j }, ?_, ?_, rfl, hrr4, hps4, hasg4, hbody4, hd41, hd42, ok41, ok42⟩
                      · rw [he14.σ b hhas]
                        exact World.putObj_heap_same hlt4
                      · cases j <;> rfl
                    unfold jumpOf at hj
                    split at hj
                    · exact fin none (by simpa using hj.symm)
                    · exact fin (some .ret) (by simpa using hj.symm)
                    · rename_i id
                      exact fin (some (.exit id)) (by simpa using hj.symm)
                    · cases hj
                  · cases h
                · cases h
              · cases h
            · cases h
          · cases h
        · cases h
      · cases h
    · cases h
  · cases h

theorem call_sound {I : Intr} (hI : IntrOk P I) (hC : CodesOk T) {rec : Rec} (hrec : RecOk P rec) : SoundCall P (callF T I rec) := by
  have enter : ∀ (fn : Func) (args : List SV) (m : Me) (sv : SV) (m' : Me), enterS T rec fn args m = some (sv, m') → ∃ body e f2 m2, fn.body = some body ∧ args.length ≤ fn.ntmps ∧
      rec body ⟨⟨Tr.ofList args 0 .e, undefS, fn.ntmps, [], some none⟩, m⟩ = some (e, ⟨f2, m2⟩) ∧ (e = .normal ∨ e = .ret) ∧ closeMarks f2.dm m2 = some m' ∧ resS T fn ⟨f2, m'⟩ = some sv := by
    intro fn args m sv m' h
    unfold enterS at h
    split at h
    · rename_i body hbody
      split at h
      · rename_i hle
        have one : ∀ (s' : St), retS1 T fn s' = some (sv, m') → ∃ f2 m2, s' = ⟨f2, m2⟩ ∧ closeMarks f2.dm m2 = some m' ∧ resS T fn ⟨f2, m'⟩ = some sv := fun s' h => by
          unfold retS1 at h
          split at h
          rename_i f2 m2
          split at h
          · rename_i m1 hc
            split at h
            · rename_i v hv
              simp only [Option.some.injEq, Prod.mk.injEq] at h
              obtain ⟨rfl, rfl⟩ := h
              exact ⟨f2, m2, rfl, hc, hv⟩
            · cases h
          · cases h
        unfold retS at h
        split at h
        · rename_i e s' hr
          split at h
          · obtain ⟨f2, m2, rfl, h1, h2⟩ := one _ h
            exact ⟨body, _, f2, m2, hbody, by simpa using hle, hr, .inl rfl, h1, h2⟩
          · obtain ⟨f2, m2, rfl, h1, h2⟩ := one _ h
            exact ⟨body, _, f2, m2, hbody, by simpa using hle, hr, .inr rfl, h1, h2⟩
          · cases h
        · cases h
      · cases h
    · cases h
  have enter_fine : ∀ (fn : Func) (args : List SV) (m : Me) (sv : SV) (m' : Me), enterS T rec fn args m = some (sv, m') → Fine m m' := by
    intro fn args m sv m' h
    obtain ⟨body, e, f2, m2, _, _, h3, _, h4, _⟩ := enter _ _ _ _ _ h
    exact (hrec.fine _ _ _ _ h3).trans (closeMarks_fine _ _ _ h4)
  have fn_fine : ∀ f args m sv m', callFn T I rec f args m = some (sv, m') → Fine m m' := by
    intro f args m sv m' h
    unfold callFn at h
    split at h
    · unfold callTold at h
      split at h
      · rename_i hle
        simp only [Option.some.injEq, Prod.mk.injEq] at h
        obtain ⟨_, rfl⟩ := h
        rw [Bool.and_eq_true] at hle
        exact ((upsM_fine _ _ hle.2).setNx (by simpa using hle.1)).trans (Fine.need _ _ _)
      · cases h
    · split at h
      · split at h
        · rename_i hw
          simp only [Option.some.injEq, Prod.mk.injEq] at h
          rw [← h.2]
          exact addAll_fine _ _ hw
        · cases h
      · split at h
        · unfold enterH at h
          split at h
          · exact enter_fine _ _ _ _ _ h
          · split at h
            · exact (Fine.setHs _ _).trans (enter_fine _ _ _ _ _ h)
            · unfold unstash at h
              split at h
              · rename_i hx
                simp only [Option.some.injEq, Prod.mk.injEq] at h
                rw [← h.2]
                exact ((Fine.setHs _ _).trans (enter_fine _ _ _ _ _ hx)).trans (Fine.setHs _ _)
              · cases h
        · cases h
  have enter_sound : ∀ (f : FuncId) (fn : Func) (args : List SV) (m : Me) (sv : SV) (m' : Me), T.fn.get f = some fn → enterS T rec fn args m = some (sv, m') → AllP m'.vc →
      ∀ (g : Gh) (w0 : World) (F : Nat → Prop) (w : World) (vs : List Value), MRel g w0 F m w → VRs g args vs → LandsF P f vs w (fun v w' => Turns g w0 F m' sv v w') := by
    intro f fn args m sv m' hfn h hvc g w0 F w vs hm hvs
    obtain ⟨body, e, f2, m2, hb, hle, h3, he, hcl, hres⟩ := enter _ _ _ _ _ h
    obtain ⟨hf1, hf2⟩ := hT.fn f fn hfn
    have hlen := hvs.length
    have hs : SRel g w0 F ⟨[], none⟩ ⟨⟨Tr.ofList args 0 .e, undefS, fn.ntmps, [], some none⟩, m⟩ { tmps := vs.toArray ++ Array.replicate (fn.ntmps - vs.toArray.size) undef, defers := [] } w := by
      refine ⟨⟨by simp; omega, fun t => ?_⟩, hm, rfl, (fun b hb => by cases hb), rfl⟩
      simp only [Fra.get, Tr.get_ofList, Nat.zero_add, Nat.zero_le, true_and, Nat.sub_zero, Tr.get_e]
      by_cases ht : t < args.length
      · rw [if_pos ht, List.getElem?_eq_getElem ht]
        obtain ⟨u, hu, hr⟩ := hvs.get (List.getElem?_eq_getElem ht)
        rw [Array.getD_eq_getD_getElem?, Array.getElem?_append_left (by simp; omega)]
        simp only [List.getElem?_toArray, hu]
        exact hr
      · rw [if_neg ht]
        simp only [undefS, VR]
        rw [Array.getD_eq_getD_getElem?, Array.getElem?_append_right (by simp; omega), Array.getElem?_replicate]
        split <;> rfl
    have hv2 : AllP m2.vc := (closeMarks_fine _ _ _ hcl).mo hvc
    have hwp := (hrec.sound body _ e ⟨f2, m2⟩ (hC f fn body hfn hb) h3 hv2 g w0 F ⟨[], none⟩ _ w hs).1
    refine .inl ⟨⟨fn, hf1, hf2, by rw [hb]; rfl⟩, ?_⟩
    refine callsIn_of_wp_marks hf1 hb trivial ?_
    refine wpIn_mono hwp fun e' a' w' hp => ?_
    obtain ⟨rfl, g', hext, hs'⟩ := hp
    have hl : LeavesInM Fence.wide 0 P fn a'.tmps (fun e w' => ∃ v, e = .returned v ∧ Turns g w0 F m' sv v w') a'.defers .returning w' := by
      have hd := hs'.defers
      simp only [List.append_nil] at hd
      rw [hd]
      refine leaves_marks _ _ _ _ hcl hs'.me fun w1 hm1 => ?_
      obtain ⟨v, hv1, hv2⟩ := res_sound hT (s := ⟨f2, m'⟩) (D := ⟨[], none⟩) ⟨hs'.fr, hm1, hs'.defers, hs'.marks, hs'.rd⟩ hres
      exact ⟨v, hv1, v, rfl, g', hext, hm1, hv2⟩
    rcases he with rfl | rfl
    · exact hl
    · exact hl
  refine ⟨fun t args m sv m' h => ?_, fun t args m sv m' h hvc g w0 F w vs hm hvs => ?_⟩
  · cases t with
    | fn f => exact fn_fine f args m sv m' h
    | yld b => exact (round_sound hrec h).1
  · cases t with
    | yld b => exact (round_sound hrec h).2 hvc g w0 F w vs hm hvs
    | fn f =>
      simp only [callF, callFn] at h
      split at h
      · unfold callTold at h
        split at h
        · simp only [Option.some.injEq, Prod.mk.injEq] at h
          obtain ⟨rfl, rfl⟩ := h
          rw [Me.need_vc] at hvc
          refine (hI.ownC _ _ _ _ _ _ _ hvc.1 g w0 F m w vs hm rfl (fun x hx => blocksAt_mem _ x hx) hvs).mono fun v w' ht => ?_
          obtain ⟨g', he, hm', hv⟩ := ht
          exact ⟨g', he, hm'.same (Me.need_h _ _ _) (Me.need_nx _ _ _), hv⟩
        · cases h
      · split at h
        · rename_i v new hi
          split at h
          · simp only [Option.some.injEq, Prod.mk.injEq] at h
            obtain ⟨rfl, rfl⟩ := h
            exact hI.sound f args m.h m.nx v new hi g w0 F m w vs rfl rfl hm hvs
          · cases h
        · split at h
          · rename_i fn hfn
            unfold enterH at h
            split at h
            · exact enter_sound f fn args m sv m' hfn h hvc g w0 F w vs hm hvs
            · split at h
              · exact enter_sound f fn args _ sv m' hfn h hvc g w0 F w vs (hm.same (Me.setHs_h _ _) (Me.setHs_nx _ _)) hvs
              · unfold unstash at h
                split at h
                · rename_i v1 m1 hx
                  simp only [Option.some.injEq, Prod.mk.injEq] at h
                  obtain ⟨rfl, rfl⟩ := h
                  rw [Me.setHs_vc] at hvc
                  refine (enter_sound f fn args _ _ m1 hfn hx hvc g w0 F w vs (hm.same (Me.setHs_h _ _) (Me.setHs_nx _ _)) hvs).mono fun v w' ht => ?_
                  obtain ⟨g', he, hm', hv⟩ := ht
                  exact ⟨g', he, hm'.same (Me.setHs_h _ _) (Me.setHs_nx _ _), hv⟩
                · cases h
          · cases h

/-! ### a range over a function -/
omit hT in
theorem enterL_fine {f : Fra} {ps : List Tmp} {asg body : Code} {m m1 : Me} {l : Nat} {dm : List Nat} (h : enterL f ps asg body m = some (l, m1, dm)) : Fine m m1 := by
  unfold enterL at h
  split at h
  · simp only [Option.some.injEq, Prod.mk.injEq] at h
    obtain ⟨_, rfl, _⟩ := h
    exact (Fine.new m _).trans (Fine.new _ _)
  · split at h
    · simp only [Option.some.injEq, Prod.mk.injEq] at h
      obtain ⟨_, rfl, _⟩ := h
      exact Fine.new m _
    · cases h
  · cases h
omit hT in
theorem loopEnd_spec {f : Fra} {dm : List Nat} {l : Nat} {x : Option (SV × Me)} {e : Exit} {s' : St} (h : loopEnd f dm l x = some (e, s')) :
    ∃ v m st pe f1 ps asg body d, x = some (v, m) ∧ m.h.get l = some (.lrec st pe f1 ps asg body d) ∧ st ≠ .busy ∧ s' = ⟨⟨f.sl, f.df, f.nt, dm, f.rd⟩, m.del l⟩ ∧
      ((pe = none ∧ e = .normal) ∨ (pe = some .ret ∧ e = .ret) ∨ ∃ id, pe = some (.exit id) ∧ e = .exit id) := by
  unfold loopEnd at h
  split at h
  · rename_i v m
    split at h
    · rename_i st pe f1 ps asg body d hg
      split at h
      · cases h
      · rename_i hst
        split at h
        split at h
        · simp only [Option.some.injEq, Prod.mk.injEq] at h
          exact ⟨v, m, st, _, f1, ps, asg, body, d, rfl, hg, hst, h.2.symm, .inl ⟨rfl, h.1.symm⟩⟩
        · simp only [Option.some.injEq, Prod.mk.injEq] at h
          exact ⟨v, m, st, _, f1, ps, asg, body, d, rfl, hg, hst, h.2.symm, .inr (.inl ⟨rfl, h.1.symm⟩)⟩
        · rename_i id
          simp only [Option.some.injEq, Prod.mk.injEq] at h
          exact ⟨v, m, st, _, f1, ps, asg, body, d, rfl, hg, hst, h.2.symm, .inr (.inr ⟨id, rfl, h.1.symm⟩)⟩
        · cases h
    · cases h
  · cases h
omit hT in
theorem rangeS_fine {T : Tab} {cf : CallF} (hcf : FineCall cf) {x : Operand} {ps : List Tmp} {asg body : Code} {s : St} {e : Exit} {s' : St} (h : rangeS T cf x ps asg body s = some (e, s')) : Fine s.m s'.m := by
  unfold rangeS at h
  split at h
  split at h
  · rename_i l m1 dm hen
    split at h
    · split at h
      · split at h
        · obtain ⟨v, m, st, pe, f1, ps', asg', body', d, h1, h2, _, rfl, _⟩ := loopEnd_spec h
          exact ((enterL_fine hen).trans (hcf _ _ _ _ _ h1)).trans (Fine.del _ _)
        · cases h
      · cases h
    · cases h
  · cases h

omit hT in
/-- a loop's record -/
theorem newRec_sound {g : Gh} {w0 : World} {F : Nat → Prop} {m : Me} {w : World} (hm : MRel g w0 F m w) {f : Fra} {ps : List Tmp} {asg body : Code} {d : Nat} {L : Loop} (h1 : L.state = .ready) (h2 : L.pending = none) (h3 : RR g L f)
    (h4 : L.params.toList = ps) (h5 : L.assign = asg) (h6 : L.body = body) (h7 : g.has d) (h8 : L.defers = g.σ d) (k1 : codeOk asg = true) (k2 : codeOk body = true) :
    ∃ g', Ext g g' ∧ MRel g' w0 F (m.new (.lrec .ready none f ps asg body d)) (w.alloc (.loop L)) ∧ g'.σ m.nx = w.heap.size ∧ g'.has m.nx := by
  have hext := g.new_ext (by rw [hm.n]; exact hm.even) w.heap.size 0
  refine ⟨_, hext, hm.newAny none none (near_alloc w _) w.heap.size 0 false (by simp) (.lrec .ready none f ps asg body d) (fun _ => .inl (Nat.le_refl _)) ?_, by rw [← hm.n]; exact upd_eq _ _ _, by rw [← hm.n]; simp [Gh.new, Gh.has]⟩
  refine ⟨L, ?_, h1, h2, h3.ext hext, h4, h5, h6, hext.has h7, by rw [hext.σ d h7]; exact h8, k1, k2⟩
  rw [show (g.new w.heap.size 0).σ g.n = w.heap.size from upd_eq _ _ _]
  exact heap_alloc_new w _

omit hT in
theorem run_enterLoop_inner {w : World} {l : Nat} {r : Loop} (h : w.heap[l]? = some (.loop r)) (fn : FuncId) (tmps : Array Value) (ps : Array Tmp) (assign body : Code) :
    (Instr.enterLoop fn tmps ps assign body (some l)).run P w =
      .ok (w.heap.size, []) (w.alloc (.loop { state := .ready, pending := none, fn, tmps, params := ps, assign, body, defers := r.defers })) := by
  unfold Instr.enterLoop
  simp only [Sem.run_bind, run_getLoop h, run_newObj_alloc, Result.andThen, Sem.run_pure]

omit hT in
/-- the record is laid, whatever function the frame is of -/
theorem enterL_sound {f : Fra} {ps : Array Tmp} {asg body : Code} {m m1 : Me} {l : Nat} {dm : List Nat} (h : enterL f ps.toList asg body m = some (l, m1, dm)) (k1 : codeOk asg = true) (k2 : codeOk body = true)
    {g : Gh} {w0 : World} {F : Nat → Prop} {D : Ctx} {a : Act} {w : World} (hs : SRel g w0 F D ⟨f, m⟩ a w) (fn : FuncId) :
    ∃ g1 rl mk w1, Ext g g1 ∧ (Instr.enterLoop fn a.tmps ps asg body D.ro).run P w = .ok (rl, mk) w1 ∧ MRel g1 w0 F m1 w1 ∧ g1.has l ∧ g1.σ l = rl ∧
      mk ++ a.defers = dm.map (mark g1) ++ D.ds ∧ ∀ b ∈ dm, g1.has b := by
  unfold enterL at h
  have hrd := hs.rd
  split at h
  · rename_i hf
    simp only [hf, RdOk] at hrd
    simp only [Option.some.injEq, Prod.mk.injEq] at h
    obtain ⟨rfl, rfl, rfl⟩ := h
    obtain ⟨g1, e1, hm1, hσ1, hh1⟩ := newObj_sound (w0 := w0) (F := F) hs.me (.deferred (some []))
    obtain ⟨g2, e2, hm2, hσ2, hh2⟩ := newRec_sound (asg := asg) (body := body) (ps := ps.toList) (d := m.nx) (f := f) hm1 (L := { state := .ready, pending := none, fn := fn, tmps := a.tmps, params := ps, assign := asg, body := body, defers := w.heap.size })
      rfl rfl ⟨hs.fr.nt, fun t => VR.ext e1 _ _ (hs.fr.slots t)⟩ rfl rfl rfl hh1 hσ1.symm k1 k2
    rw [Me.new_nx] at hσ2 hh2
    refine ⟨g2, _, _, _, e1.trans e2, by rw [hrd]; exact run_enterLoop_outer fn a.tmps ps asg body, hm2, hh2, by rw [hσ2]; simp, ?_, ?_⟩
    · rw [hs.defers]
      simp only [List.map_cons, List.cons_append, List.nil_append, mark]
      rw [e2.σ _ hh1, hσ1]
      congr 1
      congr 1
      exact (marks_ext (e1.trans e2) hs.marks).symm
    · intro b hb
      rcases List.mem_cons.1 hb with rfl | hb
      · exact e2.has hh1
      · exact (e1.trans e2).has (hs.marks b hb)
  · rename_i l0 hf
    simp only [hf, RdOk] at hrd
    split at h
    · rename_i d hg
      simp only [Option.some.injEq, Prod.mk.injEq] at h
      obtain ⟨rfl, rfl, rfl⟩ := h
      obtain ⟨hhas, L0, hw0, _, _, _, _, _, _, hd1, hd2, _, _⟩ := hs.me.heap l0 _ hg
      obtain ⟨g2, e2, hm2, hσ2, hh2⟩ := newRec_sound (asg := asg) (body := body) (ps := ps.toList) (d := d) (f := f) hs.me (L := { state := .ready, pending := none, fn := fn, tmps := a.tmps, params := ps, assign := asg, body := body, defers := L0.defers })
        rfl rfl ⟨hs.fr.nt, fun t => hs.fr.slots t⟩ rfl rfl rfl hd1 hd2 k1 k2
      refine ⟨g2, _, _, _, e2, by rw [hrd.2]; exact run_enterLoop_inner hw0 fn a.tmps ps asg body, hm2, hh2, hσ2, ?_, fun b hb => e2.has (hs.marks b hb)⟩
      rw [hs.defers, List.nil_append, marks_ext e2 hs.marks]
    · cases h
  · cases h

theorem range_sound {cf : CallF} (hcf : SoundCall P cf) {x : Operand} {ps : Array Tmp} {asg body : Code} {s : St} {e : Exit} {s' : St} (h : rangeS T cf x ps.toList asg body s = some (e, s')) (k1 : codeOk asg = true) (k2 : codeOk body = true)
    (hvc : AllP s'.m.vc) {g : Gh} {w0 : World} {F : Nat → Prop} {D : Ctx} {a : Act} {w : World} (hs : SRel g w0 F D s a w) : (Code.rangeFunc x ps asg body).wpIn (FW D.ro) 0 P (Post g w0 F D e s') a w := by
  unfold rangeS at h
  split at h
  rename_i f m
  split at h
  · rename_i l m1 dm hen
    split at h
    · rename_i t args hcal
      split at h
      · rename_i g0
        split at h
        · rename_i hbody
          obtain ⟨v3, m3, st, pe, f1, ps', asg', body', d, hcall, hg3, hst, rfl, hpe⟩ := loopEnd_spec h
          rw [Me.del_vc] at hvc
          have hx := evO_sound hs.fr hs.me.glob x
          refine wpIn_rangeFunc fun fn _ => ?_
          obtain ⟨g1, rl, mk, w1, he1, hrun, hm1, hhl, hσl, hmk, hmh⟩ := enterL_sound (P := P) hen k1 k2 hs fn
          have hyl : VRs g1 [.yld l] [.func (.yield rl) #[] #[]] := by
            simp only [VRs, VR]
            exact ⟨_, _, rfl, ⟨hhl, by rw [hσl]⟩, rfl⟩
          rcases callee_spec hcal (VR.ext he1 _ _ hx) hyl with ⟨g0', first, caps, hte, hval, hargs⟩ | ⟨b, hte, _⟩
          · cases hte
            have hl := hcf.sound _ _ _ _ _ hcall hvc g1 w0 F w1 _ hm1 hargs
            have hcallable : Callable P g0 := by
              unfold hasBody at hbody
              split at hbody
              · rename_i fn' hfn
                split at hbody
                · rename_i c hc
                  obtain ⟨h1, h2⟩ := hT.fn g0 fn' hfn
                  exact ⟨fn', h1, h2, by rw [hc]; rfl⟩
                · cases hbody
              · cases hbody
            refine ⟨rl, mk, w1, { target := .fn (.func g0) caps, args := first ++ #[.func (.yield rl) #[] #[]] }, w1, g0, first ++ #[.func (.yield rl) #[] #[]] ++ caps, w1, hrun, ?_, fun f' _ => trivial, ?_, fun h => by simp [Fence.wide] at h, ?_⟩
            · simp only [resolve, hval, Deferred.ofValue, Sem.run_pure]
              simp [Act.eval]
            · simp only [invoke]
              rw [callFunc_run hcallable]
            · rcases hl with ⟨_, hc⟩ | ⟨_, v, w', hbad, _⟩
              · have he : first ++ #[Value.func (.yield rl) #[] #[]] ++ caps = (first.toList ++ [Value.func (.yield rl) #[] #[]] ++ caps.toList).toArray := by
                  rw [← Array.toList_inj]; simp
                rw [he]
                refine callsIn_FW (CallsIn.mono hc fun e3 w3 ht => ?_)
                obtain ⟨v, rfl, g3, he3, hm3, _⟩ := ht
                obtain ⟨hhas3, L3, hw3, hst3, hpe3, hrr3, _⟩ := hm3.heap l _ hg3
                rw [he3.σ l hhl, hσl] at hw3
                have hlt := (Array.getElem?_eq_some_iff.1 hw3).1
                have hs' : SRel g3 w0 F D ⟨⟨f.sl, f.df, f.nt, dm, f.rd⟩, m3.del l⟩ { a with defers := mk ++ a.defers } (w3.putObj rl (.loop { L3 with state := .exhausted })) := by
                  refine ⟨⟨hs.fr.nt, fun t => VR.ext (he1.trans he3) _ _ (hs.fr.slots t)⟩, ?_, ?_, fun b hb => he3.has (hmh b hb), hs.rd.ext (he1.trans he3)⟩
                  · refine hm3.delRow hg3 trivial ?_
                    rw [he3.σ l hhl, hσl]
                    exact near_putObj _ _ _
                  · show mk ++ a.defers = _
                    rw [hmk]
                    congr 1
                    exact (marks_ext he3 hmh).symm
                refine ⟨L3.pending, _, run_endLoop hw3 (by rw [hst3]; exact hst), ?_⟩
                rw [hpe3] at hs' ⊢
                rcases hpe with ⟨rfl, rfl⟩ | ⟨rfl, rfl⟩ | ⟨id, rfl, rfl⟩
                · exact Post.mk (he1.trans he3) hs'
                · exact wpIn_ret (Post.mk (he1.trans he3) hs')
                · exact wpIn_exit (Post.mk (he1.trans he3) hs')
              · rw [callFunc_run hcallable] at hbad
                simp at hbad
          · cases hte
        · cases h
      · cases h
    · cases h
  · cases h

theorem step_sound {I : Intr} (hI : IntrOk P I) (hC : CodesOk T) {rec : Rec} (hrec : RecOk P rec) : RecOk P (evStep P T I rec) := by
  have hcf := call_sound hT hI hC hrec
  refine ⟨fun c s e s' h => ?_, fun c s e s' hok h hvc => ?_⟩
  · cases c <;> simp only [evStep] at h
    case region r ops d =>
      unfold regionS at h
      split at h
      · rename_i s1 h1
        simp only [Option.some.injEq, Prod.mk.injEq] at h
        obtain ⟨rfl, rfl⟩ := h
        unfold evRegion at h1
        split at h1
        · exact evOps_fine hcf.fine _ _ _ _ h1
        · exact evOpsD_fine hcf.fine h1
      · cases h
    case seq x y =>
      unfold seqS at h
      split at h
      · rename_i e1 s1 h1
        split at h
        · exact (hrec.fine _ _ _ _ h1).trans (hrec.fine _ _ _ _ h)
        · simp only [Option.some.injEq, Prod.mk.injEq] at h
          rw [← h.2]; exact hrec.fine _ _ _ _ h1
      · cases h
    case loop x =>
      unfold loopS at h
      split at h
      · unfold loopTold at h
        split at h
        split at h
        · rename_i hle
          simp only [Option.some.injEq, Prod.mk.injEq] at h
          rw [← h.2]
          rw [Bool.and_eq_true] at hle
          exact ((upsM_fine _ _ hle.2).setNx (by simpa using hle.1)).trans (Fine.need _ _ _)
        · cases h
      · unfold seqS at h
        split at h
        · rename_i e1 s1 h1
          split at h
          · exact (hrec.fine _ _ _ _ h1).trans (hrec.fine _ _ _ _ h)
          · simp only [Option.some.injEq, Prod.mk.injEq] at h
            rw [← h.2]; exact hrec.fine _ _ _ _ h1
        · cases h
    case cond x y z =>
      unfold condS at h
      split at h
      · split at h
        · exact hrec.fine _ _ _ _ h
        · exact hrec.fine _ _ _ _ h
      · cases h
    case block id x =>
      unfold blockS at h
      split at h
      · rename_i e1 s1 h1
        have := hrec.fine _ _ _ _ h1
        split at h
        · split at h <;> (simp only [Option.some.injEq, Prod.mk.injEq] at h; rw [← h.2]; exact this)
        · simp only [Option.some.injEq, Prod.mk.injEq] at h
          rw [← h.2]; exact this
      · cases h
    case scope x =>
      unfold scopeS at h
      split at h
      · rename_i e1 s1 h1
        have := hrec.fine _ _ _ _ h1
        split at h
        · cases h
        · simp only [Option.some.injEq, Prod.mk.injEq] at h
          rw [← h.2]; exact this
      · cases h
    case rangeFunc x ps asg body => exact rangeS_fine hcf.fine h
    all_goals first
      | (simp only [Option.some.injEq, Prod.mk.injEq] at h; rw [← h.2]; exact Fine.refl _)
      | (cases h)
  · intro g w0 F D a w hs
    have thenLB : ∀ (x : Code) (e1 : Exit) (s1 : St), rec x s = some (e1, s1) → codeOk x = true → AllP s1.m.vc → x.wpIn (FW D.ro) 0 P (Post g w0 F D e1 s1) a w :=
      fun x e1 s1 h1 hx hv => (hrec.sound x s e1 s1 hx h1 hv g w0 F D a w hs).1
    cases c <;> simp only [evStep] at h
    case skip =>
      simp only [Option.some.injEq, Prod.mk.injEq] at h
      obtain ⟨rfl, rfl⟩ := h
      exact ⟨wpIn_skip (Post.mk (Ext.refl g) hs), fun c' hc => by cases hc⟩
    case label l =>
      simp only [Option.some.injEq, Prod.mk.injEq] at h
      obtain ⟨rfl, rfl⟩ := h
      exact ⟨wpIn_label (Post.mk (Ext.refl g) hs), fun c' hc => by cases hc⟩
    case exit id =>
      simp only [Option.some.injEq, Prod.mk.injEq] at h
      obtain ⟨rfl, rfl⟩ := h
      exact ⟨wpIn_exit (Post.mk (Ext.refl g) hs), fun c' hc => by cases hc⟩
    case ret =>
      simp only [Option.some.injEq, Prod.mk.injEq] at h
      obtain ⟨rfl, rfl⟩ := h
      exact ⟨wpIn_ret (Post.mk (Ext.refl g) hs), fun c' hc => by cases hc⟩
    case region r ops d =>
      refine ⟨?_, fun c' hc => by cases hc⟩
      unfold regionS at h
      split at h
      · rename_i s1 h1
        simp only [Option.some.injEq, Prod.mk.injEq] at h
        obtain ⟨rfl, rfl⟩ := h
        unfold evRegion at h1
        split at h1
        · exact region_sound hT hcf h1 hvc hs fun g' a' w' he h' => Post.mk he h'
        · exact draw_sound hT hcf hok h1 hvc hs fun g' a' w' he h' => Post.mk he h'
      · cases h
    case rangeFunc x ps asg body =>
      simp only [codeOk, Bool.and_eq_true] at hok
      exact ⟨range_sound hT hcf h hok.1 hok.2 hvc hs, fun c' hc => by cases hc⟩
    case seq x y =>
      refine ⟨?_, fun c' hc => by cases hc⟩
      simp only [codeOk, Bool.and_eq_true] at hok
      unfold seqS at h
      split at h
      · rename_i e1 s1 h1
        split at h
        · have hv1 := (hrec.fine _ _ _ _ h).mo hvc
          refine wpIn_seq (wpIn_mono (thenLB x _ _ h1 hok.1 hv1) fun e' a' w' hp => ?_)
          obtain ⟨rfl, g', he, hs'⟩ := hp
          refine wpIn_mono (hrec.sound y _ _ _ hok.2 h hvc g' w0 F D a' w' hs').1 fun e'' a'' w'' hp => ?_
          obtain ⟨rfl, g'', he', hs''⟩ := hp
          exact Post.mk (he.trans he') hs''
        · rename_i hne
          simp only [Option.some.injEq, Prod.mk.injEq] at h
          obtain ⟨rfl, rfl⟩ := h
          refine wpIn_seq (wpIn_mono (thenLB x _ _ h1 hok.1 hvc) fun e' a' w' hp => ?_)
          obtain ⟨rfl, hp⟩ := hp
          cases e' <;> first | exact ⟨rfl, hp⟩ | exact absurd rfl hne
      · cases h
    case loop x =>
      unfold loopS at h
      split at h
      · unfold loopTold at h
        obtain ⟨f, m⟩ := s
        simp only at h
        split at h
        · simp only [Option.some.injEq, Prod.mk.injEq] at h
          obtain ⟨rfl, rfl⟩ := h
          rw [Me.need_vc] at hvc
          have ht := hI.own _ _ _ _ _ _ _ _ _ _ hok hvc.1 f m rfl rfl rfl (fun x hx => slotsAt_mem _ x hx) (fun x hx => blocksAt_mem _ x hx) g w0 F D a w hs
          refine ⟨wpIn_mono ht.1 fun e' a' w' hp => ?_, fun c' hc b k cs k1 k2 k3 => ?_⟩
          · obtain ⟨rfl, g', he, hs'⟩ := hp
            exact Post.mk he (hs'.same rfl (Me.need_h _ _ _) (Me.need_nx _ _ _))
          · obtain ⟨e2, a2, w2, hq, harr⟩ := ht.2 c' hc b k cs k1 k2 k3
            obtain ⟨rfl, g', he, hs'⟩ := hq
            exact ⟨_, a2, w2, Post.mk he (hs'.same rfl (Me.need_h _ _ _) (Me.need_nx _ _ _)), harr⟩
        · cases h
      have hlb : LB (FW D.ro) 0 P x (Post g w0 F D e s') a w := by
        unfold seqS at h
        split at h
        · rename_i e1 s1 h1
          split at h
          · have hv1 := (hrec.fine _ _ _ _ h).mo hvc
            refine LB.of_body (wpIn_mono (thenLB x _ _ h1 hok hv1) fun e' a' w' hp => ?_)
            obtain ⟨rfl, g', he, hs'⟩ := hp
            have h2 := (hrec.sound (.loop x) _ _ _ hok h hvc g' w0 F D a' w' hs').2 x rfl
            intro b k cs k1 k2 k3
            obtain ⟨e2, a2, w2, hq, harr⟩ := h2 b k cs k1 k2 k3
            obtain ⟨rfl, g'', he', hs''⟩ := hq
            exact ⟨_, a2, w2, Post.mk (he.trans he') hs'', harr⟩
          · rename_i hne
            simp only [Option.some.injEq, Prod.mk.injEq] at h
            obtain ⟨rfl, rfl⟩ := h
            refine LB.of_body (wpIn_mono (thenLB x _ _ h1 hok hvc) fun e' a' w' hp => ?_)
            obtain ⟨rfl, hp⟩ := hp
            cases e' <;> first | exact ⟨rfl, hp⟩ | exact absurd rfl hne
        · cases h
      exact ⟨hlb.loop, fun c' hc => by cases hc; exact hlb⟩
    case cond x y z =>
      refine ⟨?_, fun c' hc => by cases hc⟩
      simp only [codeOk, Bool.and_eq_true] at hok
      have hx := evO_sound hs.fr hs.me.glob x
      unfold condS at h
      split at h
      · rename_i b hb
        rw [hb] at hx
        simp only [VR] at hx
        split at h
        · exact wpIn_cond_true hx (thenLB y _ _ h hok.1 hvc)
        · exact wpIn_cond_false hx (thenLB z _ _ h hok.2 hvc)
      · cases h
    case block id x =>
      refine ⟨?_, fun c' hc => by cases hc⟩
      unfold blockS at h
      split at h
      · rename_i e1 s1 h1
        split at h
        · rename_i id'
          split at h
          · rename_i hid
            rw [nbeq] at hid
            have hid' : id' = id := by simpa using hid
            simp only [Option.some.injEq, Prod.mk.injEq] at h
            obtain ⟨rfl, rfl⟩ := h
            refine wpIn_block (wpIn_mono (thenLB x _ _ h1 hok hvc) fun e' a' w' hp => ?_)
            obtain ⟨rfl, hp⟩ := hp
            simp only [Exit.inBlock, hid', if_true]
            exact ⟨rfl, hp⟩
          · rename_i hid
            rw [nbeq] at hid
            have hid' : ¬ id' = id := by simpa using hid
            simp only [Option.some.injEq, Prod.mk.injEq] at h
            obtain ⟨rfl, rfl⟩ := h
            refine wpIn_block (wpIn_mono (thenLB x _ _ h1 hok hvc) fun e' a' w' hp => ?_)
            obtain ⟨rfl, hp⟩ := hp
            simp only [Exit.inBlock, if_neg hid']
            exact ⟨rfl, hp⟩
        · rename_i hne
          simp only [Option.some.injEq, Prod.mk.injEq] at h
          obtain ⟨rfl, rfl⟩ := h
          refine wpIn_block (wpIn_mono (thenLB x _ _ h1 hok hvc) fun e' a' w' hp => ?_)
          obtain ⟨rfl, hp⟩ := hp
          cases e' <;> first | exact ⟨rfl, hp⟩ | exact absurd rfl (hne _)
      · cases h
    case scope x =>
      refine ⟨?_, fun c' hc => by cases hc⟩
      unfold scopeS at h
      split at h
      · rename_i e1 s1 h1
        split at h
        · cases h
        · rename_i hne
          simp only [Option.some.injEq, Prod.mk.injEq] at h
          obtain ⟨rfl, rfl⟩ := h
          refine wpIn_scope (wpIn_mono (thenLB x _ _ h1 hok hvc) fun e' a' w' hp => ?_)
          obtain ⟨rfl, hp⟩ := hp
          cases e' <;> first | exact ⟨rfl, hp⟩ | exact absurd rfl (hne _)
      · cases h
    all_goals cases h

theorem ev_sound {I : Intr} (hI : IntrOk P I) (hC : CodesOk T) : ∀ n, RecOk P (ev P T I n)
  | 0 => ⟨fun c s e s' h => by simp [ev] at h, fun c s e s' _ h => by simp [ev] at h⟩
  | n + 1 => step_sound hT hI hC (ev_sound hI hC n)

theorem callS_sound {I : Intr} (hI : IntrOk P I) (hC : CodesOk T) (n : Nat) : SoundCall P (callF T I (ev P T I n)) := call_sound hT hI hC (ev_sound hT hI hC n)
end

end
end Go.Sx
