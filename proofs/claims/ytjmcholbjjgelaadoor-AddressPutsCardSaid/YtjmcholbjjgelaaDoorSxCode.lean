/- The abstract evaluator: code, and calls. -/
import Derived.Test.YtjmcholbjjgelaaDoorSxDraw3
import Derived.Scope
namespace Go.Sx
set_option linter.unusedVariables false
open Go.RowKit

/-! ### rules that the kit lacks -/
section
variable {F : Fence} {n : Nat} {P : Program} {Q : Exit → Act → World → Prop} {a : Act} {w : World}
theorem stepR_scope {b : Frame} {c : Code} {k : List Item} {cs : List Frame} : step P (lone (b.atR a (.code (.scope c) :: k)) cs w) = .next (lone (b.atR a (.code c :: .inScope c :: k)) cs w) :=
  step_lone_go (by simp [stepG, stepG.exec, Frame.atR])
theorem stepR_inScope {b : Frame} {c : Code} {k : List Item} {cs : List Frame} : step P (lone (b.atR a (.inScope c :: k)) cs w) = .next (lone (b.atR a k) cs w) :=
  step_lone_go (by simp [stepG, stepG.exec, Frame.atR])

theorem wpIn_scope {c : Code} (h : c.wpIn F n P (Exit.noGoto Q) a w) : (Code.scope c).wpIn F n P Q a w := by
  intro b k cs hro hb hr
  have h0 : (lone (b.atR a (.code (.scope c) :: k)) cs w).fenced P F := fenced_calm hb hr rfl
  obtain ⟨e, a₁, w₁, hq, harr⟩ := h b (.inScope c :: k) cs hro hb hr
  cases e with
  | normal => exact ⟨.normal, a₁, w₁, hq, .head h0 stepR_scope (StepsIn.trans harr (.one (fenced_calm hb hr rfl) stepR_inScope))⟩
  | exit id =>
    have hx : exitTo id (.inScope c :: k) = exitTo id k := by simp [exitTo]
    exact ⟨.exit id, a₁, w₁, hq, fun k' hk => .head h0 stepR_scope (harr.1 k' (by rw [hx]; exact hk)),
      fun hr' hk => let ⟨k₁, h1, h2⟩ := harr.2 hr' (by rw [hx]; exact hk); ⟨k₁, h1, .head h0 stepR_scope h2⟩⟩
  | goto l => exact hq.elim
  | ret => exact ⟨_, a₁, w₁, hq, .of_steps (.one h0 stepR_scope) harr⟩
  | panic ch => exact ⟨_, a₁, w₁, hq, .of_steps (.one h0 stepR_scope) harr⟩
  | outgrown => exact ⟨_, a₁, w₁, hq, .of_steps (.one h0 stepR_scope) harr⟩

/-- a loop that has been entered -/
def LB (F : Fence) (n : Nat) (P : Program) (c : Code) (Q : Exit → Act → World → Prop) (a : Act) (w : World) : Prop :=
  ∀ (b : Frame) (k : List Item) (cs : List Frame), b.roundOf = F.round → F.fn b.fn → F.room (cs.length + 1 + n) →
    ∃ e a' w', Q e a' w' ∧ ArrivesIn (Machine.fenced P F) P (lone (b.atR a (.code c :: .inLoop c :: k)) cs w) b k cs e a' w'
theorem LB.of_body {c : Code} (h : c.wpIn F n P (Exit.then (LB F n P c Q) Q) a w) : LB F n P c Q a w := by
  intro b k cs hro hb hr
  obtain ⟨e, a₁, w₁, hq, harr⟩ := h b (.inLoop c :: k) cs hro hb hr
  cases e with
  | normal =>
    obtain ⟨e₂, a₂, w₂, hq₂, harr₂⟩ := hq b k cs hro hb hr
    exact ⟨e₂, a₂, w₂, hq₂, .of_steps (StepsIn.trans harr (.one (fenced_calm hb hr rfl) stepR_inLoop)) harr₂⟩
  | exit id => exact ⟨_, a₁, w₁, hq, .pass (x := .inLoop c) rfl (fun _ _ => .inl (by simp)) harr⟩
  | goto l => exact ⟨_, a₁, w₁, hq, .pass (x := .inLoop c) rfl (fun _ _ => .inl (by simp)) harr⟩
  | ret => exact ⟨_, a₁, w₁, hq, .pass (x := .inLoop c) rfl (fun _ _ => .inl (by simp)) harr⟩
  | panic ch => exact ⟨_, a₁, w₁, hq, .pass (x := .inLoop c) rfl (fun _ _ => .inl (by simp)) harr⟩
  | outgrown => exact ⟨_, a₁, w₁, hq, .pass (x := .inLoop c) rfl (fun _ _ => .inl (by simp)) harr⟩
theorem LB.loop {c : Code} (h : LB F n P c Q a w) : (Code.loop c).wpIn F n P Q a w := by
  intro b k cs hro hb hr
  obtain ⟨e, a', w', hq, harr⟩ := h b k cs hro hb hr
  exact ⟨e, a', w', hq, .of_steps (.one (fenced_calm hb hr rfl) stepR_loop) harr⟩
end

/-- the drawn regions of a function's code are in order -/
def codeOk : Code → Bool
  | .region _ ops d => match d with | true => drawOk ops | false => true
  | .seq a b => codeOk a && codeOk b
  | .cond _ a b => codeOk a && codeOk b
  | .block _ c => codeOk c
  | .loop c => codeOk c
  | .scope c => codeOk c
  | .rangeFunc _ _ a b => codeOk a && codeOk b
  | _ => true
def CodesOk (T : Tab) : Prop := ∀ f fn c, T.fn.get f = some fn → fn.body = some c → codeOk c = true

theorem SRel.same {g : Gh} {w0 : World} {F : Nat → Prop} {D : List Deferred} {s s' : St} {a : Act} {w : World} (h : SRel g w0 F D s a w) (hf : s'.f = s.f) (hh : s'.m.h = s.m.h) (hn : s'.m.nx = s.m.nx) : SRel g w0 F D s' a w :=
  ⟨by rw [hf]; exact h.fr, h.me.same hh hn, h.defers⟩
/-- how a piece of code is left -/
def Post (g : Gh) (w0 : World) (F : Nat → Prop) (D : List Deferred) (e : Exit) (s' : St) : Exit → Act → World → Prop := fun e' a' w' => e' = e ∧ ∃ g', Ext g g' ∧ SRel g' w0 F D s' a' w'

/-- a piece of code, from an abstract state, is left so -/
def Tri (P : Program) (c : Code) (s : St) (e : Exit) (s' : St) : Prop :=
  ∀ (g : Gh) (w0 : World) (F : Nat → Prop) (D : List Deferred) (ro : Option Nat) (a : Act) (w : World), SRel g w0 F D s a w →
    c.wpIn (FW ro) 0 P (Post g w0 F D e s') a w ∧ ∀ c', c = .loop c' → LB (FW ro) 0 P c' (Post g w0 F D e s') a w
structure RecOk (P : Program) (rec : Rec) : Prop where
  fine : ∀ c s e s', rec c s = some (e, s') → Fine s.m s'.m
  sound : ∀ c s e s', codeOk c = true → rec c s = some (e, s') → AllP s'.m.vc → Tri P c s e s'

structure IntrOk (P : Program) (I : Intr) : Prop where
  own : ∀ c s e s', codeOk c = true → I.own c s e s' → Tri P c s e s'
  sound : ∀ (f : FuncId) (args : List SV) (h : Heap) (nx : Nat) (v : SV) (new : List AObj), I.ans f args h nx = some (v, new) →
    ∀ (g : Gh) (w0 : World) (F : Nat → Prop) (m : Me) (w : World) (vs : List Value), m.h = h → m.nx = nx → MRel g w0 F m w → VRs g args vs →
      Callable P f ∧ CallsIn Fence.wide 0 P f vs.toArray w (fun e w' => ∃ v', e = .returned v' ∧ Turns g w0 F (addAll new m) v v' w')

theorem addAll_fine : ∀ (l : List AObj) (m : Me), Fine m (addAll l m)
  | [], m => Fine.refl _
  | o :: l, m => (Fine.new m o).trans (addAll_fine l _)

/-! ### results -/
theorem run_mapM_list {P : Program} {α : Type} {g : Gh} {w : World} (f : α → Sem Value) (fs : α → Option SV) : ∀ (l : List α) (vs : List SV), (∀ x ∈ l, ∀ sv, fs x = some sv → ∃ v, (f x).run P w = .ok v w ∧ VR g sv v) →
    (∀ (i : Nat) (x : α), l[i]? = some x → fs x = vs[i]?) → vs.length = l.length → ∃ us, (l.mapM f).run P w = .ok us w ∧ VRs g vs us
  | [], vs, h, hv, hl => by
    have : vs = [] := List.eq_nil_of_length_eq_zero (by simpa using hl)
    subst this
    exact ⟨[], by simp, by simp [VRs]⟩
  | x :: l, vs, h, hv, hl => by
    cases vs with
    | nil => simp at hl
    | cons sv vs =>
      have h0 := hv 0 x (by simp)
      obtain ⟨v, h1, h2⟩ := h x (by simp) sv (by simpa using h0)
      obtain ⟨us, h3, h4⟩ := run_mapM_list f fs l vs (fun y hy => h y (by simp [hy])) (fun i y hy => by simpa using hv (i + 1) y (by simpa using hy)) (by simpa using hl)
      refine ⟨v :: us, by simp [List.mapM_cons, h1, h3], ?_⟩
      simp only [VRs]
      exact ⟨v, us, rfl, h2, h4⟩

theorem resAll_spec {T : Tab} {s : St} : ∀ (l : List ResultVar) (vs : List SV), resAll T s l = some vs → vs.length = l.length ∧ ∀ (i : Nat) x, l[i]? = some x → resOne T s x = vs[i]?
  | [], vs, h => by simp only [resAll, Option.some.injEq] at h; subst h; simp
  | x :: l, vs, h => by
    simp only [resAll] at h
    split at h
    · rename_i v hv
      split at h
      · rename_i r hr
        simp only [Option.some.injEq] at h
        subst h
        obtain ⟨h1, h2⟩ := resAll_spec l r hr
        refine ⟨by simp [h1], fun i y hy => ?_⟩
        cases i with
        | zero => simp at hy; subst hy; simpa using hv
        | succ i => simpa using h2 i y (by simpa using hy)
      · cases h
    · cases h

section
variable {P : Program} {T : Tab} (hT : TabOk P T)
include hT

theorem resOne_sound {g : Gh} {w0 : World} {F : Nat → Prop} {D : List Deferred} {s : St} {a : Act} {w : World} (hs : SRel g w0 F D s a w) {x : ResultVar} {sv : SV} (h : resOne T s x = some sv) :
    ∃ v, (match x with | .tmp t => (pure (a.tmps.getD t undef) : Sem Value) | .cell c t => do loadVar t (← asAddr (a.tmps.getD c undef))).run P w = .ok v w ∧ VR g sv v := by
  obtain ⟨f, m⟩ := s
  unfold resOne at h
  cases x with
  | tmp t =>
    simp only [Option.some.injEq] at h
    subst h
    exact ⟨_, by simp, hs.fr.slots t⟩
  | cell c t =>
    simp only at h
    unfold vLoad at h
    split at h
    · rename_i b off hb
      have := hs.fr.slots c
      rw [hb] at this
      simp only [VR] at this
      obtain ⟨v, h1, h2⟩ := load_run hT hs.me.heap h
      refine ⟨v, ?_, h2⟩
      simp only [this.2]
      simp [asAddr, h1]
    · cases h

theorem res_sound {fn : Func} {g : Gh} {w0 : World} {F : Nat → Prop} {D : List Deferred} {s : St} {a : Act} {w : World} (hs : SRel g w0 F D s a w) {sv : SV} (h : resS T fn s = some sv) :
    ∃ v, (results fn a.tmps).run P w = .ok v w ∧ VR g sv v := by
  unfold resS at h
  split at h
  · rename_i l hl
    obtain ⟨h1, h2⟩ := resAll_spec _ _ hl
    obtain ⟨us, h3, h4⟩ := run_mapM_list (P := P) (g := g) (w := w) (fun (x : ResultVar) => match x with | .tmp t => (pure (a.tmps.getD t undef) : Sem Value) | .cell c t => do loadVar t (← asAddr (a.tmps.getD c undef)))
      (resOne T s) fn.results.toList l (fun x _ sv hsv => resOne_sound hT hs hsv) h2 h1
    have hrun : (results fn a.tmps).run P w = .ok (if h : us.toArray.size = 1 then us.toArray[0] else .tuple us.toArray) w := by
      unfold results
      rw [Array.mapM_eq_mapM_toList]
      simp only [Sem.run_bind, Sem.run_map]
      have key : ∀ r : Result (List Value), r = .ok us w → ((r.andThen fun a w' => Result.ok a.toArray w').andThen fun a w' => Sem.run P (pure (if h : a.size = 1 then a[0] else Value.tuple a)) w') =
        .ok (if h : us.toArray.size = 1 then us.toArray[0] else .tuple us.toArray) w := by
        rintro _ rfl
        rfl
      exact key _ h3
    refine ⟨_, hrun, ?_⟩
    split at h
    · rename_i sv'
      simp only [Option.some.injEq] at h
      subst h
      simp only [VRs] at h4
      obtain ⟨v, vs, rfl, hv, rfl⟩ := h4
      simpa using hv
    · rename_i hne
      simp only [Option.some.injEq] at h
      subst h
      have hlen := h4.length
      have : ¬ us.toArray.size = 1 := by
        intro e
        have : l.length = 1 := by simpa [hlen] using e
        obtain ⟨v, hv⟩ := List.length_eq_one_iff.1 this
        exact hne v hv
      rw [dif_neg this]
      exact mkTup_VR (by simpa using h4)
  · cases h

/-! ### calls -/
theorem call_sound {I : Intr} (hI : IntrOk P I) (hC : CodesOk T) {rec : Rec} (hrec : RecOk P rec) : SoundCall P (callF T I rec) := by
  have enter : ∀ (fn : Func) (args : List SV) (m : Me) (sv : SV) (m' : Me), enterS T rec fn args m = some (sv, m') → ∃ body e s', fn.body = some body ∧ args.length ≤ fn.ntmps ∧
      rec body ⟨⟨Tr.ofList args 0 .e, undefS, fn.ntmps⟩, m⟩ = some (e, s') ∧ (e = .normal ∨ e = .ret) ∧ resS T fn s' = some sv ∧ m' = s'.m := by
    intro fn args m sv m' h
    unfold enterS at h
    split at h
    · rename_i body hbody
      split at h
      · rename_i hle
        unfold retS at h
        split at h
        · rename_i e s' hr
          split at h
          · split at h
            · rename_i v hv
              simp only [Option.some.injEq, Prod.mk.injEq] at h
              exact ⟨body, _, s', hbody, by simpa using hle, hr, .inl rfl, by rw [hv, h.1], h.2.symm⟩
            · cases h
          · split at h
            · rename_i v hv
              simp only [Option.some.injEq, Prod.mk.injEq] at h
              exact ⟨body, _, s', hbody, by simpa using hle, hr, .inr rfl, by rw [hv, h.1], h.2.symm⟩
            · cases h
          · cases h
        · cases h
      · cases h
    · cases h
  refine ⟨fun f args m sv m' h => ?_, fun f args m sv m' h hvc g w0 F w vs hm hvs => ?_⟩
  · unfold callF at h
    split at h
    · simp only [Option.some.injEq, Prod.mk.injEq] at h
      rw [← h.2]
      exact addAll_fine _ _
    · split at h
      · obtain ⟨body, e, s', _, _, h3, _, _, rfl⟩ := enter _ _ _ _ _ h
        exact hrec.fine _ _ _ _ h3
      · cases h
  · unfold callF at h
    split at h
    · rename_i v new hi
      simp only [Option.some.injEq, Prod.mk.injEq] at h
      obtain ⟨rfl, rfl⟩ := h
      exact hI.sound f args m.h m.nx v new hi g w0 F m w vs rfl rfl hm hvs
    · split at h
      · rename_i fn hfn
        obtain ⟨body, e, s', hb, hle, h3, he, hres, rfl⟩ := enter _ _ _ _ _ h
        obtain ⟨hf1, hf2⟩ := hT.fn f fn hfn
        refine ⟨⟨fn, hf1, hf2, by rw [hb]; rfl⟩, ?_⟩
        have hlen := hvs.length
        have hs : SRel g w0 F [] ⟨⟨Tr.ofList args 0 .e, undefS, fn.ntmps⟩, m⟩ { tmps := vs.toArray ++ Array.replicate (fn.ntmps - vs.toArray.size) undef, defers := [] } w := by
          refine ⟨⟨by simp; omega, fun t => ?_⟩, hm, rfl⟩
          simp only [Fra.get, Tr.get_ofList, Nat.zero_add, Nat.zero_le, true_and, Nat.sub_zero, Tr.get_e]
          by_cases ht : t < args.length
          · rw [if_pos ht, List.getElem?_eq_getElem ht]
            obtain ⟨u, hu, hr⟩ := hvs.get (List.getElem?_eq_getElem ht)
            rw [Array.getD_eq_getD_getElem?, Array.getElem?_append_left (by simp; omega)]
            simp only [List.getElem?_toArray, hu]
            exact hr
          · rw [if_neg ht]
            simp only [undefS, VR]
            rw [Array.getD_eq_getD_getElem?, Array.getElem?_append_right (by simp; omega), Array.getElem?_replicate]
            split <;> rfl
        have hwp := (hrec.sound body _ e s' (hC f fn body hfn hb) h3 hvc g w0 F [] none _ w hs).1
        refine callsIn_of_wp hf1 hb trivial ?_
        refine wpIn_mono hwp fun e' a' w' hp => ?_
        obtain ⟨rfl, g', hext, hs'⟩ := hp
        obtain ⟨v, hv1, hv2⟩ := res_sound hT hs' hres
        rcases he with rfl | rfl
        · exact ⟨hs'.defers, v, hv1, v, rfl, g', hext, hs'.me, hv2⟩
        · exact ⟨hs'.defers, v, hv1, v, rfl, g', hext, hs'.me, hv2⟩
      · cases h

theorem step_sound {I : Intr} (hI : IntrOk P I) (hC : CodesOk T) {rec : Rec} (hrec : RecOk P rec) : RecOk P (evStep P T I rec) := by
  have hcf := call_sound hT hI hC hrec
  refine ⟨fun c s e s' h => ?_, fun c s e s' hok h hvc => ?_⟩
  · cases c <;> simp only [evStep] at h
    case region r ops d =>
      unfold regionS at h
      split at h
      · rename_i s1 h1
        simp only [Option.some.injEq, Prod.mk.injEq] at h
        obtain ⟨rfl, rfl⟩ := h
        unfold evRegion at h1
        split at h1
        · exact evOps_fine hcf.fine _ _ _ _ h1
        · exact evOpsD_fine hcf.fine h1
      · cases h
    case seq x y =>
      unfold seqS at h
      split at h
      · rename_i e1 s1 h1
        split at h
        · exact (hrec.fine _ _ _ _ h1).trans (hrec.fine _ _ _ _ h)
        · simp only [Option.some.injEq, Prod.mk.injEq] at h
          rw [← h.2]; exact hrec.fine _ _ _ _ h1
      · cases h
    case loop x =>
      unfold loopS at h
      split at h
      · unfold loopTold at h
        split at h
        · rename_i hle
          simp only [Option.some.injEq, Prod.mk.injEq] at h
          rw [← h.2]
          exact ⟨fun hv => hv.2, by simpa using hle, Nat.zero_le _, fun b hb => by cases hb⟩
        · cases h
      · unfold seqS at h
        split at h
        · rename_i e1 s1 h1
          split at h
          · exact (hrec.fine _ _ _ _ h1).trans (hrec.fine _ _ _ _ h)
          · simp only [Option.some.injEq, Prod.mk.injEq] at h
            rw [← h.2]; exact hrec.fine _ _ _ _ h1
        · cases h
    case cond x y z =>
      unfold condS at h
      split at h
      · split at h
        · exact hrec.fine _ _ _ _ h
        · exact hrec.fine _ _ _ _ h
      · cases h
    case block id x =>
      unfold blockS at h
      split at h
      · rename_i e1 s1 h1
        have := hrec.fine _ _ _ _ h1
        split at h
        · split at h <;> (simp only [Option.some.injEq, Prod.mk.injEq] at h; rw [← h.2]; exact this)
        · simp only [Option.some.injEq, Prod.mk.injEq] at h
          rw [← h.2]; exact this
      · cases h
    case scope x =>
      unfold scopeS at h
      split at h
      · rename_i e1 s1 h1
        have := hrec.fine _ _ _ _ h1
        split at h
        · cases h
        · simp only [Option.some.injEq, Prod.mk.injEq] at h
          rw [← h.2]; exact this
      · cases h
    all_goals first
      | (simp only [Option.some.injEq, Prod.mk.injEq] at h; rw [← h.2]; exact Fine.refl _)
      | (cases h)
  · intro g w0 F D ro a w hs
    have thenLB : ∀ (x : Code) (e1 : Exit) (s1 : St), rec x s = some (e1, s1) → codeOk x = true → AllP s1.m.vc → x.wpIn (FW ro) 0 P (Post g w0 F D e1 s1) a w :=
      fun x e1 s1 h1 hx hv => (hrec.sound x s e1 s1 hx h1 hv g w0 F D ro a w hs).1
    cases c <;> simp only [evStep] at h
    case skip =>
      simp only [Option.some.injEq, Prod.mk.injEq] at h
      obtain ⟨rfl, rfl⟩ := h
      exact ⟨wpIn_skip ⟨rfl, g, Ext.refl g, hs⟩, fun c' hc => by cases hc⟩
    case label l =>
      simp only [Option.some.injEq, Prod.mk.injEq] at h
      obtain ⟨rfl, rfl⟩ := h
      exact ⟨wpIn_label ⟨rfl, g, Ext.refl g, hs⟩, fun c' hc => by cases hc⟩
    case exit id =>
      simp only [Option.some.injEq, Prod.mk.injEq] at h
      obtain ⟨rfl, rfl⟩ := h
      exact ⟨wpIn_exit ⟨rfl, g, Ext.refl g, hs⟩, fun c' hc => by cases hc⟩
    case ret =>
      simp only [Option.some.injEq, Prod.mk.injEq] at h
      obtain ⟨rfl, rfl⟩ := h
      exact ⟨wpIn_ret ⟨rfl, g, Ext.refl g, hs⟩, fun c' hc => by cases hc⟩
    case region r ops d =>
      refine ⟨?_, fun c' hc => by cases hc⟩
      unfold regionS at h
      split at h
      · rename_i s1 h1
        simp only [Option.some.injEq, Prod.mk.injEq] at h
        obtain ⟨rfl, rfl⟩ := h
        unfold evRegion at h1
        split at h1
        · exact region_sound hT hcf h1 hvc hs fun g' a' w' he h' => ⟨rfl, g', he, h'⟩
        · exact draw_sound hT hcf hok h1 hvc hs fun g' a' w' he h' => ⟨rfl, g', he, h'⟩
      · cases h
    case seq x y =>
      refine ⟨?_, fun c' hc => by cases hc⟩
      simp only [codeOk, Bool.and_eq_true] at hok
      unfold seqS at h
      split at h
      · rename_i e1 s1 h1
        split at h
        · have hv1 := (hrec.fine _ _ _ _ h).mo hvc
          refine wpIn_seq (wpIn_mono (thenLB x _ _ h1 hok.1 hv1) fun e' a' w' hp => ?_)
          obtain ⟨rfl, g', he, hs'⟩ := hp
          refine wpIn_mono (hrec.sound y _ _ _ hok.2 h hvc g' w0 F D ro a' w' hs').1 fun e'' a'' w'' hp => ?_
          obtain ⟨rfl, g'', he', hs''⟩ := hp
          exact ⟨rfl, g'', he.trans he', hs''⟩
        · rename_i hne
          simp only [Option.some.injEq, Prod.mk.injEq] at h
          obtain ⟨rfl, rfl⟩ := h
          refine wpIn_seq (wpIn_mono (thenLB x _ _ h1 hok.1 hvc) fun e' a' w' hp => ?_)
          obtain ⟨rfl, hp⟩ := hp
          cases e' <;> first | exact ⟨rfl, hp⟩ | exact absurd rfl hne
      · cases h
    case loop x =>
      unfold loopS at h
      split at h
      · unfold loopTold at h
        split at h
        · simp only [Option.some.injEq, Prod.mk.injEq] at h
          obtain ⟨rfl, rfl⟩ := h
          have ht := hI.own _ _ _ _ hok hvc.1 g w0 F D ro a w hs
          refine ⟨wpIn_mono ht.1 fun e' a' w' hp => ?_, fun c' hc b k cs k1 k2 k3 => ?_⟩
          · obtain ⟨rfl, g', he, hs'⟩ := hp
            exact ⟨rfl, g', he, hs'.same rfl rfl rfl⟩
          · obtain ⟨e2, a2, w2, hq, harr⟩ := ht.2 c' hc b k cs k1 k2 k3
            obtain ⟨rfl, g', he, hs'⟩ := hq
            exact ⟨_, a2, w2, ⟨rfl, g', he, hs'.same rfl rfl rfl⟩, harr⟩
        · cases h
      have hlb : LB (FW ro) 0 P x (Post g w0 F D e s') a w := by
        unfold seqS at h
        split at h
        · rename_i e1 s1 h1
          split at h
          · have hv1 := (hrec.fine _ _ _ _ h).mo hvc
            refine LB.of_body (wpIn_mono (thenLB x _ _ h1 hok hv1) fun e' a' w' hp => ?_)
            obtain ⟨rfl, g', he, hs'⟩ := hp
            have h2 := (hrec.sound (.loop x) _ _ _ hok h hvc g' w0 F D ro a' w' hs').2 x rfl
            intro b k cs k1 k2 k3
            obtain ⟨e2, a2, w2, hq, harr⟩ := h2 b k cs k1 k2 k3
            obtain ⟨rfl, g'', he', hs''⟩ := hq
            exact ⟨_, a2, w2, ⟨rfl, g'', he.trans he', hs''⟩, harr⟩
          · rename_i hne
            simp only [Option.some.injEq, Prod.mk.injEq] at h
            obtain ⟨rfl, rfl⟩ := h
            refine LB.of_body (wpIn_mono (thenLB x _ _ h1 hok hvc) fun e' a' w' hp => ?_)
            obtain ⟨rfl, hp⟩ := hp
            cases e' <;> first | exact ⟨rfl, hp⟩ | exact absurd rfl hne
        · cases h
      exact ⟨hlb.loop, fun c' hc => by cases hc; exact hlb⟩
    case cond x y z =>
      refine ⟨?_, fun c' hc => by cases hc⟩
      simp only [codeOk, Bool.and_eq_true] at hok
      have hx := evO_sound hs.fr hs.me.glob x
      unfold condS at h
      split at h
      · rename_i b hb
        rw [hb] at hx
        simp only [VR] at hx
        split at h
        · exact wpIn_cond_true hx (thenLB y _ _ h hok.1 hvc)
        · exact wpIn_cond_false hx (thenLB z _ _ h hok.2 hvc)
      · cases h
    case block id x =>
      refine ⟨?_, fun c' hc => by cases hc⟩
      unfold blockS at h
      split at h
      · rename_i e1 s1 h1
        split at h
        · rename_i id'
          split at h
          · rename_i hid
            rw [nbeq] at hid
            have hid' : id' = id := by simpa using hid
            simp only [Option.some.injEq, Prod.mk.injEq] at h
            obtain ⟨rfl, rfl⟩ := h
            refine wpIn_block (wpIn_mono (thenLB x _ _ h1 hok hvc) fun e' a' w' hp => ?_)
            obtain ⟨rfl, hp⟩ := hp
            simp only [Exit.inBlock, hid', if_true]
            exact ⟨rfl, hp⟩
          · rename_i hid
            rw [nbeq] at hid
            have hid' : ¬ id' = id := by simpa using hid
            simp only [Option.some.injEq, Prod.mk.injEq] at h
            obtain ⟨rfl, rfl⟩ := h
            refine wpIn_block (wpIn_mono (thenLB x _ _ h1 hok hvc) fun e' a' w' hp => ?_)
            obtain ⟨rfl, hp⟩ := hp
            simp only [Exit.inBlock, if_neg hid']
            exact ⟨rfl, hp⟩
        · rename_i hne
          simp only [Option.some.injEq, Prod.mk.injEq] at h
          obtain ⟨rfl, rfl⟩ := h
          refine wpIn_block (wpIn_mono (thenLB x _ _ h1 hok hvc) fun e' a' w' hp => ?_)
          obtain ⟨rfl, hp⟩ := hp
          cases e' <;> first | exact ⟨rfl, hp⟩ | exact absurd rfl (hne _)
      · cases h
    case scope x =>
      refine ⟨?_, fun c' hc => by cases hc⟩
      unfold scopeS at h
      split at h
      · rename_i e1 s1 h1
        split at h
        · cases h
        · rename_i hne
          simp only [Option.some.injEq, Prod.mk.injEq] at h
          obtain ⟨rfl, rfl⟩ := h
          refine wpIn_scope (wpIn_mono (thenLB x _ _ h1 hok hvc) fun e' a' w' hp => ?_)
          obtain ⟨rfl, hp⟩ := hp
          cases e' <;> first | exact ⟨rfl, hp⟩ | exact absurd rfl (hne _)
      · cases h
    all_goals cases h

theorem ev_sound {I : Intr} (hI : IntrOk P I) (hC : CodesOk T) : ∀ n, RecOk P (ev P T I n)
  | 0 => ⟨fun c s e s' h => by simp [ev] at h, fun c s e s' _ h => by simp [ev] at h⟩
  | n + 1 => step_sound hT hI hC (ev_sound hI hC n)

theorem callS_sound {I : Intr} (hI : IntrOk P I) (hC : CodesOk T) (n : Nat) : SoundCall P (callS P T I n) := call_sound hT hI hC (ev_sound hT hI hC n)
end

end Go.Sx
