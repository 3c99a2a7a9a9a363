/- The abstract evaluator: one operation, at the calculus of the machine. -/
import Derived.Test.YtjmcholbjjgelaaDoorSxFine
namespace Go.Sx
noncomputable section
set_option linter.unusedVariables false
open Go.RowKit

abbrev FW (ro : Option Nat) : Fence := { Fence.wide with round := ro }
theorem FW_fn (ro : Option Nat) (f : FuncId) : (FW ro).fn f := trivial
theorem callsIn_FW {ro : Option Nat} {n : Nat} {P : Program} {f : FuncId} {args : Array Value} {w : World} {R : Ending → World → Prop} (h : CallsIn Fence.wide n P f args w R) : CallsIn (FW ro) n P f args w R := h

/-- what an operation looks at -/
structure LRel (g : Gh) (f : Fra) (a : Act) (ops : Array Oper) (o : Oper) : Prop where
  nt : f.nt ≤ a.tmps.size
  slots : ∀ t, t ∈ o.looksAt ops → VR g (f.get t) (a.tmps.getD t undef)
theorem FRel.look {g : Gh} {f : Fra} {a : Act} (h : FRel g f a) (ops : Array Oper) (o : Oper) : LRel g f a ops o := ⟨h.nt, fun t _ => h.slots t⟩
theorem LRel.operand {g : Gh} {f : Fra} {a : Act} {ops : Array Oper} {o : Oper} (h : LRel g f a ops o) (hg : Globs g) : ∀ x ∈ o.op.operands, VR g (evO f x) (a.eval x) := fun x hx =>
  evO_at hg x fun t ht => h.slots t (by
    subst ht
    exact List.mem_append_left _ (List.mem_filterMap.2 ⟨.tmp t, by simpa using hx, rfl⟩))

def Callable (P : Program) (f : FuncId) : Prop := ∃ fn, P.funcs[f]? = some fn ∧ fn.name ≠ "runtime.NumGoroutine" ∧ fn.body.isNone = false
/-- a function's call comes to an answer (or its entry in the model's tables gives it at once) -/
def LandsF (P : Program) (f : FuncId) (vs : List Value) (w : World) (R : Value → World → Prop) : Prop :=
  (Callable P f ∧ CallsIn Fence.wide 0 P f vs.toArray w (fun e w' => ∃ v, e = .returned v ∧ R v w')) ∨
  ((P.funcs[f]?).isSome = true ∧ ∃ v w', (callFunc f vs.toArray).run P w = .ok (.value v) w' ∧ R v w')
theorem LandsF.mono {P : Program} {f : FuncId} {vs : List Value} {w : World} {R R' : Value → World → Prop} (h : LandsF P f vs w R) (hr : ∀ v w', R v w' → R' v w') : LandsF P f vs w R' := by
  rcases h with ⟨h1, h2⟩ | ⟨h0, v, w', h1, h2⟩
  · exact .inl ⟨h1, CallsIn.mono h2 fun e w' ⟨v, he, h⟩ => ⟨v, he, hr v w' h⟩⟩
  · exact .inr ⟨h0, v, w', h1, hr v w' h2⟩
/-- a call comes to an answer -/
def Lands (P : Program) (g : Gh) (t : Tgt) (vs : List Value) (w : World) (R : Value → World → Prop) : Prop :=
  match t with
  | .fn f => LandsF P f vs w R
  | .yld b => ∃ fn tmps asg body, (Instr.yield (g.σ b) vs.toArray).run P w = .ok (.round (g.σ b) fn tmps asg body) w ∧
      RoundIn Fence.wide 0 P (g.σ b) fn tmps asg body w (fun e w' => ∃ v, e = .returned v ∧ R v w')
structure SoundCall (P : Program) (cf : CallF) : Prop where
  fine : FineCall cf
  sound : ∀ (t : Tgt) (args : List SV) (m : Me) (sv : SV) (m' : Me), cf t args m = some (sv, m') → AllP m'.vc → ∀ (g : Gh) (w0 : World) (F : Nat → Prop) (w : World) (vs : List Value),
    MRel g w0 F m w → VRs g args vs → Lands P g t vs w (fun v w' => Turns g w0 F m' sv v w')

theorem not_defer {P : Program} {ρ : Operand → Value} {o : Oper} {w w' : World} {x : Next} (h : (execOp ρ o).run P w = .ok x w') (hx : ∀ d, x ≠ .defer d) : ∀ c, o.op ≠ .defer c := by
  intro c hc
  simp only [execOp, hc, Sem.run_bind] at h
  cases hr : (resolve ρ c o.type).run P w with
  | ok d w2 => rw [hr] at h; simp at h; exact hx _ h.1.symm
  | halt x w2 => rw [hr] at h; simp at h

section
variable {P : Program} {ro : Option Nat} {o : Oper} {a : Act} {w : World} {K : Act → World → Prop} {Q : Exit → Act → World → Prop}

theorem wpIn_value {v : Value} {w' : World} (h : (execOp a.eval o).run P w = .ok (.value v) w') (hK : K (a.put o.dst v) w') : o.wpIn (FW ro) 0 P a w K Q := by
  refine ⟨fun _ _ => trivial, ?_⟩
  rw [Oper.semAt_eq _ _ _ (not_defer h (by simp)), h]
  exact hK
theorem wpIn_skipped {w' : World} (h : (execOp a.eval o).run P w = .ok .skip w') (hK : K (a.put o.dst undef) w') : o.wpIn (FW ro) 0 P a w K Q := by
  refine ⟨fun _ _ => trivial, ?_⟩
  rw [Oper.semAt_eq _ _ _ (not_defer h (by simp)), h]
  exact hK
theorem wpIn_enter {f : FuncId} {args : Array Value} {w' : World} (h : (execOp a.eval o).run P w = .ok (.enter f args) w')
    (hc : CallsIn Fence.wide 0 P f args w' (fun e w'' => ∃ v, e = .returned v ∧ K (a.put o.dst v) w'')) : o.wpIn (FW ro) 0 P a w K Q := by
  refine ⟨fun _ _ => trivial, ?_⟩
  rw [Oper.semAt_eq _ _ _ (not_defer h (by simp)), h]
  refine ⟨fun h => by simp [Fence.wide] at h, ?_⟩
  refine CallsIn.mono (callsIn_FW hc) fun e w'' he => ?_
  obtain ⟨v, rfl, hk⟩ := he
  exact hk
theorem wpIn_round {l : Nat} {f : FuncId} {tmps : Array Value} {asg body : Code} {w' : World} (h : (execOp a.eval o).run P w = .ok (.round l f tmps asg body) w')
    (hc : RoundIn Fence.wide 0 P l f tmps asg body w' (fun e w'' => ∃ v, e = .returned v ∧ K (a.put o.dst v) w'')) : o.wpIn (FW ro) 0 P a w K Q := by
  refine ⟨fun _ _ => trivial, ?_⟩
  rw [Oper.semAt_eq _ _ _ (not_defer h (by simp)), h]
  refine ⟨fun h => by simp [Fence.wide] at h, ?_⟩
  have hc' : RoundIn (FW ro) 0 P l f tmps asg body w' (fun e w'' => ∃ v, e = .returned v ∧ K (a.put o.dst v) w'') := hc
  refine RoundIn.mono hc' fun e w'' he => ?_
  obtain ⟨v, rfl, hk⟩ := he
  exact hk
end

theorem callee_spec {g : Gh} {v : SV} {val : Value} {args : List SV} {vs : List Value} {t : Tgt} {args' : List SV} (h : calleeOf v args = some (t, args')) (hv : VR g v val) (ha : VRs g args vs) :
    (∃ f, ∃ first caps : Array Value, t = .fn f ∧ val = .func (.func f) first caps ∧ VRs g args' (first.toList ++ vs ++ caps.toList)) ∨ ∃ b, t = .yld b ∧ args' = args ∧ val = .func (.yield (g.σ b)) #[] #[] := by
  unfold calleeOf at h
  split at h
  · rename_i g0 first caps
    split at h
    · rename_i hfirst
      simp only [Option.some.injEq, Prod.mk.injEq] at h
      obtain ⟨rfl, rfl⟩ := h
      simp only [VR] at hv
      have : first = #[] := by rw [← Array.toList_inj, hfirst]
      exact .inl ⟨g0, #[], caps, rfl, by rw [hv, this], ha.append (VRs.pls _)⟩
    · cases h
  · rename_i g0 caps
    simp only [Option.some.injEq, Prod.mk.injEq] at h
    obtain ⟨rfl, rfl⟩ := h
    simp only [VR] at hv
    obtain ⟨a, h1, h2⟩ := hv
    exact .inl ⟨g0, #[], a, rfl, h1, ha.append h2⟩
  · rename_i g0 first
    simp only [Option.some.injEq, Prod.mk.injEq] at h
    obtain ⟨rfl, rfl⟩ := h
    simp only [VR] at hv
    obtain ⟨a, h1, h2⟩ := hv
    exact .inl ⟨g0, a, #[], rfl, h1, by simpa using h2.append ha⟩
  · rename_i b
    simp only [Option.some.injEq, Prod.mk.injEq] at h
    obtain ⟨rfl, rfl⟩ := h
    simp only [VR] at hv
    exact .inr ⟨b, rfl, rfl, hv.2⟩
  · cases h

theorem callFunc_run {P : Program} {f : FuncId} {args : Array Value} {w : World} (h : Callable P f) : (callFunc f args).run P w = .ok (.enter f args) w := by
  obtain ⟨fn, h1, h2, h3⟩ := h
  have h4 : fn.body ≠ none := by intro e; rw [e] at h3; simp at h3
  simp [callFunc, Go.program, Sem.run, Sem.run_bind, h1, h2, h4]

section
variable {P : Program} {T : Tab} (hT : TabOk P T) {cf : CallF} (hcf : SoundCall P cf) {g : Gh} {w0 : World} {F : Nat → Prop} {f : Fra} {m m' : Me} {a : Act} {w : World} {o : Oper} {sv : SV}
  {ro : Option Nat} {K : Act → World → Prop} {Q : Exit → Act → World → Prop} {ops : Array Oper} (hf : LRel g f a ops o) (hm : MRel g w0 F m w)
include hT hf hm

theorem val_op (hs : valOp P T m.h (evO f) o = some sv) (hK : ∀ v, VR g sv v → K (a.put o.dst v) w) : o.wpIn (FW ro) 0 P a w K Q := by
  obtain ⟨v, h1, h2⟩ := val_sound hT hm.heap (hf.operand hm.glob) hs
  exact wpIn_value h1 (hK v h2)

include hcf in
theorem eff_op {r i : Nat} (he : isEff o.op = true) (hs : effOp T cf r i (evO f) o m = some (sv, m')) (hvc : AllP m'.vc) (hK : ∀ v w', Turns g w0 F m' sv v w' → K (a.put o.dst v) w') :
    o.wpIn (FW ro) 0 P a w K Q := by
  have hv : ∀ x ∈ o.op.operands, VR g (evO f x) (a.eval x) := hf.operand hm.glob
  have fin : Steps1 P g w0 F o a.eval w m' sv → o.wpIn (FW ro) 0 P a w K Q := by
    rintro ⟨v, w', h | ⟨h, rfl⟩, ht⟩
    · exact wpIn_value h (hK _ _ ht)
    · exact wpIn_skipped h (hK _ _ ht)
  unfold effOp at hs
  split at hs
  · rename_i t ho
    exact fin (alloc_sound hT hm ho hs).1
  · rename_i t x ho
    exact fin (box_sound hm hv ho hs).1
  · rename_i t x y ho
    exact fin (store_sound hT hm hv ho hs hvc).1
  · rename_i t len parts ho
    exact fin (buildSlice_sound hT hm hv ho hs).1
  · rename_i t l c ho
    exact fin (makeSliceH_sound hT hm hv ho hs hvc).1
  · rename_i c ho
    unfold eCall at hs
    split at hs
    · rename_i b hb
      unfold eBuiltin at hs
      split at hs
      · exact fin (append_sound hT hm hv ho hb hs hvc).1
      · exact fin (sliceData_sound hT hm hv ho hb hs).1
      · exact fin (unsafeString_sound hT hm hv ho hb hs hvc).1
      · cases hs
    · rename_i fo hfo
      unfold eCallTo at hs
      split at hs
      · rename_i t0 args hcal
        have hargs0 : VRs g (c.args.toList.map (evO f)) (c.args.toList.map a.eval) := VRs.map _ _ _ fun x hx => hv x (by
          simp only [ho, Op.operands, Call.operands, Array.mem_append]
          exact .inr (by simpa using hx))
        rcases callee_spec hcal (hv fo (by simp [ho, Op.operands, Call.operands, hfo])) hargs0 with ⟨g0, first, caps, rfl, hval, hargs⟩ | ⟨b, rfl, rfl, hval⟩
        · have he : first ++ (c.args.map a.eval) ++ caps = (first.toList ++ c.args.toList.map a.eval ++ caps.toList).toArray := by
            rw [← Array.toList_inj]; simp
          rcases hcf.sound _ _ _ _ _ hs hvc g w0 F w _ hm hargs with ⟨hcall, hcalls⟩ | ⟨_, v, w', hcalls, ht⟩
          · refine wpIn_enter (f := g0) (args := first ++ (c.args.map a.eval) ++ caps) (w' := w) ?_ ?_
            · simp only [execOp, ho, resolve, hfo, hval, Deferred.ofValue, Sem.run_bind, Sem.run_pure, Result.andThen_ok, invoke]
              rw [callFunc_run hcall]
            · rw [he]
              refine CallsIn.mono hcalls fun e w'' h => ?_
              obtain ⟨v, rfl, ht⟩ := h
              exact ⟨v, rfl, hK _ _ ht⟩
          · refine wpIn_value (v := v) (w' := w') ?_ (hK _ _ ht)
            rw [← he] at hcalls
            simp only [execOp, ho, resolve, hfo, hval, Deferred.ofValue, Sem.run_bind, Sem.run_pure, Result.andThen_ok, invoke]
            rw [← hcalls]
        · obtain ⟨fn, tmps, asg, body, hy, hround⟩ := hcf.sound _ _ _ _ _ hs hvc g w0 F w _ hm hargs0
          have he : c.args.map a.eval = (c.args.toList.map a.eval).toArray := by
            rw [← Array.toList_inj]; simp
          refine wpIn_round (w' := w) (l := g.σ b) (f := fn) (tmps := tmps) (asg := asg) (body := body) ?_ (RoundIn.mono hround fun e w'' h => ?_)
          · simp only [execOp, ho, resolve, hfo, hval, Deferred.ofValue, Sem.run_bind, Sem.run_pure, Result.andThen_ok, invoke]
            rw [← he] at hy
            simp [hy]
          · obtain ⟨v, rfl, ht⟩ := h
            exact ⟨v, rfl, hK _ _ ht⟩
      · cases hs
    · cases hs
  · rename_i t rs ho
    exact fin (makeMap_sound hm ho hs).1
  · rename_i t mp k x ho
    exact fin (insert_sound hT hm hv ho hs).1
  · rename_i src dst x ho
    exact fin (strBytes_sound hT hm ho (hv x (by simp [ho, Op.operands])) hs).1
  · cases hs

omit hT hm in
theorem wanted_spec {gd : Option (Nat × Bool)} {b : Bool} (hgd : o.guard = gd) (h : wantedS ops.toList gd f = some b) : Region.wanted o (yielded ops a.tmps) = b := by
  unfold wantedS at h
  split at h
  · simp only [Option.some.injEq] at h
    subst h
    simp [Region.wanted, hgd]
  · rename_i j want
    split at h
    · rename_i oj hoj
      rw [listAt_eq] at hoj
      have hoj' : ops[j]? = some oj := by simpa using hoj
      split at h
      · rename_i d hd
        split at h
        · rename_i hlt
          have hlt' : d < f.nt := by simpa using hlt
          have hsz : d < a.tmps.size := Nat.lt_of_lt_of_le hlt' hf.nt
          have hr := hf.slots d (by simp [Oper.looksAt, hgd, hoj', hd])
          rw [Array.getD_eq_getD_getElem?, Array.getElem?_eq_getElem hsz] at hr
          have hy : yielded ops a.tmps j = match a.tmps[d] with | .bool b => some b | _ => none := by
            simp only [yielded, hoj', Option.bind_some, hd, Array.getElem?_eq_getElem hsz]
            cases a.tmps[d] <;> rfl
          simp only [Region.wanted, hgd, hy]
          unfold boolS at h
          split at h
          · rename_i c hc
            rw [hc] at hr
            simp only [VR, Option.getD_some] at hr
            rw [hr]
            cases c <;> cases want <;> simp at h <;> simp [← h]
          · rename_i vs hc
            rw [hc] at hr
            simp only [VR, Option.getD_some] at hr
            rw [hr]
            simp at h
            simp [← h]
          · cases h
        · cases h
      · cases h
    · cases h

include hcf in
/-- one operation of a region, with its guard -/
theorem op_sound {r i : Nat} (hs : evGuarded P T cf r ops.toList i o f m = some (sv, m')) (hvc : AllP m'.vc) (hK : ∀ v w', Turns g w0 F m' sv v w' → K (a.put o.dst v) w') :
    if Region.wanted o (yielded ops a.tmps) = true then o.wpIn (FW ro) 0 P a w K Q else (∀ f, o.about P w a.eval = some f → (FW ro).fn f) ∧ K (a.put o.dst undef) w := by
  unfold evGuarded at hs
  split at hs
  · rename_i hw
    rw [if_pos (wanted_spec hf rfl hw)]
    unfold evOp at hs
    split at hs
    · rename_i he
      exact eff_op hT hcf hf hm he hs hvc hK
    · obtain ⟨ho, hval⟩ := val_owes hs
      exact val_op hT hf hm (hval hvc) fun v hv => hK v w ⟨g, Ext.refl g, hm.same ho.h ho.nx, hv⟩
  · rename_i hw
    have := wanted_spec hf rfl hw
    rw [if_neg (by rw [this]; decide)]
    simp only [Option.some.injEq, Prod.mk.injEq] at hs
    obtain ⟨rfl, rfl⟩ := hs
    exact ⟨fun _ _ => trivial, hK undef w ⟨g, Ext.refl g, hm, by simp [undefS, VR]⟩⟩
  · cases hs
end

end
end Go.Sx
