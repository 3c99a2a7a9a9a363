/- The abstract evaluator: operations that give a value and turn nothing are carried out as the machine carries them out. -/
import Derived.Test.YtjmcholbjjgelaaDoorSxRel
import Derived.Laws.BytesString
import Derived.Lib.Builder
namespace Go.Sx
noncomputable section
set_option linter.unusedVariables false
open Go.RowKit

/-! ### tables -/
def tdOf : TypeDesc → TD
  | .slice e => .slice e
  | .array n e => .array n e
  | .struct fs => .struct (fs.toList.map fun f => (f.offset, f.type))
  | .string => .str
  | .int k => .int k
  | .pointer e => .ptr e
  | .unsafePointer => .uptr
  | .map k e => .map k e
  | _ => .other
structure TIok (P : Program) (t : TypeId) (i : TI) : Prop where
  info : (P.info? t).map (fun x => (x.size, x.bytes, x.zero.map fun z => z.cells.toList)) = some (i.size, i.bytes, some i.zero)
  desc : (P.underlying t).map tdOf = some i.d
  one : i.zero.all oneV = true
  len : i.zero.length = i.size
structure TabOk (P : Program) (T : Tab) : Prop where
  ty : ∀ t i, T.ty.get t = some i → TIok P t i
  fn : ∀ f fn, T.fn.get f = some fn → P.funcs[f]? = some fn ∧ fn.name ≠ "runtime.NumGoroutine"
  mixed : P.follows .mixedOrders = true

section
variable {P : Program} {T : Tab} (hT : TabOk P T)
include hT
theorem sizeOf_ok {t : TypeId} {n : Nat} (h : sizeOf? T t = some n) : ∃ i, P.info? t = some i ∧ i.size = n := by
  unfold sizeOf? at h
  split at h
  · rename_i i hi
    simp only [Option.some.injEq] at h
    have := (hT.ty t i hi).info
    cases hp : P.info? t with
    | none => simp [hp] at this
    | some j => simp [hp] at this; exact ⟨j, rfl, by omega⟩
  · cases h
theorem desc_ok {t : TypeId} {d : TD} (h : desc? T t = some d) : ∃ d', P.underlying t = some d' ∧ tdOf d' = d := by
  unfold desc? at h
  split at h
  · rename_i i hi
    simp only [Option.some.injEq] at h
    have := (hT.ty t i hi).desc
    cases hp : P.underlying t with
    | none => simp [hp] at this
    | some j => simp [hp] at this; exact ⟨j, rfl, by rw [this, h]⟩
  · cases h
theorem sliceOf_ok {t e : TypeId} (h : sliceOf? T t = some e) : P.underlying t = some (.slice e) := by
  unfold sliceOf? at h
  split at h
  · rename_i e' hd
    obtain ⟨d', hu, ht⟩ := desc_ok hT hd
    simp only [Option.some.injEq] at h
    subst h
    cases d' <;> simp [tdOf] at ht
    rw [hu, ht]
  · cases h
theorem arrayOf_ok {t : TypeId} {ne : Nat × TypeId} (h : arrayOf? T t = some ne) : P.underlying t = some (.array ne.1 ne.2) := by
  unfold arrayOf? at h
  split at h
  · rename_i n e' hd
    obtain ⟨d', hu, ht⟩ := desc_ok hT hd
    simp only [Option.some.injEq] at h
    subst h
    cases d' <;> simp [tdOf] at ht
    rw [hu, ht.1, ht.2]
  · cases h
theorem fieldOf_ok {t : TypeId} {f : Nat} {fd : Nat × TypeId} (h : fieldOf? T t f = some fd) :
    ∃ fs fld, P.underlying t = some (.struct fs) ∧ fs[f]? = some fld ∧ fld.offset = fd.1 ∧ fld.type = fd.2 := by
  unfold fieldOf? at h
  split at h
  · rename_i fs hd
    obtain ⟨d', hu, ht⟩ := desc_ok hT hd
    cases d' <;> simp [tdOf] at ht
    rename_i fs'
    rw [listAt_eq, ← ht, List.getElem?_map] at h
    cases hq : fs'.toList[f]? with
    | none => simp [hq] at h
    | some fld =>
      simp [hq] at h
      refine ⟨fs', fld, hu, ?_, ?_, ?_⟩
      · simpa using hq
      · rw [← h]
      · rw [← h]
  · cases h
theorem isAgg_ok {t : TypeId} {b : Bool} (w : World) (h : isAgg? T t = some b) : (isAgg t).run P w = .ok b w := by
  unfold isAgg? at h
  split at h
  · rename_i i hi
    simp only [Option.some.injEq] at h
    obtain ⟨d', hu, ht⟩ := desc_ok hT (t := t) (d := i.d) (by simp [desc?, hi])
    subst h
    cases d' <;> simp [tdOf] at ht <;> simp [isAgg, run_underlying hu, ← ht, isAggD]
  · cases h
theorem ty_ok {t : TypeId} {i : TI} (h : T.ty.get t = some i) : ∃ inf z, P.info? t = some inf ∧ inf.size = i.size ∧ inf.bytes = i.bytes ∧ inf.zero = some z ∧ z.cells.toList = i.zero ∧ i.zero.all oneV = true ∧ i.zero.length = i.size := by
  have h1 := (hT.ty t i h).info
  cases hp : P.info? t with
  | none => simp [hp] at h1
  | some inf =>
    simp only [hp, Option.map_some, Option.some.injEq, Prod.mk.injEq] at h1
    obtain ⟨h2, h3, h4⟩ := h1
    cases hz : inf.zero with
    | none => simp [hz] at h4
    | some z => simp only [hz, Option.map_some, Option.some.injEq] at h4; exact ⟨inf, z, rfl, h2, h3, hz, h4, (hT.ty t i h).one, (hT.ty t i h).len⟩
theorem isStr_ok {t : TypeId} (h : isStr T t = true) : P.underlying t = some .string := by
  unfold isStr at h
  split at h
  · rename_i i hi
    obtain ⟨d', hu, ht⟩ := desc_ok hT (t := t) (d := i.d) (by simp [desc?, hi])
    split at h
    · rename_i hd
      rw [hd] at ht
      cases d' <;> simp [tdOf] at ht
      exact hu
    · cases h
  · cases h
theorem isU8_ok {t : TypeId} (h : isU8 T t = true) : P.underlying t = some (.int .u8) := by
  unfold isU8 at h
  split at h
  · rename_i i hi
    obtain ⟨d', hu, ht⟩ := desc_ok hT (t := t) (d := i.d) (by simp [desc?, hi])
    split at h
    · rename_i hd
      rw [hd] at ht
      cases d' <;> simp [tdOf] at ht
      rw [hu, ht]
    · cases h
  · cases h
theorem ptrOf_ok {t e : TypeId} (h : desc? T t = some (.ptr e)) : P.underlying t = some (.pointer e) := by
  obtain ⟨d', hu, ht⟩ := desc_ok hT h
  cases d' <;> simp [tdOf] at ht
  rw [hu, ht]
theorem uptr_ok {t : TypeId} (h : desc? T t = some .uptr) : P.underlying t = some .unsafePointer := by
  obtain ⟨d', hu, ht⟩ := desc_ok hT h
  cases d' <;> simp [tdOf] at ht
  exact hu
theorem mapOf_ok {t k e : TypeId} (h : mapOf? T t = some (k, e)) : P.underlying t = some (.map k e) := by
  unfold mapOf? at h
  split at h
  · rename_i k' e' hd
    simp only [Option.some.injEq, Prod.mk.injEq] at h
    obtain ⟨rfl, rfl⟩ := h
    obtain ⟨d', hu, ht⟩ := desc_ok hT hd
    cases d' <;> simp [tdOf] at ht
    rw [hu, ht.1, ht.2]
  · cases h
theorem run_sizeOf' {t : TypeId} {n : Nat} (w : World) (h : sizeOf? T t = some n) : (sizeOf t).run P w = .ok n w := by
  obtain ⟨i, hi, hn⟩ := sizeOf_ok hT h
  simp [sizeOf, typeInfo, hi, hn]
end

/-! ### plain values -/
theorem pureOf_run {P : Program} {α : Type} : ∀ {s : Sem α} {a : α}, pureOf P s = some a → ∀ w, s.run P w = .ok a w
  | .pure b, a, h, w => by simp only [pureOf, Option.some.injEq] at h; subst h; rfl
  | .program k, a, h, w => by simp only [pureOf] at h; simp only [Sem.run]; exact pureOf_run h w
  | .load .., a, h, w => by simp [pureOf] at h
  | .store .., a, h, w => by simp [pureOf] at h
  | .new .., a, h, w => by simp [pureOf] at h
  | .shape .., a, h, w => by simp [pureOf] at h
  | .freeze .., a, h, w => by simp [pureOf] at h
  | .frozen .., a, h, w => by simp [pureOf] at h
  | .getObj .., a, h, w => by simp [pureOf] at h
  | .setObj .., a, h, w => by simp [pureOf] at h
  | .choose .., a, h, w => by simp [pureOf] at h
  | .sys .., a, h, w => by simp [pureOf] at h
  | .mark .., a, h, w => by simp [pureOf] at h
  | .halt .., a, h, w => by simp [pureOf] at h

theorem allPl_spec {g : Gh} {ρ : Operand → SV} {ρ' : Operand → Value} : ∀ {l : List Operand}, allPl ρ l = true → (∀ x ∈ l, VR g (ρ x) (ρ' x)) → ∀ x ∈ l, plFn ρ x = ρ' x
  | [], _, _, x, hx => by cases hx
  | y :: r, h, hv, x, hx => by
    simp only [allPl] at h
    split at h
    · rename_i hy
      rcases List.mem_cons.1 hx with rfl | hx
      · have := hv x (by simp)
        unfold isPl at hy
        unfold plFn
        split at hy
        · rename_i v hq
          rw [hq] at this
          simp only [VR] at this
          exact this.symm
        · cases hy
      · exact allPl_spec h (fun z hz => hv z (by simp [hz])) x hx
    · cases h

/-- An operation gives a value and turns nothing. -/
def Gives (P : Program) (g : Gh) (o : Oper) (ρ' : Operand → Value) (w : World) (sv : SV) : Prop :=
  ∃ v, (execOp ρ' o).run P w = .ok (.value v) w ∧ VR g sv v

theorem slow_sound {P : Program} {g : Gh} {ρ : Operand → SV} {ρ' : Operand → Value} {o : Oper} {sv : SV} {w : World}
    (h : slowOp P ρ o = some sv) (hv : ∀ x ∈ o.op.operands, VR g (ρ x) (ρ' x)) : Gives P g o ρ' w sv := by
  unfold slowOp at h
  split at h
  · cases h
  · rename_i hsel
    split at h
    · rename_i hall
      have hc := execOp_congr (ρ := plFn ρ) (ρ' := ρ') o (fun cs b e => by simp [e, isSel] at hsel) (fun x hx => allPl_spec hall (fun y hy => hv y (by simpa using hy)) x (by simpa using hx))
      rw [hc] at h
      cases hp : pureOf P (execOp ρ' o) with
      | none => simp [hp, nextVal] at h
      | some n =>
        cases n <;> simp [hp, nextVal] at h
        rename_i v
        exact ⟨v, pureOf_run hp w, by rw [← h]; simp [VR]⟩
    · cases h

theorem ltF_eq (a b : Int) : ltF a b = decide (a < b) := by
  cases a <;> cases b <;> simp only [ltF]
  · rename_i a b
    have : Nat.blt a b = decide (a < b) := by rw [Bool.eq_iff_iff]; simp
    rw [this]; congr 1; simp
  · rename_i a b; symm; simp; omega
  · rename_i a b; symm; simp; omega
  · rename_i a b
    have : Nat.blt b a = decide (b < a) := by rw [Bool.eq_iff_iff]; simp
    rw [this]; rw [Bool.eq_iff_iff]; simp; omega
theorem leF_eq (a b : Int) : leF a b = decide (a ≤ b) := by
  cases a <;> cases b <;> simp only [leF]
  · rename_i a b
    have : Nat.ble a b = decide (a ≤ b) := by rw [Bool.eq_iff_iff]; simp
    rw [this]; congr 1; simp
  · rename_i a b; symm; simp; omega
  · rename_i a b; symm; simp; omega
  · rename_i a b
    have : Nat.ble b a = decide (b ≤ a) := by rw [Bool.eq_iff_iff]; simp
    rw [this]; rw [Bool.eq_iff_iff]; simp; omega
theorem eqF_eq (a b : Int) : eqF a b = (a == b) := by
  rw [Bool.eq_iff_iff]
  cases a <;> cases b <;> simp [eqF]
  all_goals (constructor <;> intro h <;> omega)
theorem wrap64F_eq (x : Int) : wrap64F x = IntKind.i64.wrap x := by
  unfold wrap64F
  split
  · rename_i n
    split
    · rename_i h
      have h1 : n < 9223372036854775808 := by simpa using h
      rw [IntWalk.i64_in _ (by constructor <;> simp <;> omega)]
    · rfl
  · rename_i n
    split
    · rename_i h
      have h1 : n < 9223372036854775808 := by simpa using h
      rw [IntWalk.i64_in _ (by constructor <;> omega)]
    · rfl
theorem wrapF_eq (k : IntKind) (x : Int) : wrapF k x = k.wrap x := by
  cases k <;> simp [wrapF, wrap64F_eq]
theorem sameKind_eq {k k' : IntKind} (h : sameKind k k' = true) : k = k' := by
  cases k <;> cases k' <;> first | rfl | (simp [sameKind] at h)


theorem binInt_run {P : Program} {op : BinOp} {k : IntKind} {a b : Int} {v : Value} (h : binInt op k a b = some v) (t : TypeId) (w : World) (x y : Operand) :
    (do eqGuard op t x y (.int k a) (.int k b); binOp op t (.int k a) (.int k b) : Sem Value).run P w = .ok v w := by
  have hg : (eqGuard op t x y (.int k a) (.int k b)).run P w = .ok () w := by
    unfold eqGuard
    cases op <;> simp
  have hb : (binOp op t (.int k a) (.int k b)).run P w = .ok v w := by
    cases op <;> simp only [binInt, Option.some.injEq, reduceCtorEq] at h <;> subst h <;>
      simp [binOp, Op.intArith, Op.intCmp, wrapF_eq, ltF_eq, leF_eq, eqF_eq, bne]
  simp only [Sem.run_bind, hg, Result.andThen_ok, hb]

theorem binFast_inv {op : BinOp} {x y : SV} {v : Value} (h : binFast op x y = some v) : ∃ k a b, x = .pl (.int k a) ∧ y = .pl (.int k b) ∧ binInt op k a b = some v := by
  unfold binFast at h
  split at h
  · split at h
    · unfold binFast1 at h
      split at h
      · unfold binFast2 at h
        split at h
        · split at h
          · rename_i hk
            have := sameKind_eq hk
            subst this
            exact ⟨_, _, _, rfl, rfl, h⟩
          · cases h
        · cases h
      · cases h
    · cases h
  · cases h

theorem shiftArgs_inv {op : BinOp} {x y : SV} {k : IntKind} {a b : Int} (h : shiftArgs op x y = some (k, a, b)) : isShift op = true ∧ x = .pl (.int k a) ∧ ∃ k', y = .pl (.int k' b) := by
  unfold shiftArgs at h
  split at h
  · rename_i hs
    split at h
    · split at h
      · simp only [Option.some.injEq, Prod.mk.injEq] at h
        obtain ⟨rfl, rfl, rfl⟩ := h
        exact ⟨hs, rfl, _, rfl⟩
      · cases h
    · cases h
  · cases h
theorem shift_run {P : Program} {op : BinOp} {k k' : IntKind} {a b : Int} (h : isShift op = true) (hb : ltF b 0 = false) (t : TypeId) (w : World) (x y : Operand) :
    (do eqGuard op t x y (.int k a) (.int k' b); binOp op t (.int k a) (.int k' b) : Sem Value).run P w = .ok (.int k (shV op k a b)) w := by
  have hg : (eqGuard op t x y (.int k a) (.int k' b)).run P w = .ok () w := by
    unfold eqGuard
    cases op <;> simp
  have hb' : ¬ b < 0 := by
    rw [ltF_eq] at hb
    simpa using hb
  have hb : (binOp op t (.int k a) (.int k' b)).run P w = .ok (.int k (shV op k a b)) w := by
    cases op <;> simp only [isShift, Bool.false_eq_true] at h <;> simp [binOp, Op.shift, hb', shV]
  simp only [Sem.run_bind, hg, Result.andThen_ok, hb]

theorem catArgs_inv {op : BinOp} {x y : SV} {a b : ByteArray} (h : catArgs op x y = some (a, b)) : op = .add ∧ x = .pl (.string a) ∧ y = .pl (.string b) := by
  unfold catArgs at h
  split at h
  · rename_i hs
    split at h
    · split at h
      · simp only [Option.some.injEq, Prod.mk.injEq] at h
        obtain ⟨rfl, rfl⟩ := h
        exact ⟨by cases op <;> simp [isAdd] at hs; rfl, rfl, rfl⟩
      · cases h
    · cases h
  · cases h
theorem cat_run {P : Program} {a b : ByteArray} (hb : a.size + b.size ≤ 9223372036854775807) (t : TypeId) (w : World) (x y : Operand) :
    (do eqGuard .add t x y (.string a) (.string b); binOp .add t (.string a) (.string b) : Sem Value).run P w = .ok (.string (a ++ b)) w := by
  have hg : (eqGuard .add t x y (.string a) (.string b)).run P w = .ok () w := by
    unfold eqGuard
    simp
  have hn : ¬ (((a.size + b.size : Nat) : Int) > IntKind.i64.max) := by
    have : IntKind.i64.max = 9223372036854775807 := by decide
    rw [this]; omega
  have hb : (binOp .add t (.string a) (.string b)).run P w = .ok (.string (a ++ b)) w := by
    unfold binOp Op.stringOp
    simp only
    rw [if_neg hn]
    rfl
  simp only [Sem.run_bind, hg, Result.andThen_ok, hb]

theorem ptrBin_sound {P : Program} {T : Tab} (hT : TabOk P T) {g : Gh} {ρ : Operand → SV} {ρ' : Operand → Value} {o : Oper} {op : BinOp} {t t' : TypeId} {x y : Operand} {sv : SV} {w : World} {c : Bool}
    (ho : o.op = .binOp op t x y t') (hc : ptrEq (ρ x) (ρ y) = some c) (hpt : ptrT T t = true) (h : ptrBin op c = some sv) (hv : ∀ x ∈ o.op.operands, VR g (ρ x) (ρ' x)) : Gives P g o ρ' w sv := by
  have h1 := hv x (by simp [ho, Op.operands])
  have h2 := hv y (by simp [ho, Op.operands])
  obtain ⟨e, hu, j, hj⟩ : ∃ e, P.underlying t = some (.pointer e) ∧ ∃ j, P.info? e = some j := by
    unfold ptrT at hpt
    split at hpt
    · rename_i i hi
      split at hpt
      · rename_i e hd
        split at hpt
        · rename_i j hj
          obtain ⟨inf, z, hp, _⟩ := ty_ok hT hj
          exact ⟨e, ptrOf_ok hT (by simp [desc?, hi, hd]), inf, hp⟩
        · cases hpt
      · cases hpt
    · cases hpt
  have key : ∃ a b : Option Addr, ρ' x = .pointer a ∧ ρ' y = .pointer b ∧ ((c = true ∧ a = b ∧ a.isSome = true) ∨ (c = false ∧ ((a.isSome = true ∧ b = none) ∨ (a = none ∧ b.isSome = true)))) := by
    unfold ptrEq at hc
    split at hc
    · rename_i b1 o1 hx
      rw [hx] at h1
      simp only [VR] at h1
      split at hc
      · rename_i b2 o2 hy
        rw [hy] at h2
        simp only [VR] at h2
        split at hc
        · rename_i hbb
          simp only [Bool.and_eq_true, nbeq, beq_iff_eq] at hbb
          simp only [Option.some.injEq] at hc
          obtain ⟨rfl, rfl⟩ := hbb
          exact ⟨_, _, h1.2, h2.2, .inl ⟨hc.symm, rfl, rfl⟩⟩
        · cases hc
      · rename_i hy
        rw [hy] at h2
        simp only [VR] at h2
        simp only [Option.some.injEq] at hc
        exact ⟨_, _, h1.2, h2, .inr ⟨hc.symm, .inl ⟨rfl, rfl⟩⟩⟩
      · cases hc
    · rename_i hx
      rw [hx] at h1
      simp only [VR] at h1
      split at hc
      · rename_i b2 o2 hy
        rw [hy] at h2
        simp only [VR] at h2
        simp only [Option.some.injEq] at hc
        exact ⟨_, _, h1, h2.2, .inr ⟨hc.symm, .inr ⟨rfl, rfl⟩⟩⟩
      · cases hc
    · cases hc
  obtain ⟨a, b, hx, hy, hab⟩ := key
  have hequal : (Op.equal t (.pointer a) (.pointer b)).run P w = .ok c w := by
    rcases hab with ⟨rfl, rfl, hs⟩ | ⟨rfl, hab⟩
    · obtain ⟨a, rfl⟩ := Option.isSome_iff_exists.1 hs
      have h : ∀ d : Nat, (Op.equalIn (d + 1) t (.pointer (some a)) (.pointer (some a))).run P w = .ok true w := fun d => by
        simp [Op.equalIn, run_underlying hu, sizeOf, typeInfo, hj, run_sameAddr_same]
      simp [Op.equal, Op.maxDepth, h 9999]
    · rcases hab with ⟨hs, rfl⟩ | ⟨rfl, hs⟩
      · obtain ⟨a, rfl⟩ := Option.isSome_iff_exists.1 hs
        have h : ∀ d : Nat, (Op.equalIn (d + 1) t (.pointer (some a)) (.pointer none)).run P w = .ok false w := fun d => by
          simp [Op.equalIn, run_underlying hu]
        simp [Op.equal, Op.maxDepth, h 9999]
      · obtain ⟨b, rfl⟩ := Option.isSome_iff_exists.1 hs
        have h : ∀ d : Nat, (Op.equalIn (d + 1) t (.pointer none) (.pointer (some b))).run P w = .ok false w := fun d => by
          simp [Op.equalIn, run_underlying hu]
        simp [Op.equal, Op.maxDepth, h 9999]
  unfold ptrBin at h
  split at h
  · simp only [Option.some.injEq] at h
    subst h
    refine ⟨.bool c, ?_, by simp [VR]⟩
    simp [execOp, ho, hx, hy, binOp, hequal, eqGuard]
  · simp only [Option.some.injEq] at h
    subst h
    refine ⟨.bool (!c), ?_, by simp [VR]⟩
    simp [execOp, ho, hx, hy, binOp, hequal, eqGuard]
  · cases h

theorem plainBin_sound {P : Program} {g : Gh} {ρ : Operand → SV} {ρ' : Operand → Value} {o : Oper} {op : BinOp} {t t' : TypeId} {x y : Operand} {sv : SV} {w : World}
    {T : Tab} (hT : TabOk P T) (ho : o.op = .binOp op t x y t') (h : plainBin P T ρ o op t x y = some sv) (hv : ∀ x ∈ o.op.operands, VR g (ρ x) (ρ' x)) : Gives P g o ρ' w sv := by
  unfold plainBin at h
  split at h
  · rename_i v hb
    simp only [Option.some.injEq] at h
    subst h
    obtain ⟨k, a, b, hx, hy, hi⟩ := binFast_inv hb
    have h1 := hv x (by simp [ho, Op.operands])
    have h2 := hv y (by simp [ho, Op.operands])
    rw [hx] at h1; rw [hy] at h2
    simp only [VR] at h1 h2
    refine ⟨v, ?_, by simp [VR]⟩
    have := binInt_run (P := P) hi t w x y
    unfold execOp
    simp only [ho, h1, h2]
    rw [Sem.run_bind, this]
    rfl
  · split at h
    · rename_i v hb
      simp only [Option.some.injEq] at h
      subst h
      unfold shiftFast at hb
      split at hb
      · rename_i k a b hsa
        split at hb
        · cases hb
        · rename_i hlt
          simp only [Option.some.injEq] at hb
          subst hb
          obtain ⟨hs, hx, k', hy⟩ := shiftArgs_inv hsa
          have h1 := hv x (by simp [ho, Op.operands])
          have h2 := hv y (by simp [ho, Op.operands])
          rw [hx] at h1; rw [hy] at h2
          simp only [VR] at h1 h2
          refine ⟨.int k (shV op k a b), ?_, by simp only [VR]⟩
          have := shift_run (P := P) (k := k) (k' := k') (a := a) hs hlt t w x y
          unfold execOp
          simp only [ho, h1, h2]
          rw [Sem.run_bind, this]
          rfl
      · cases hb
    · split at h
      · rename_i v hb
        simp only [Option.some.injEq] at h
        subst h
        unfold catFast at hb
        split at hb
        · rename_i a b hsa
          split at hb
          · rename_i hle
            simp only [Option.some.injEq] at hb
            subst hb
            obtain ⟨rfl, hx, hy⟩ := catArgs_inv hsa
            have h1 := hv x (by simp [ho, Op.operands])
            have h2 := hv y (by simp [ho, Op.operands])
            rw [hx] at h1; rw [hy] at h2
            simp only [VR] at h1 h2
            refine ⟨.string (a ++ b), ?_, by simp only [VR]⟩
            have := cat_run (P := P) (a := a) (b := b) (by simpa using hle) t w x y
            unfold execOp
            simp only [ho, h1, h2]
            rw [Sem.run_bind, this]
            rfl
          · cases hb
        · cases hb
      · split at h
        · rename_i c hc
          split at h
          · rename_i hpt
            exact ptrBin_sound hT ho hc hpt h hv
          · cases h
        · exact slow_sound h hv

theorem strAt_sound {P : Program} {T : Tab} (hT : TabOk P T) {g : Gh} {ρ : Operand → SV} {ρ' : Operand → Value} {o : Oper} {t : TypeId} {x y : Operand} {sv : SV} {w : World}
    (ho : o.op = .index t x y) (h : indexPl P T ρ o t x y = some sv) (hv : ∀ x ∈ o.op.operands, VR g (ρ x) (ρ' x)) : Gives P g o ρ' w sv := by
  unfold indexPl at h
  split at h
  · rename_i s hx
    split at h
    · rename_i k i hy
      have h1 := hv x (by simp [ho, Op.operands])
      have h2 := hv y (by simp [ho, Op.operands])
      rw [hx] at h1; rw [hy] at h2
      simp only [VR] at h1 h2
      split at h
      case h_2 => cases h
      rename_i hstr
      have hu := isStr_ok hT hstr
      unfold strAt at h
      split at h
      · rename_i n
        split at h
        · rename_i b hb
          simp only [Option.some.injEq] at h
          subst h
          rw [listAt_eq] at hb
          refine ⟨.int .u8 b.toNat, ?_, by simp [VR]⟩
          have hb' : s[n]? = some b := by
            have : s.data[n]? = some b := by simpa using hb
            obtain ⟨hlt, he⟩ := Array.getElem?_eq_some_iff.1 this
            have hlt' : n < s.size := hlt
            rw [getElem?_pos s n hlt']
            exact congrArg some he
          unfold execOp
          simp only [ho, h1, h2]
          simp [Instr.index, asIntOf, run_underlying hu, hb']
        · cases h
      · cases h
    · cases h
  · exact slow_sound h hv


/-! ### memory -/
def CR (g : Gh) (b : Nat) (cs : List SV) (cur : Array Value) : Prop :=
  ∀ i sv, cs[i]? = some sv → ∃ v, cur[g.ω b + i]? = some v ∧ VR g sv v ∧ v.oneCell' = true
/-- what a loop's record holds of its frame -/
def RR (g : Gh) (L : Loop) (f : Fra) : Prop := f.nt ≤ L.tmps.size ∧ ∀ t, VR g (f.get t) (L.tmps.getD t undef)
def OR (g : Gh) (b : Nat) (w : World) : AObj → Prop
  | .cells cs wr el => (g.v b = true ∧ cs = []) ∨ g.v b = false ∧ ∃ cur e fr, w.heap[g.σ b]? = some (.cells cur e fr) ∧ CR g b cs cur ∧ g.κ b = cur.size ∧ (wr = true → el ≠ 0 → g.ω b = 0 ∧ fr = (0, 0) ∧ e = el)
  | .obj o => w.heap[g.σ b]? = some o
  | .lrec st pe f ps asg body d => ∃ L : Loop, w.heap[g.σ b]? = some (.loop L) ∧ L.state = st ∧ L.pending = pe ∧ RR g L f ∧ L.params.toList = ps ∧ L.assign = asg ∧ L.body = body ∧ g.has d ∧ L.defers = g.σ d ∧ codeOk asg = true ∧ codeOk body = true
def HR (g : Gh) (h : Heap) (w : World) : Prop := ∀ b o, h.get b = some o → g.has b ∧ OR g b w o
/-- it is there -/
def AObj.there (g : Gh) (b : Nat) : AObj → Prop
  | .cells _ _ _ => g.v b = false
  | _ => True
/-- it is there, and the call's own -/
def AObj.live (g : Gh) (b : Nat) : AObj → Prop
  | .cells _ wr _ => wr = true ∧ g.v b = false
  | _ => True
theorem AObj.live_there {g : Gh} {b : Nat} {o : AObj} (h : o.live g b) : o.there g b := by cases o <;> simp_all [AObj.live, AObj.there]

theorem CR.ext0 {g g' : Gh} (e : Ext0 g g') {b : Nat} (hb : g.has b) {cs : List SV} {cur : Array Value} (h : CR g b cs cur) : CR g' b cs cur := by
  intro i sv hi
  obtain ⟨v, h1, h2, h3⟩ := h i sv hi
  exact ⟨v, by rw [e.ω b hb]; exact h1, VR.ext0 e _ _ h2, h3⟩
theorem AObj.live_ext0 {g g' : Gh} (e : Ext0 g g') {b : Nat} (hb : g.has b) {o : AObj} : o.live g' b ↔ o.live g b := by
  cases o <;> simp [AObj.live, e.v b hb]
theorem AObj.there_ext0 {g g' : Gh} (e : Ext0 g g') {b : Nat} (hb : g.has b) {o : AObj} : o.there g' b ↔ o.there g b := by
  cases o <;> simp [AObj.there, e.v b hb]
theorem RR.ext0 {g g' : Gh} (e : Ext0 g g') {L : Loop} {f : Fra} (h : RR g L f) : RR g' L f := ⟨h.1, fun t => VR.ext0 e _ _ (h.2 t)⟩
theorem OR.ext0 {g g' : Gh} (e : Ext0 g g') {b : Nat} (hb : g.has b) {w w' : World} {o : AObj} (hw : o.there g b → w'.heap[g.σ b]? = w.heap[g.σ b]?) (h : OR g b w o) : OR g' b w' o := by
  cases o with
  | cells cs wr el' =>
    rcases h with ⟨h, rfl⟩ | ⟨hk, cur, el, fr, h1, h2, h3, h4⟩
    · exact .inl ⟨by rw [e.v b hb]; exact h, rfl⟩
    · exact .inr ⟨by rw [e.v b hb]; exact hk, cur, el, fr, by rw [e.σ b hb, hw hk]; exact h1, h2.ext0 e hb, by rw [e.κ b hb]; exact h3, fun x => by rw [e.ω b hb]; exact h4 x⟩
  | obj o => simp only [OR] at h ⊢; rw [e.σ b hb, hw trivial]; exact h
  | lrec st pe f ps asg body d =>
    obtain ⟨L, h1, h2, h3, h4, h5, h6, h7, h8, h9, h10⟩ := h
    exact ⟨L, by rw [e.σ b hb, hw trivial]; exact h1, h2, h3, h4.ext0 e, h5, h6, h7, e.has h8, by rw [h9, e.σ d h8], h10⟩
theorem AObj.live_ext {g g' : Gh} (e : Ext g g') {b : Nat} (hb : g.has b) {o : AObj} : o.live g' b ↔ o.live g b := AObj.live_ext0 e.toExt0 hb
theorem AObj.there_ext {g g' : Gh} (e : Ext g g') {b : Nat} (hb : g.has b) {o : AObj} : o.there g' b ↔ o.there g b := AObj.there_ext0 e.toExt0 hb
theorem RR.ext {g g' : Gh} (e : Ext g g') {L : Loop} {f : Fra} (h : RR g L f) : RR g' L f := h.ext0 e.toExt0
theorem OR.ext {g g' : Gh} (e : Ext g g') {b : Nat} (hb : g.has b) {w w' : World} {o : AObj} (hw : o.there g b → w'.heap[g.σ b]? = w.heap[g.σ b]?) (h : OR g b w o) : OR g' b w' o := h.ext0 e.toExt0 hb hw
/-- cells that are told are there -/
theorem OR.real' {g : Gh} {b : Nat} {w : World} {cs : List SV} {wr : Bool} {el : TypeId} (h : OR g b w (.cells cs wr el)) (hne : cs ≠ []) : g.v b = false := by
  rcases h with ⟨_, h⟩ | h
  · exact absurd h hne
  · exact h.1
theorem OR.of_v {g : Gh} {b : Nat} {w : World} {cs : List SV} {wr : Bool} {el : TypeId} (h : OR g b w (.cells cs wr el)) (hk : g.v b = false) :
    ∃ cur e fr, w.heap[g.σ b]? = some (.cells cur e fr) ∧ CR g b cs cur ∧ g.κ b = cur.size ∧ (wr = true → el ≠ 0 → g.ω b = 0 ∧ fr = (0, 0) ∧ e = el) := by
  rcases h with ⟨h, _⟩ | h
  · rw [hk] at h; cases h
  · exact h.2
theorem OR.real {g : Gh} {b : Nat} {w : World} {cs : List SV} {wr : Bool} {el : TypeId} (h : OR g b w (.cells cs wr el)) (hne : cs ≠ []) :
    ∃ cur e fr, w.heap[g.σ b]? = some (.cells cur e fr) ∧ CR g b cs cur ∧ g.κ b = cur.size ∧ (wr = true → el ≠ 0 → g.ω b = 0 ∧ fr = (0, 0) ∧ e = el) := h.of_v (h.real' hne)

theorem cutAt_spec {n off : Nat} {cs l : List SV} (h : cutAt n off cs = some l) : off + n ≤ cs.length ∧ l = (cs.drop off).take n := by
  unfold cutAt at h
  split at h
  · rename_i hle
    exact ⟨by simpa using hle, by simpa using h.symm⟩
  · cases h

theorem CR.cut {g : Gh} {b n off : Nat} {cs l : List SV} {cur : Array Value} (h : CR g b cs cur) (hc : cutAt n off cs = some l) :
    ∃ vs : List Value, vs.length = n ∧ VRs g l vs ∧ ∀ j v, vs[j]? = some v → cur[g.ω b + off + j]? = some v ∧ v.oneCell' = true := by
  obtain ⟨hle, rfl⟩ := cutAt_spec hc
  refine ⟨(List.range n).map fun j => cur.getD (g.ω b + off + j) undef, by simp, VRs.mk (by simp; omega) fun i c u h1 h2 => ?_, fun j v hj => ?_⟩
  · rw [List.getElem?_take] at h1
    split at h1
    · rename_i hi
      rw [List.getElem?_drop] at h1
      obtain ⟨v, hv, hr, _⟩ := h _ _ h1
      simp only [List.getElem?_map, List.getElem?_range hi, Option.map_some, Option.some.injEq] at h2
      rw [← h2, Array.getD_eq_getD_getElem?, Nat.add_assoc, hv]
      exact hr
    · cases h1
  · have hjn : j < n := by
      have := (List.getElem?_eq_some_iff.1 hj).1
      simpa using this
    simp only [List.getElem?_map, List.getElem?_range hjn, Option.map_some, Option.some.injEq] at hj
    have hlt : off + j < cs.length := by omega
    obtain ⟨v', hv, _, h1⟩ := h (off + j) _ (List.getElem?_eq_getElem hlt)
    rw [Nat.add_assoc, hv]
    rw [Array.getD_eq_getD_getElem?, Nat.add_assoc, hv] at hj
    simp only [Option.getD_some] at hj
    subst hj
    exact ⟨rfl, h1⟩

theorem cell_of {w : World} {b o : Nat} {cur : Array Value} {e : TypeId} {fr : Nat × Nat} (h : w.heap[b]? = some (.cells cur e fr)) : w.cell? ⟨b, o, none⟩ = cur[o]? := by
  simp [World.cell?, h]
theorem add_of (b o j : Nat) : (⟨b, o, none⟩ : Addr).add j = ⟨b, o + j, none⟩ := by
  unfold Addr.add
  split
  · rename_i h; subst h; rfl
  · rfl

theorem OR.cut {g : Gh} {b n off : Nat} {cs l : List SV} {wr : Bool} {el : TypeId} {w : World} (h : OR g b w (.cells cs wr el)) (hc : cutAt n off cs = some l) :
    ∃ vs : List Value, vs.length = n ∧ VRs g l vs ∧ ∀ j v, vs[j]? = some v → w.cell? ⟨g.σ b, g.ω b + off + j, none⟩ = some v ∧ v.oneCell' = true := by
  rcases h with ⟨_, rfl⟩ | ⟨_, cur, e, fr, hw, hcr, _, _⟩
  · obtain ⟨h1, rfl⟩ := cutAt_spec hc
    simp only [List.length_nil] at h1
    exact ⟨[], by simp; omega, by simp [VRs], fun j v hj => by simp at hj⟩
  · obtain ⟨vs, h1, h2, h3⟩ := hcr.cut hc
    exact ⟨vs, h1, h2, fun j v hj => ⟨by rw [cell_of hw]; exact (h3 j v hj).1, (h3 j v hj).2⟩⟩
theorem OR.get {g : Gh} {b i : Nat} {cs : List SV} {wr : Bool} {el : TypeId} {w : World} {sv : SV} (h : OR g b w (.cells cs wr el)) (hc : cs[i]? = some sv) :
    ∃ v, w.cell? ⟨g.σ b, g.ω b + i, none⟩ = some v ∧ VR g sv v ∧ v.oneCell' = true := by
  obtain ⟨cur, e, fr, hw, hcr, _, _⟩ := h.real (by rintro rfl; simp at hc)
  obtain ⟨v, h1, h2⟩ := hcr _ _ hc
  exact ⟨v, by rw [cell_of hw]; exact h1, h2⟩

theorem load_run {P : Program} {T : Tab} (hT : TabOk P T) {g : Gh} {w : World} {h : Heap} (hh : HR g h w) {t : TypeId} {b off : Nat} {sv : SV} (hl : loadS T h t b off = some sv) :
    ∃ v, (loadVar t ⟨g.σ b, g.ω b + off, none⟩).run P w = .ok v w ∧ VR g sv v := by
  unfold loadS at hl
  split at hl
  · rename_i cs hcs
    unfold cellsOf? at hcs
    split at hcs
    · rename_i cs' wr el' hg
      simp only [Option.some.injEq] at hcs
      subst hcs
      obtain ⟨hb, hor⟩ := hh b _ hg
      unfold partS at hl
      split at hl
      · rename_i ha
        have hra := isAgg_ok hT w ha
        split at hl
        · rename_i n hn
          have hrn := run_sizeOf' hT w hn
          cases hc : cutAt n off cs' with
          | none => simp [hc] at hl
          | some l =>
            simp [hc] at hl
            obtain ⟨vs, hlen, hvs, hcell⟩ := hor.cut hc
            refine ⟨.agg vs.toArray, ?_, by rw [← hl]; exact mkAgg_VR (by simpa using hvs)⟩
            have hrl := run_loadCells_list (P := P) w ⟨g.σ b, g.ω b + off, none⟩ vs (fun j v hj => by
              rw [add_of]
              exact (hcell j v hj).1)
            rw [hlen] at hrl
            unfold loadVar
            simp [hra, hrn, hrl]
        · cases hl
      · rename_i ha
        have hra := isAgg_ok hT w ha
        rw [listAt_eq] at hl
        obtain ⟨v, hv, hr, _⟩ := hor.get hl
        refine ⟨v, ?_, hr⟩
        unfold loadVar
        simp [hra, load, Sem.run, hv]
      · cases hl
    · cases hcs
  · cases hl


/-! ### each operation that gives a value -/
section
variable {P : Program} {T : Tab} (hT : TabOk P T) {g : Gh} {h : Heap} {w : World} (hh : HR g h w) {ρ : Operand → SV} {ρ' : Operand → Value} {o : Oper} {sv : SV}
  (hv : ∀ x ∈ o.op.operands, VR g (ρ x) (ρ' x))
include hv

theorem pick_sound {c a b : Operand} (ho : o.op = .pick c a b) (hs : vPick (ρ c) (ρ a) (ρ b) = some sv) : Gives P g o ρ' w sv := by
  have h1 := hv c (by simp [ho, Op.operands])
  have h2 := hv a (by simp [ho, Op.operands])
  have h3 := hv b (by simp [ho, Op.operands])
  unfold vPick at hs
  split at hs
  · rename_i c' hc
    rw [hc] at h1
    simp only [VR] at h1
    split at hs
    · simp only [Option.some.injEq] at hs
      subst hs
      exact ⟨ρ' a, by simp [execOp, ho, h1, asBool], h2⟩
    · simp only [Option.some.injEq] at hs
      subst hs
      exact ⟨ρ' b, by simp [execOp, ho, h1, asBool], h3⟩
  · cases hs

theorem move_sound {x : Operand} (ho : o.op = .move x ∨ o.op = .assign x) (hs : ρ x = sv) : Gives P g o ρ' w sv := by
  rcases ho with ho | ho
  · exact ⟨ρ' x, by simp [execOp, ho], hs ▸ hv x (by simp [ho, Op.operands])⟩
  · exact ⟨ρ' x, by simp [execOp, ho], hs ▸ hv x (by simp [ho, Op.operands])⟩

theorem extract_sound {t : Operand} {i : Nat} (ho : o.op = .extract t i) (hs : vExtract (ρ t) i = some sv) : Gives P g o ρ' w sv := by
  have h1 := hv t (by simp [ho, Op.operands])
  unfold vExtract at hs
  split at hs
  · rename_i vs hc
    rw [hc] at h1
    simp only [VR] at h1
    obtain ⟨a, ha, hr⟩ := h1
    rw [listAt_eq] at hs
    obtain ⟨u, hu, hru⟩ := hr.get hs
    have hu' : a[i]? = some u := by simpa using hu
    exact ⟨u, by simp [execOp, ho, ha, Instr.extract, hu'], hru⟩
  · rename_i vs hc
    rw [hc] at h1
    simp only [VR] at h1
    rw [listAt_eq] at hs
    cases hq : vs.toList[i]? with
    | none => simp [hq] at hs
    | some u =>
      simp [hq] at hs
      have hu' : vs[i]? = some u := by simpa using hq
      exact ⟨u, by simp [execOp, ho, h1, Instr.extract, hu'], by rw [← hs]; simp [VR]⟩
  · cases hs

include hT hh in
theorem load_sound {t : TypeId} {a : Operand} (ho : o.op = .load t a) (hs : vLoad T h t (ρ a) = some sv) : Gives P g o ρ' w sv := by
  have h1 := hv a (by simp [ho, Op.operands])
  unfold vLoad at hs
  split at hs
  · rename_i b off hc
    rw [hc] at h1
    simp only [VR] at h1
    obtain ⟨v, hr, hvr⟩ := load_run hT hh hs
    exact ⟨v, by simp [execOp, ho, h1.2, Instr.loadAt, Instr.sureAddr, hr], hvr⟩
  · cases hs

theorem nilCheck_sound {x : Operand} (ho : o.op = .nilCheck x) (hs : vNilCheck P ρ o (ρ x) = some sv) : Gives P g o ρ' w sv := by
  have h1 := hv x (by simp [ho, Op.operands])
  unfold vNilCheck at hs
  split at hs
  · rename_i b off hc
    simp only [Option.some.injEq] at hs
    subst hs
    rw [hc] at h1
    have h1' := h1
    simp only [VR] at h1
    exact ⟨ρ' x, by simp [execOp, ho, h1.2], h1'⟩
  · rename_i f cs hc
    split at hs
    · rename_i fid
      simp only [Option.some.injEq] at hs
      subst hs
      rw [hc] at h1
      have h1' := h1
      simp only [VR] at h1
      obtain ⟨a, ha, _⟩ := h1
      exact ⟨ρ' x, by simp [execOp, ho, ha], h1'⟩
    · cases hs
  · rename_i f cs hc
    split at hs
    · rename_i fid
      simp only [Option.some.injEq] at hs
      subst hs
      rw [hc] at h1
      have h1' := h1
      simp only [VR] at h1
      obtain ⟨a, ha, _⟩ := h1
      exact ⟨ρ' x, by simp [execOp, ho, ha], h1'⟩
    · cases hs
  · exact slow_sound hs hv
  · cases hs

include hT in
theorem fieldAddr_sound {s : TypeId} {x : Operand} {f : Nat} (ho : o.op = .fieldAddr s x f) (hs : vFieldAddr T s (ρ x) f = some sv) : Gives P g o ρ' w sv := by
  have h1 := hv x (by simp [ho, Op.operands])
  unfold vFieldAddr at hs
  split at hs
  · rename_i b off hc
    rw [hc] at h1
    simp only [VR] at h1
    split at hs
    · rename_i fd hf
      obtain ⟨fs, fld, hu, hfl, hoff, hty⟩ := fieldOf_ok hT hf
      split at hs
      · rename_i n hn
        simp only [Option.some.injEq] at hs
        subst hs
        have hrn := run_sizeOf' hT w hn
        rw [← hty] at hrn
        refine ⟨.pointer (some ⟨g.σ b, g.ω b + off + fd.1, none⟩), ?_, ?_⟩
        · simp [execOp, ho, h1.2, Instr.fieldAt, run_underlying hu, hfl, Instr.sureAddr, fieldPlace, hrn, add_of, hoff]
        · simp only [VR]; exact ⟨h1.1, by rw [Nat.add_assoc]⟩
      · cases hs
    · cases hs
  · cases hs

omit hv in
include hT in
theorem part_run {t : TypeId} {cs : List SV} {a : Array Value} {off : Nat} (hr : VRs g cs a.toList) (hs : partS T t cs off = some sv) : ∃ v, (part t a off).run P w = .ok v w ∧ VR g sv v := by
  unfold partS at hs
  split at hs
  · rename_i ha
    have hra := isAgg_ok hT w ha
    split at hs
    · rename_i n hn
      have hrn := run_sizeOf' hT w hn
      cases hc : cutAt n off cs with
      | none => simp [hc] at hs
      | some l =>
        simp [hc] at hs
        obtain ⟨hle, rfl⟩ := cutAt_spec hc
        refine ⟨.agg (a.extract off (off + n)), by simp [part, hra, hrn], ?_⟩
        rw [← hs]
        refine mkAgg_VR ?_
        have : (a.extract off (off + n)).toList = (a.toList.drop off).take n := by
          simp
        rw [this]
        exact (hr.drop off).take n
    · cases hs
  · rename_i ha
    have hra := isAgg_ok hT w ha
    rw [listAt_eq] at hs
    obtain ⟨u, hu, hru⟩ := hr.get hs
    have hu' : a[off]? = some u := by simpa using hu
    exact ⟨u, by simp [part, hra, hu'], hru⟩
  · cases hs

include hT in
theorem field_sound {s : TypeId} {x : Operand} {f : Nat} (ho : o.op = .field s x f) (hs : vField P T ρ o s (ρ x) f = some sv) : Gives P g o ρ' w sv := by
  have h1 := hv x (by simp [ho, Op.operands])
  unfold vField at hs
  split at hs
  · rename_i cs hc
    rw [hc] at h1
    simp only [VR] at h1
    obtain ⟨a, ha, hr⟩ := h1
    split at hs
    · rename_i fd hf
      obtain ⟨fs, fld, hu, hfl, hoff, hty⟩ := fieldOf_ok hT hf
      obtain ⟨v, hrun, hvr⟩ := part_run (w := w) hT hr hs
      rw [← hty, ← hoff] at hrun
      exact ⟨v, by simp [execOp, ho, ha, Instr.field, run_underlying hu, hfl, asAgg, hrun], hvr⟩
    · cases hs
  · exact slow_sound hs hv
  · cases hs

omit hv in
theorem idx_spec {i : Int} {n k : Nat} (h : idx? i n = some k) : i = (k : Int) ∧ k < n := by
  unfold idx? at h
  split at h
  · split at h
    · rename_i hlt
      simp only [Option.some.injEq] at h
      subst h
      exact ⟨rfl, by simpa using hlt⟩
    · cases h
  · cases h
omit hv in
theorem le_spec {i : Int} {n k : Nat} (h : le? i n = some k) : i = (k : Int) ∧ k ≤ n := by
  unfold le? at h
  split at h
  · split at h
    · rename_i hlt
      simp only [Option.some.injEq] at h
      subst h
      exact ⟨rfl, by simpa using hlt⟩
    · cases h
  · cases h
omit hv in
theorem intOf_spec {x : SV} {i : Int} {v : Value} (h : intOf? x = some i) (hr : VR g x v) : ∃ k, v = .int k i := by
  unfold intOf? at h
  split at h
  · simp only [Option.some.injEq] at h
    subst h
    simp only [VR] at hr
    exact ⟨_, hr⟩
  · cases h

include hT in
theorem index_sound {t : TypeId} {x ix : Operand} (ho : o.op = .index t x ix) (hs : vIndex P T ρ o t x ix = some sv) : Gives P g o ρ' w sv := by
  have h1 := hv x (by simp [ho, Op.operands])
  have h2 := hv ix (by simp [ho, Op.operands])
  unfold vIndex at hs
  split at hs
  · rename_i cs hc
    rw [hc] at h1
    simp only [VR] at h1
    obtain ⟨a, ha, hr⟩ := h1
    unfold vIndexA at hs
    split at hs
    · rename_i ne hne
      have hu := arrayOf_ok hT hne
      split at hs
      · rename_i i hi
        obtain ⟨k, hk⟩ := intOf_spec hi h2
        split at hs
        · rename_i j hj
          obtain ⟨rfl, hlt⟩ := idx_spec hj
          split at hs
          · rename_i sz hsz
            have hrn := run_sizeOf' hT w hsz
            obtain ⟨v, hrun, hvr⟩ := part_run (w := w) hT hr hs
            refine ⟨v, ?_, hvr⟩
            simp [execOp, ho, ha, hk, Instr.index, asIntOf, run_underlying hu, hlt, hrn, hrun]
          · cases hs
        · cases hs
      · cases hs
    · cases hs
  · exact strAt_sound hT ho hs hv

include hT in
theorem arrayAt_sound {t : TypeId} {x : Operand} (ho : o.op = .sliceToArrayPointer t x) (hs : vArrayAt T t (ρ x) = some sv) : Gives P g o ρ' w sv := by
  have h1 := hv x (by simp [ho, Op.operands])
  unfold vArrayAt at hs
  split at hs
  · rename_i b off len own hc
    rw [hc] at h1
    simp only [VR] at h1
    split at hs
    · rename_i ne hne
      have hu := arrayOf_ok hT hne
      split at hs
      · rename_i hle
        simp only [Bool.and_eq_true, Nat.ble_eq, Nat.blt_eq] at hle
        simp only [Option.some.injEq] at hs
        subst hs
        rcases h1.2 with ⟨c, h2, _⟩ | ⟨h0, _⟩
        · refine ⟨_, ?_, by simp only [VR]; exact ⟨h1.1, rfl⟩⟩
          have hno : ¬ (len < ne.1) := by omega
          simp [execOp, ho, h2, Instr.arrayAt, run_underlying hu, hno]
        · omega
      · cases hs
    · cases hs
  · cases hs

include hT in
theorem indexAddr_sound {t : TypeId} {x ix : Operand} (ho : o.op = .indexAddr t x ix) (hs : vIndexAddr T t (ρ x) (ρ ix) = some sv) : Gives P g o ρ' w sv := by
  have h1 := hv x (by simp [ho, Op.operands])
  have h2 := hv ix (by simp [ho, Op.operands])
  unfold vIndexAddr at hs
  split at hs
  · rename_i b off len own hc
    rw [hc] at h1
    simp only [VR] at h1
    split at hs
    · rename_i e he
      have hu := sliceOf_ok hT he
      unfold elemAt at hs
      split at hs
      · rename_i i hi
        obtain ⟨k, hk⟩ := intOf_spec hi h2
        split at hs
        · rename_i n hn
          obtain ⟨rfl, hlt⟩ := idx_spec hn
          split at hs
          · rename_i sz hsz
            simp only [Option.some.injEq] at hs
            subst hs
            have hrn := run_sizeOf' hT w hsz
            rcases h1.2 with ⟨c, hx, hc1, _⟩ | ⟨h0, _⟩
            · refine ⟨.pointer (some ⟨g.σ b, g.ω b + off + n * sz, none⟩), ?_, ?_⟩
              · simp [execOp, ho, hx, hk, Instr.indexAt, asIntOf, run_underlying hu, hlt, hrn, add_of]
              · simp only [VR]; exact ⟨h1.1, by rw [Nat.add_assoc]⟩
            · omega
          · cases hs
        · cases hs
      · cases hs
    · cases hs
  · rename_i b off hc
    rw [hc] at h1
    simp only [VR] at h1
    split at hs
    · rename_i ne he
      have hu := arrayOf_ok hT he
      unfold elemAt at hs
      split at hs
      · rename_i i hi
        obtain ⟨k, hk⟩ := intOf_spec hi h2
        split at hs
        · rename_i n hn
          obtain ⟨rfl, hlt⟩ := idx_spec hn
          split at hs
          · rename_i sz hsz
            simp only [Option.some.injEq] at hs
            subst hs
            have hrn := run_sizeOf' hT w hsz
            refine ⟨.pointer (some ⟨g.σ b, g.ω b + off + n * sz, none⟩), ?_, ?_⟩
            · simp [execOp, ho, h1.2, hk, Instr.indexAt, asIntOf, run_underlying hu, hlt, hrn, add_of, Instr.sureAddr]
            · simp only [VR]; exact ⟨h1.1, by rw [Nat.add_assoc]⟩
          · cases hs
        · cases hs
      · cases hs
    · cases hs
  · cases hs
omit hv in
theorem bound_spec {x : Option Operand} {d most n : Nat} (hx : ∀ y, x = some y → VR g (ρ y) (ρ' y)) (h : bound? ρ x d most = some n) (code : BoundsCode) :
    (x = none ∧ n = d) ∨ ∃ y, x = some y ∧ n ≤ most ∧ ∀ top, most ≤ top → (Instr.sliceBound (ρ' y) top code).run P w = .ok n w := by
  unfold bound? at h
  split at h
  · simp only [Option.some.injEq] at h
    exact .inl ⟨rfl, h.symm⟩
  · rename_i y
    split at h
    · rename_i i hi
      obtain ⟨k, hk⟩ := intOf_spec hi (hx y rfl)
      obtain ⟨rfl, hle⟩ := le_spec h
      refine .inr ⟨y, rfl, hle, fun top ht => ?_⟩
      have : (n : Int) ≤ (top : Int) := by omega
      simp [Instr.sliceBound, hk, asIntOf, this]
    · cases h

omit hv in
theorem sliceBounds_run {lo hi : Option Operand} {len most hh l : Nat} {isS : Bool} {cap : Nat} (hlo : ∀ y, lo = some y → VR g (ρ y) (ρ' y)) (hhi : ∀ y, hi = some y → VR g (ρ y) (ρ' y))
    (h1 : bound? ρ hi len most = some hh) (h2 : bound? ρ lo 0 hh = some l) (hm : most ≤ cap) :
    (Instr.sliceBounds isS len cap (lo.map ρ') (hi.map ρ') none).run P w = .ok (l, hh, cap) w := by
  rcases bound_spec (P := P) (w := w) hhi h1 (if isS then .sliceAcap else .sliceAlen) with ⟨rfl, rfl⟩ | ⟨y, rfl, _, hy⟩
  · rcases bound_spec (P := P) (w := w) hlo h2 .sliceB with ⟨rfl, rfl⟩ | ⟨z, rfl, _, hz⟩
    · simp [Instr.sliceBounds]
    · simp [Instr.sliceBounds, hz _ (Nat.le_refl _)]
  · rcases bound_spec (P := P) (w := w) hlo h2 .sliceB with ⟨rfl, rfl⟩ | ⟨z, rfl, _, hz⟩
    · simp [Instr.sliceBounds, hy cap hm]
    · simp [Instr.sliceBounds, hy cap hm, hz _ (Nat.le_refl _)]
end

theorem bound_le {ρ : Operand → SV} {x : Option Operand} {d most n : Nat} (h : bound? ρ x d most = some n) (hd : d ≤ most) : n ≤ most := by
  unfold bound? at h
  split at h
  · simp only [Option.some.injEq] at h; omega
  · split at h
    · exact (le_spec h).2
    · cases h

section
variable {P : Program} {T : Tab} (hT : TabOk P T) {g : Gh} {h : Heap} {w : World} (hh : HR g h w) {ρ : Operand → SV} {ρ' : Operand → Value} {o : Oper} {sv : SV}
  (hv : ∀ x ∈ o.op.operands, VR g (ρ x) (ρ' x))
include hT hv
theorem slice_sound {t : TypeId} {x : Operand} {lo hi mx : Option Operand} (ho : o.op = .slice t x lo hi mx) (hs : vSlice P T ρ o t (ρ x) lo hi mx = some sv) : Gives P g o ρ' w sv := by
  have h1 := hv x (by simp [ho, Op.operands])
  have hlo : ∀ y, lo = some y → VR g (ρ y) (ρ' y) := fun y hy => hv y (by simp [ho, Op.operands, hy])
  have hhi : ∀ y, hi = some y → VR g (ρ y) (ρ' y) := fun y hy => hv y (by simp [ho, Op.operands, hy])
  unfold vSlice at hs
  split at hs
  · cases hs
  · split at hs
    · rename_i b off len own hc
      rw [hc] at h1
      simp only [VR] at h1
      split at hs
      · rename_i e he
        have hu := sliceOf_ok hT he
        unfold cutSl at hs
        split at hs
        · rename_i hhh hb1
          split at hs
          · rename_i l hb2
            split at hs
            · rename_i sz hsz
              simp only [Option.some.injEq] at hs
              subst hs
              have hrn := run_sizeOf' hT w hsz
              have hlm : len ≤ mostOf len own := by
                cases own <;> simp only [mostOf]
                case room k => exact Nat.le_max_left _ _
                case cap c' =>
                  rcases h1.2 with ⟨c, _, h, h'⟩ | ⟨h, _⟩
                  · simp only [ownOk] at h'; omega
                  · omega
                all_goals exact Nat.le_refl _
              have hle1 := bound_le hb1 hlm
              have hle2 := bound_le hb2 (Nat.zero_le _)
              rcases h1.2 with ⟨c, hx, hc1, hoc⟩ | ⟨h0, a, c, hx, hoc⟩
              · have hmc : mostOf len own ≤ c := by cases own <;> simp only [mostOf, ownOk] at hoc ⊢ <;> first | exact hc1 | exact Nat.max_le.2 ⟨hc1, hoc⟩ | omega
                have hrun := sliceBounds_run (P := P) (w := w) (isS := true) (cap := c) hlo hhi hb1 hb2 hmc
                refine ⟨.slice (if c = l then some ⟨g.σ b, g.ω b + off, none⟩ else some ⟨g.σ b, g.ω b + off + l * sz, none⟩) (hhh - l) (c - l), ?_, ?_⟩
                · simp [execOp, ho, hx, Instr.sliceAt, Instr.slice, run_underlying hu, hrun, hrn, add_of]
                · simp only [VR, cutOw]
                  refine ⟨h1.1, ?_⟩
                  by_cases e : c = l
                  · rw [if_pos e]
                    have : hhh - l = 0 := by omega
                    exact .inr ⟨this, _, _, by rw [this], by simp only [looseOk]; omega⟩
                  · rw [if_neg e]
                    exact .inl ⟨c - l, by rw [Nat.add_assoc], by omega, by simp only [ownOk]; omega⟩
              · subst h0
                have hm0 : mostOf 0 own = 0 := by
                  cases own <;> simp only [mostOf, looseOk] at hoc ⊢
                  · subst hoc; rfl
                rw [hm0] at hle1 hb1
                have hh0 : hhh = 0 := by omega
                have hl0 : l = 0 := by omega
                subst hl0 hh0
                have hrun := sliceBounds_run (P := P) (w := w) (isS := true) (cap := c) hlo hhi hb1 hb2 (Nat.zero_le _)
                refine ⟨.slice (if c = 0 then a else a.map (·.add (0 * sz))) (0 - 0) (c - 0), ?_, ?_⟩
                · simp [execOp, ho, hx, Instr.sliceAt, Instr.slice, run_underlying hu, hrun, hrn]
                · simp only [VR, cutOw, hm0]
                  exact ⟨h1.1, .inr ⟨trivial, _, _, rfl, rfl⟩⟩
            · cases hs
          · cases hs
        · cases hs
      · cases hs
    · rename_i b off hc
      rw [hc] at h1
      simp only [VR] at h1
      split at hs
      · rename_i ne he
        have hu := arrayOf_ok hT he
        unfold cutSl at hs
        split at hs
        · rename_i hhh hb1
          split at hs
          · rename_i l hb2
            split at hs
            · rename_i sz hsz
              simp only [Option.some.injEq] at hs
              subst hs
              have hrn := run_sizeOf' hT w hsz
              have hle1 := bound_le hb1 (Nat.le_refl _)
              have hle2 := bound_le hb2 (Nat.zero_le _)
              have hrun := sliceBounds_run (P := P) (w := w) (isS := false) (cap := ne.1) hlo hhi hb1 hb2 (Nat.le_refl _)
              refine ⟨.slice (some (if ne.1 = l then ⟨g.σ b, g.ω b + off, none⟩ else ⟨g.σ b, g.ω b + off + l * sz, none⟩)) (hhh - l) (ne.1 - l), ?_, ?_⟩
              · simp [execOp, ho, h1.2, Instr.sliceAt, run_underlying hu, hrun, hrn, add_of, Instr.sureAddr]
              · simp only [VR, cutOw]
                refine ⟨h1.1, ?_⟩
                by_cases e : ne.1 = l
                · rw [if_pos e]
                  have : hhh - l = 0 := by omega
                  exact .inr ⟨this, _, _, by rw [this], by simp only [looseOk]; omega⟩
                · rw [if_neg e]
                  exact .inl ⟨ne.1 - l, by rw [Nat.add_assoc], by omega, by simp only [ownOk]; omega⟩
            · cases hs
          · cases hs
        · cases hs
      · cases hs
    · rename_i u hc
      unfold vSliceP at hs
      split at hs
      · rename_i str
        split at hs
        · rename_i hst
          rw [hc] at h1
          simp only [VR] at h1
          have hu := isStr_ok hT hst
          unfold cutStr at hs
          split at hs
          · rename_i hhh hb1
            split at hs
            · rename_i l hb2
              simp only [Option.some.injEq] at hs
              subst hs
              have hrun := sliceBounds_run (P := P) (w := w) (isS := false) (cap := str.size) hlo hhi hb1 hb2 (Nat.le_refl _)
              refine ⟨.string (str.extract l hhh), ?_, by simp only [VR]⟩
              simp [execOp, ho, h1, Instr.sliceAt, Instr.slice, run_underlying hu, hrun]
            · cases hs
          · cases hs
        · cases hs
      · exact slow_sound hs hv
    · cases hs

omit hT in
theorem makeFunc_sound {fn : Fn} {first caps : Array Operand} (ho : o.op = .makeFunc fn first caps) (hs : vMakeFunc fn (first.toList.map ρ) (caps.toList.map ρ) = some sv) : Gives P g o ρ' w sv := by
  unfold vMakeFunc at hs
  split at hs
  · rename_i hf
    simp only [Option.some.injEq] at hs
    subst hs
    have hf' : first = #[] := by cases first; simp_all
    refine ⟨.func fn #[] (caps.map ρ'), by simp [execOp, ho, hf', Instr.makeFunc], ?_⟩
    refine mkFn_VR ?_
    have := VRs.map (g := g) ρ ρ' caps.toList (fun x hx => hv x (by simp [ho, Op.operands, hf']; simpa using hx))
    simpa using this
  · rename_i y r hf
    split at hs
    · rename_i hc
      simp only [Option.some.injEq] at hs
      subst hs
      have hc' : caps = #[] := by cases caps; simp_all
      refine ⟨.func fn (first.map ρ') #[], by simp [execOp, ho, hc', Instr.makeFunc], ?_⟩
      simp only [VR]
      refine ⟨_, rfl, ?_⟩
      rw [← hf]
      have := VRs.map (g := g) ρ ρ' first.toList (fun x hx => hv x (by simp [ho, Op.operands, hc']; simpa using hx))
      simpa using this
    · cases hs

theorem len_sound {c : Call} (ho : o.op = .call c) (hc : c.callee = .builtin .len) (hs : vLen P T ρ o c.argTypes.toList (c.args.toList.map ρ) = some sv) : Gives P g o ρ' w sv := by
  unfold vLen at hs
  split at hs
  · rename_i b off len own hargs
    split at hs
    · rename_i t ts hts
      split at hs
      · rename_i e he
        have h2 := sliceOf_ok hT he
        have h1 : c.argTypes[0]? = some t := by
          have : c.argTypes.toList[0]? = some t := by rw [hts]; rfl
          simpa using this
        simp only [Option.some.injEq] at hs
        subst hs
        obtain ⟨x, hx, hxx⟩ : ∃ x, c.args = #[x] ∧ ρ x = .sl b off len own := by
          simp only [List.map_eq_cons_iff, List.map_eq_nil_iff] at hargs
          obtain ⟨x, l, h3, h4, h5⟩ := hargs
          subst h5
          exact ⟨x, by rw [← Array.toList_inj, h3], h4⟩
        have hr := hv x (by simp [ho, Op.operands, Call.operands, hx])
        rw [hxx] at hr
        simp only [VR] at hr
        obtain ⟨a, c', hval⟩ : ∃ a c', ρ' x = .slice a len c' := by
          rcases hr.2 with ⟨c', h, _⟩ | ⟨h0, a, c', h, _⟩
          · exact ⟨_, _, h⟩
          · exact ⟨a, c', by rw [h0]; exact h⟩
        refine ⟨.int .i64 len, ?_, by simp [VR]⟩
        simp [execOp, ho, resolve, hc, hx, invoke, builtin, Builtin.len_, h1, hval, run_underlying h2, goInt]
      · cases hs
    · cases hs
  · exact slow_sound hs hv
end


theorem toBytes_spec {g : Gh} : ∀ {l : List SV} {bs : List UInt8} {vs : List Value}, toBytes l = some bs → VRs g l vs → vs = bs.map fun b => .int .u8 b.toNat
  | [], bs, vs, h, hv => by simp only [toBytes, Option.some.injEq] at h; subst h; simpa [VRs] using hv
  | x :: r, bs, vs, h, hv => by
    simp only [toBytes] at h
    simp only [VRs] at hv
    obtain ⟨v, vs', rfl, h1, h2⟩ := hv
    cases hx : toByte x with
    | none => simp [hx] at h
    | some b =>
      cases hr : toBytes r with
      | none => simp [hx, hr] at h
      | some l =>
        simp only [hx, hr, Option.some.injEq] at h
        subst h
        have ih := toBytes_spec hr h2
        subst ih
        unfold toByte at hx
        split at hx
        · rename_i n
          split at hx
          · rename_i m
            split at hx
            · rename_i hm
              simp only [Option.some.injEq] at hx
              subst hx
              simp only [VR] at h1
              subst h1
              have : m < 256 := by simpa using hm
              simp [Nat.mod_eq_of_lt this]
            · cases hx
          · cases hx
        · cases hx

theorem bytes_fold : ∀ (bs : List UInt8) (s : ByteArray), (bs.map fun b => (b.toNat : Int)).foldl (fun r n => r.push (UInt8.ofNat n.toNat)) s = ⟨s.data ++ bs.toArray⟩
  | [], s => by simp
  | b :: r, s => by
    simp only [List.map_cons, List.foldl_cons]
    rw [bytes_fold r]
    simp [ByteArray.push]

theorem liesAt_self {P : Program} {e : TypeId} (hc : P.cellsOf e ≠ 0) (count : Nat) (hn : 1 ≤ count) : liesAt P P.depth e count 0 e 1 = true := by
  have hd : P.depth = (2 * (P.types.size + Made.depth) + 1) + 1 := rfl
  rw [hd]
  simp only [liesAt, Bool.or_eq_true]
  left
  rw [hd]
  simp [rowAt, hc, hn, sameLayout]
theorem cellsOf_info {P : Program} {t : TypeId} {i : TypeInfo} (h : P.info? t = some i) : P.cellsOf t = i.size := by
  simp [Program.cellsOf, h]
theorem unsafe_sound {P : Program} {T : Tab} (hT : TabOk P T) {g : Gh} {h : Heap} {w : World} (hh : HR g h w) {ρ : Operand → SV} {ρ' : Operand → Value} {o : Oper} {sv : SV}
    (hv : ∀ x ∈ o.op.operands, VR g (ρ x) (ρ' x)) {src dst : TypeId} {x : Operand} {b off : Nat} (ho : o.op = .convert src dst x) (hx : ρ x = .ptr b off) (hs : unsafeP T h src dst b off = some sv) : Gives P g o ρ' w sv := by
  have h1 := hv x (by simp [ho, Op.operands])
  have h1' := h1
  rw [hx] at h1
  simp only [VR] at h1
  unfold unsafeP at hs
  split at hs
  · rename_i cs el hg
    obtain ⟨hb, hor⟩ := hh b _ hg
    split at hs
    · rename_i t hsrc
      split at hs
      · rename_i hdst
        split at hs
        · rename_i n hn
          split at hs
          · rename_i hlt
            simp only [Option.some.injEq] at hs
            subst hs
            have hlt' : off < cs.length := by simpa using hlt
            obtain ⟨cur, e, fr, hw, hcr, hκ, hwr⟩ := hor.real (by rintro rfl; simp at hlt')
            obtain ⟨hω, hfr, hel⟩ := hwr rfl (Nat.succ_ne_zero _)
            obtain ⟨v, hv1, _⟩ := hcr off _ (List.getElem?_eq_getElem hlt')
            have hoff : g.ω b + off < cur.size := (Array.getElem?_eq_some_iff.1 hv1).1
            obtain ⟨j, hj, hsz⟩ := sizeOf_ok hT hn
            refine ⟨ρ' x, ?_, by rw [hx] at h1'; exact h1'⟩
            have := Lib.run_to_unsafe (P := P) w (src := src) (dst := dst) (j := j) (e := e) (cells := cur.size) ⟨g.σ b, g.ω b + off, none⟩ (ptrOf_ok hT hsrc) (uptr_ok hT hdst) hj (by omega) (by simp [World.shape?, hw]) hoff
            simp [execOp, ho, h1.2, this]
          · cases hs
        · cases hs
      · cases hs
    · rename_i hsrc
      split at hs
      · rename_i u hdst
        split at hs
        · rename_i hue
          simp only [Bool.and_eq_true, nbeq, beq_iff_eq] at hue
          obtain ⟨rfl, rfl⟩ := hue
          split at hs
          · rename_i n hn
            split at hs
            · rename_i hlt
              simp only [Option.some.injEq] at hs
              subst hs
              have hlt' : n + 1 ≤ cs.length := by simpa using hlt
              obtain ⟨cur, e, fr, hw, hcr, hκ, hwr⟩ := hor.real (by rintro rfl; simp at hlt')
              obtain ⟨hω, hfr, hel⟩ := hwr rfl (Nat.succ_ne_zero _)
              subst hel
              obtain ⟨v, hv1, _⟩ := hcr n _ (List.getElem?_eq_getElem (by omega))
              have hoff : g.ω b + n < cur.size := (Array.getElem?_eq_some_iff.1 hv1).1
              obtain ⟨j, hj, hsz⟩ := sizeOf_ok hT hn
              have hcell : P.cellsOf (el + 1) = n + 1 := by rw [cellsOf_info hj, hsz]
              refine ⟨ρ' x, ?_, by rw [hx] at h1'; exact h1'⟩
              have := Lib.run_from_unsafe (P := P) w (src := src) (dst := dst) (u := el + 1) (j := j) (e := el + 1) (cells := cur.size) ⟨g.σ b, g.ω b + 0, none⟩ (uptr_ok hT hsrc) (ptrOf_ok hT hdst) hj (by simp [World.shape?, hw]) (by
                simp only [hω, Nat.add_zero]
                refine liesAt_self (by omega) _ ?_
                rw [hcell]
                exact (Nat.le_div_iff_mul_le (by omega)).2 (by omega))
              have h12 := h1.2
              rw [Nat.add_zero] at this h12
              simp [execOp, ho, h12, this]
            · cases hs
          · cases hs
        · cases hs
      · cases hs
    · cases hs
  · cases hs
theorem convert_sound {P : Program} {T : Tab} (hT : TabOk P T) {g : Gh} {h : Heap} {w : World} (hh : HR g h w) {ρ : Operand → SV} {ρ' : Operand → Value} {o : Oper} {sv : SV}
    (hv : ∀ x ∈ o.op.operands, VR g (ρ x) (ρ' x)) {src dst : TypeId} {x : Operand} (ho : o.op = .convert src dst x) (hs : vConvert P T h ρ o src dst (ρ x) = some sv) : Gives P g o ρ' w sv := by
  have h1 := hv x (by simp [ho, Op.operands])
  unfold vConvert at hs
  split at hs
  · rename_i b off hc
    exact unsafe_sound hT hh hv ho hc hs
  · rename_i b off len own hc
    rw [hc] at h1
    simp only [VR] at h1
    split at hs
    · rename_i hty
      unfold bytesT at hty
      split at hty
      · rename_i e he
        have hu1 := sliceOf_ok hT he
        split at hty
        · rename_i h8
          have hu3 := isU8_ok hT h8
          have hu2 := isStr_ok hT hty
          unfold strOf at hs
          split at hs
          · rename_i cs hcs
            unfold cellsOf? at hcs
            split at hcs
            · rename_i cs' wr el' hg
              simp only [Option.some.injEq] at hcs
              subst hcs
              obtain ⟨hb, hor⟩ := hh b _ hg
              split at hs
              · rename_i l hl
                obtain ⟨vs, hlen, hvs, hcell⟩ := hor.cut hl
                split at hs
                · rename_i bs hbs
                  simp only [Option.some.injEq] at hs
                  subst hs
                  have hvb := toBytes_spec hbs hvs
                  subst hvb
                  refine ⟨.string ⟨bs.toArray⟩, ?_, by simp [VR]⟩
                  have hconv : (Conv.bytesToString (ρ' x)).run P w = .ok (.string ⟨bs.toArray⟩) w := by
                    rcases h1.2 with ⟨c, hx, _, _⟩ | ⟨h0, a, c, hx, _⟩
                    · have hrl := run_loadCells_list (P := P) w ⟨g.σ b, g.ω b + off, none⟩ (bs.map fun b => Value.int .u8 b.toNat) (fun j v hj => by
                        rw [add_of]
                        exact (hcell j v hj).1)
                      rw [hlen] at hrl
                      have hrun := run_bytesToString (P := P) w ⟨g.σ b, g.ω b + off, none⟩ len c (bs.map fun b => (b.toNat : Int)) (by rw [List.map_map]; exact hrl)
                      rw [bytes_fold] at hrun
                      rw [hx, hrun]
                      simp
                    · have hb0 : bs = [] := by
                        have : bs.length = 0 := by simpa [h0] using hlen
                        exact List.eq_nil_of_length_eq_zero this
                      subst hb0
                      rw [hx]
                      cases a with
                      | none => simp [Conv.bytesToString]; rfl
                      | some ad =>
                        simp [Conv.bytesToString, loadCells, loadCellsFrom]
                        rfl
                  obtain ⟨a, c, hx⟩ : ∃ a c, ρ' x = .slice a len c := by
                    rcases h1.2 with ⟨c', h, _⟩ | ⟨h0, a, c', h, _⟩
                    · exact ⟨_, _, h⟩
                    · exact ⟨a, c', by rw [h0]; exact h⟩
                  rw [hx] at hconv
                  simp [execOp, ho, hx, convert, run_underlying hu1, run_underlying hu2, run_underlying hu3, hconv]
                · cases hs
              · cases hs
            · cases hcs
          · cases hs
        · cases hty
      · cases hty
    · cases hs
  · exact slow_sound hs hv
  · cases hs

end
end Go.Sx
