/- The abstract evaluator: what a step leaves as it was (debts ahead, elder blocks), without the machine. -/
import Derived.Test.YtjmcholbjjgelaaDoorSxEff5
namespace Go.Sx
noncomputable section
set_option linter.unusedVariables false

theorem Me.new_wm (m : Me) (o : AObj) : (m.new o).wm = m.wm := by cases m; rfl
theorem Me.put_wm (m : Me) (b : Nat) (o : AObj) : (m.put b o).wm = min m.wm b := by cases m; rfl
theorem Me.del_wm (m : Me) (b : Nat) : (m.del b).wm = min m.wm b := by cases m; rfl
theorem Me.need_wm (m : Me) (hs : List Hint) (p : Prop) : (m.need hs p).wm = m.wm := by cases m; rfl
theorem Me.setWm_wm (m : Me) (x : Nat) : (m.setWm x).wm = x := by cases m; rfl

structure Fine (m m' : Me) : Prop where
  mo : AllP m'.vc → AllP m.vc
  nx : m.nx ≤ m'.nx
  wm : m'.wm ≤ m.wm
  quiet : ∀ b, b < m'.wm → b < m.nx → m'.h.get b = m.h.get b
  wr : ∀ b o, m'.h.get b = some o → m.h.get b = some o ∨ o.wrB = true
theorem Fine.refl (m : Me) : Fine m m := ⟨id, Nat.le_refl _, Nat.le_refl _, fun _ _ _ => rfl, fun _ _ h => .inl h⟩
theorem Fine.trans {a b c : Me} (h : Fine a b) (k : Fine b c) : Fine a c :=
  ⟨fun x => h.mo (k.mo x), Nat.le_trans h.nx k.nx, Nat.le_trans k.wm h.wm, fun x hx hn => (k.quiet x hx (Nat.lt_of_lt_of_le hn h.nx)).trans (h.quiet x (Nat.lt_of_lt_of_le hx k.wm) hn),
    fun x o ho => (k.wr x o ho).elim (h.wr x o) .inr⟩
theorem Fine.new (m : Me) (o : AObj) (hw : o.wrB = true := by rfl) : Fine m (m.new o) :=
  ⟨by rw [Me.new_vc]; exact id, by rw [Me.new_nx]; omega, by rw [Me.new_wm]; exact Nat.le_refl _, fun b _ hb => by rw [Me.new_h, Tr.get_put, if_neg (by omega)], fun b o' ho => by
    rw [Me.new_h, Tr.get_put] at ho
    by_cases e : b = m.nx
    · rw [if_pos e] at ho; cases ho; exact .inr hw
    · rw [if_neg e] at ho; exact .inl ho⟩
theorem Fine.put (m : Me) (b : Nat) (o : AObj) (hw : o.wrB = true := by rfl) : Fine m (m.put b o) :=
  ⟨by rw [Me.put_vc]; exact id, by rw [Me.put_nx]; omega, by rw [Me.put_wm]; exact Nat.min_le_left _ _, fun c hc _ => by
    rw [Me.put_wm] at hc
    rw [Me.put_h, Tr.get_put, if_neg (by omega)], fun c o' ho => by
    rw [Me.put_h, Tr.get_put] at ho
    by_cases e : c = b
    · rw [if_pos e] at ho; cases ho; exact .inr hw
    · rw [if_neg e] at ho; exact .inl ho⟩
theorem Fine.del (m : Me) (b : Nat) : Fine m (m.del b) :=
  ⟨by rw [Me.del_vc]; exact id, by rw [Me.del_nx]; omega, by rw [Me.del_wm]; exact Nat.min_le_left _ _, fun c hc _ => by
    rw [Me.del_wm] at hc
    rw [Me.del_h, Tr.get_del, if_neg (by omega)], fun c o' ho => by
    rw [Me.del_h, Tr.get_del] at ho
    by_cases e : c = b
    · rw [if_pos e] at ho; cases ho
    · rw [if_neg e] at ho; exact .inl ho⟩
theorem Fine.setHs (m : Me) (hs : List Hint) : Fine m (m.setHs hs) := by
  cases m
  exact ⟨id, Nat.le_refl _, Nat.le_refl _, fun _ _ _ => rfl, fun _ _ h => .inl h⟩
theorem Fine.need (m : Me) (hs : List Hint) (p : Prop) : Fine m (m.need hs p) :=
  ⟨by rw [Me.need_vc]; exact fun h => h.2, by rw [Me.need_nx]; omega, by rw [Me.need_wm]; exact Nat.le_refl _, fun c _ _ => by rw [Me.need_h], fun c o ho => by rw [Me.need_h] at ho; exact .inl ho⟩
/-- debts only -/
structure Owes (m m' : Me) : Prop where
  mo : AllP m'.vc → AllP m.vc
  h : m'.h = m.h
  nx : m'.nx = m.nx
  wm : m'.wm = m.wm
theorem Owes.fine {m m' : Me} (h : Owes m m') : Fine m m' := ⟨h.mo, by rw [h.nx]; exact Nat.le_refl _, by rw [h.wm]; exact Nat.le_refl _, fun _ _ _ => by rw [h.h], fun _ _ ho => by rw [h.h] at ho; exact .inl ho⟩
theorem Owes.trans {a b c : Me} (h : Owes a b) (k : Owes b c) : Owes a c := ⟨fun x => h.mo (k.mo x), k.h.trans h.h, k.nx.trans h.nx, k.wm.trans h.wm⟩
theorem Owes.need (m : Me) (hs : List Hint) (p : Prop) : Owes m (m.need hs p) := ⟨by rw [Me.need_vc]; exact fun h => h.2, Me.need_h _ _ _, Me.need_nx _ _ _, Me.need_wm _ _ _⟩
theorem Owes.refl (m : Me) : Owes m m := ⟨id, rfl, rfl, rfl⟩
theorem check_owes {r i : Nat} {c : Bool} {m m' : Me} (h : check r i c m = some m') : Owes m m' := by
  unfold check at h
  split at h
  · simp only [Option.some.injEq] at h
    subst h
    exact Owes.need _ _ _
  · split at h
    · simp only [Option.some.injEq] at h
      subst h
      exact Owes.refl _
    · cases h
theorem recell_owes {r i : Nat} {cs cs' : List SV} {m m' : Me} (h : recell r i cs m = (cs', m')) : Owes m m' := by
  unfold recell at h
  split at h
  · simp only [Prod.mk.injEq] at h
    obtain ⟨rfl, rfl⟩ := h
    exact Owes.need _ _ _
  · simp only [Prod.mk.injEq] at h
    obtain ⟨rfl, rfl⟩ := h
    exact Owes.refl _

/-- A step that turns at most one elder block. -/
def Turn1 (m m' : Me) (tn : Option Nat) : Prop := Fine m m' ∧ ∀ b, b < m.nx → tn ≠ some b → m'.h.get b = m.h.get b
theorem Turn1.of_new (m : Me) (o : AObj) (tn : Option Nat) (hw : o.wrB = true := by rfl) : Turn1 m (m.new o) tn := ⟨Fine.new m o hw, fun b hb _ => by rw [Me.new_h, Tr.get_put, if_neg (by omega)]⟩
theorem Turn1.of_put (m : Me) (b : Nat) (o : AObj) (hw : o.wrB = true := by rfl) : Turn1 m (m.put b o) (some b) := ⟨Fine.put m b o hw, fun c hc hne => by rw [Me.put_h, Tr.get_put, if_neg (by rintro rfl; exact hne rfl)]⟩
theorem Turn1.of_del (m : Me) (b : Nat) : Turn1 m (m.del b) (some b) := ⟨Fine.del m b, fun c hc hne => by rw [Me.del_h, Tr.get_del, if_neg (by rintro rfl; exact hne rfl)]⟩
theorem Turn1.of_owes {m m' : Me} (h : Owes m m') (tn : Option Nat) : Turn1 m m' tn := ⟨h.fine, fun b _ _ => by rw [h.h]⟩
theorem Turn1.trans {a b c : Me} {tn : Option Nat} (h : Turn1 a b tn) (k : Turn1 b c tn) : Turn1 a c tn :=
  ⟨h.1.trans k.1, fun x hx hne => (k.2 x (Nat.lt_of_lt_of_le hx h.1.nx) hne).trans (h.2 x hx hne)⟩
theorem Turn1.refl (m : Me) (tn : Option Nat) : Turn1 m m tn := ⟨Fine.refl m, fun _ _ _ => rfl⟩
theorem Turn1.of_delRow (m : Me) (b : Option Nat) : Turn1 m (delRow b m) b := by
  cases b with
  | none => exact Turn1.refl _ _
  | some b => exact Turn1.of_del m b

theorem alloc_turn {T : Tab} {t : TypeId} {m m' : Me} {sv : SV} (h : eAlloc T t m = some (sv, m')) (tn : Option Nat) : Turn1 m m' tn := by
  unfold eAlloc at h
  split at h
  · simp only [Option.some.injEq, Prod.mk.injEq] at h
    obtain ⟨_, rfl⟩ := h
    exact Turn1.of_new _ _ _
  · cases h
theorem box_turn {t : TypeId} {x : SV} {m m' : Me} {sv : SV} (h : eBox t x m = some (sv, m')) (tn : Option Nat) : Turn1 m m' tn := by
  unfold eBox at h
  split at h
  · simp only [Option.some.injEq, Prod.mk.injEq] at h
    obtain ⟨_, rfl⟩ := h
    exact Turn1.of_new _ _ _
  · cases h
theorem buildSlice_turn {T : Tab} {t : TypeId} {len : Nat} {ps : List (Nat × SV)} {m m' : Me} {sv : SV} (h : eBuildSlice T t len ps m = some (sv, m')) (tn : Option Nat) : Turn1 m m' tn := by
  unfold eBuildSlice at h
  split at h
  · unfold buildAt at h
    split at h
    · split at h
      · split at h
        · simp only [Option.some.injEq, Prod.mk.injEq] at h
          obtain ⟨_, rfl⟩ := h
          exact Turn1.of_new _ _ _
        · cases h
      · cases h
    · cases h
  · cases h
theorem makeSlice_turn {T : Tab} {r i : Nat} {t : TypeId} {l c : Option Int} {m m' : Me} {sv : SV} (h : eMakeSlice T r i t l c m = some (sv, m')) (tn : Option Nat) : Turn1 m m' tn := by
  unfold eMakeSlice at h
  split at h
  · split at h
    · split at h
      · split at h
        · unfold makeAt at h
          split at h
          · split at h
            · rename_i hck
              split at h
              rename_i hrc
              simp only [Option.some.injEq, Prod.mk.injEq] at h
              obtain ⟨_, rfl⟩ := h
              exact ((Turn1.of_owes (check_owes hck) tn).trans (Turn1.of_owes (recell_owes hrc) tn)).trans (Turn1.of_new _ _ _)
            · cases h
          · cases h
        · cases h
      · cases h
    · cases h
  · cases h
theorem makeAt_turn {T : Tab} {r i n : Nat} {e : TypeId} {m m' : Me} {sv : SV} (h : makeAt T r i n e m = some (sv, m')) (tn : Option Nat) : Turn1 m m' tn := by
  unfold makeAt at h
  split at h
  · split at h
    · rename_i hck
      split at h
      rename_i hrc
      simp only [Option.some.injEq, Prod.mk.injEq] at h
      obtain ⟨_, rfl⟩ := h
      exact ((Turn1.of_owes (check_owes hck) tn).trans (Turn1.of_owes (recell_owes hrc) tn)).trans (Turn1.of_new _ _ _)
    · cases h
  · cases h
theorem makeSliceH_turn {T : Tab} {r i : Nat} {t : TypeId} {l c : Option Int} {m m' : Me} {sv : SV} (h : eMakeSliceH T r i t l c m = some (sv, m')) (tn : Option Nat) : Turn1 m m' tn := by
  unfold eMakeSliceH at h
  split at h
  · split at h
    · exact (Turn1.of_owes (Owes.need _ _ _) tn).trans (makeAt_turn h tn)
    · cases h
  · exact makeSlice_turn h tn
theorem store_turn {T : Tab} {r i : Nat} {t : TypeId} {a x : SV} {m m' : Me} {sv : SV} (h : eStore T r i t a x m = some (sv, m')) : ∃ b off, a = .ptr b off ∧ Turn1 m m' (some b) := by
  unfold eStore at h
  split at h
  · rename_i b off
    refine ⟨b, off, rfl, ?_⟩
    split at h
    · split at h
      · split at h
        · unfold eStoreAt at h
          split at h
          · split at h
            · rename_i hck
              unfold stored at h
              split at h
              rename_i hrc
              simp only [Option.some.injEq, Prod.mk.injEq] at h
              obtain ⟨_, rfl⟩ := h
              exact ((Turn1.of_owes (check_owes hck) _).trans (Turn1.of_owes (recell_owes hrc) _)).trans (Turn1.of_put _ _ _)
            · cases h
          · cases h
        · cases h
      · cases h
    · cases h
  · cases h
theorem onto_turn {h : Heap} {sz : Nat} {e : TypeId} {s : SV} {old : List SV} {n : Nat} {b : Option Nat} (hs : ontoS h sz e s = some (old, n, b)) : b = none ∨ ∃ b' off len own, s = .sl b' off len own ∧ b = some b' := by
  unfold ontoS at hs
  split at hs
  · simp only [Option.some.injEq, Prod.mk.injEq] at hs
    exact .inl hs.2.2.symm
  · rename_i b0 n0 sz'
    split at hs
    · split at hs
      · split at hs
        · split at hs
          · simp only [Option.some.injEq, Prod.mk.injEq] at hs
            exact .inr ⟨_, _, _, _, rfl, hs.2.2.symm⟩
          · cases hs
        · cases hs
      · cases hs
    · cases hs
  · cases hs
def rowOf : List SV → Option Nat
  | s :: _ => (match s with | .sl b _ _ _ => some b | .dat b _ _ => some b | _ => none)
  | [] => none
theorem appendStr_turn {T : Tab} {r i : Nat} {t : TypeId} {x y : SV} {m m' : Me} {sv : SV} (h : eAppendStr T r i t x y m = some (sv, m')) : Turn1 m m' (rowOf [x, y]) := by
  unfold eAppendStr at h
  split at h
  · split at h
    · split at h
      · split at h
        · rename_i old n b hon
          split at h
          · unfold appendedStr at h
            split at h
            · rename_i hck
              split at h
              rename_i hrc
              simp only [Option.some.injEq, Prod.mk.injEq] at h
              obtain ⟨_, rfl⟩ := h
              refine (((Turn1.of_owes (check_owes hck) _).trans (Turn1.of_owes (recell_owes hrc) _)).trans ?_).trans (Turn1.of_new _ _ _)
              rcases onto_turn hon with rfl | ⟨b', off, len, own, rfl, rfl⟩
              · exact Turn1.refl _ _
              · exact Turn1.of_del _ _
            · cases h
          · cases h
        · cases h
      · cases h
    · cases h
  · cases h
theorem ontoB_turn {s : SV} {n : Nat} {b : Option Nat} (hs : ontoB s = some (n, b)) : b = none ∨ ∃ b' off len own, s = .sl b' off len own ∧ b = some b' := by
  unfold ontoB at hs
  split at hs
  · simp only [Option.some.injEq, Prod.mk.injEq] at hs
    exact .inl hs.2.symm
  · simp only [Option.some.injEq, Prod.mk.injEq] at hs
    exact .inr ⟨_, _, _, _, rfl, hs.2.symm⟩
  · cases hs
theorem append2_turn {r i sz bytes : Nat} {e : TypeId} {s x : SV} {m m' : Me} {sv : SV} (h : eAppend2 r i sz bytes e s x m = some (sv, m')) :
    ∃ n b old new k mm, Owes m mm ∧ (b = none ∨ ∃ b' off len own, s = .sl b' off len own ∧ b = some b') ∧ appended r i sz bytes e old new n k b mm = some (sv, m') := by
  unfold eAppend2 at h
  split at h
  · split at h
    · rename_i n b hb
      split at h
      · split at h
        · exact ⟨_, _, _, _, _, _, Owes.need _ _ _, ontoB_turn hb, h⟩
        · cases h
      · cases h
    · cases h
  · split at h
    · rename_i old n b hon
      split at h
      · split at h
        · exact ⟨_, _, _, _, _, _, Owes.refl _, onto_turn hon, h⟩
        · cases h
      · cases h
    · cases h
theorem append_turn {T : Tab} {r i : Nat} {ts : List TypeId} {args : List SV} {m m' : Me} {sv : SV} (h : eAppend T r i ts args m = some (sv, m')) :
    Turn1 m m' (rowOf args) := by
  unfold eAppend at h
  split at h
  · split at h
    · split at h
      · rename_i s x
        unfold eAppend0 at h
        split at h
        · unfold eAppend1 at h
          split at h
          · split at h
            · obtain ⟨n, b, old, new, k, mm, how, hb, h⟩ := append2_turn h
              unfold appended at h
              split at h
              · rename_i hck
                split at h
                rename_i hrc
                simp only [Option.some.injEq, Prod.mk.injEq] at h
                obtain ⟨_, rfl⟩ := h
                refine ((((Turn1.of_owes how _).trans (Turn1.of_owes (check_owes hck) _)).trans (Turn1.of_owes (recell_owes hrc) _)).trans ?_).trans (Turn1.of_new _ _ _)
                rcases hb with rfl | ⟨b', off, len, own, rfl, rfl⟩
                · exact Turn1.refl _ _
                · exact Turn1.of_del _ _
              · cases h
            · cases h
          · cases h
        · split at h
          · split at h
            · split at h
              · simp only [Option.some.injEq, Prod.mk.injEq] at h
                obtain ⟨_, rfl⟩ := h
                exact Turn1.refl _ _
              · simp only [Option.some.injEq, Prod.mk.injEq] at h
                obtain ⟨_, rfl⟩ := h
                exact Turn1.refl _ _
              · cases h
            · cases h
          · cases h
      · cases h
    · split at h
      · split at h
        · exact appendStr_turn h
        · cases h
      · cases h
  · cases h

theorem strHint_owes {r i : Nat} {h : Heap} {b off len : Nat} {m m' : Me} {sv : SV} (hs : strHint r i h b off len m = some (sv, m')) : Owes m m' := by
  unfold strHint at hs
  split at hs
  · simp only [Option.some.injEq, Prod.mk.injEq] at hs
    obtain ⟨_, rfl⟩ := hs
    exact Owes.need _ _ _
  · split at hs
    · simp only [Option.some.injEq, Prod.mk.injEq] at hs
      obtain ⟨_, rfl⟩ := hs
      exact Owes.refl _
    · cases hs
theorem sliceData_turn {T : Tab} {ty : TypeId} {args : List SV} {m m' : Me} {sv : SV} (h : eSliceData T ty args m = some (sv, m')) (tn : Option Nat) : Turn1 m m' tn := by
  unfold eSliceData at h
  split at h
  · split at h
    · split at h
      · simp only [Option.some.injEq, Prod.mk.injEq] at h
        obtain ⟨_, rfl⟩ := h
        exact Turn1.refl _ _
      · cases h
    · cases h
  · simp only [Option.some.injEq, Prod.mk.injEq] at h
    obtain ⟨_, rfl⟩ := h
    exact Turn1.refl _ _
  · cases h
theorem unsafeString_turn {T : Tab} {r i : Nat} {ts : List TypeId} {args : List SV} {m m' : Me} {sv : SV} (h : eUnsafeString T r i ts args m = some (sv, m')) : Turn1 m m' (rowOf args) := by
  unfold eUnsafeString at h
  split at h
  · split at h
    · split at h
      · split at h
        · split at h
          · split at h
            · rename_i hck
              split at h
              · rename_i hst
                simp only [Option.some.injEq, Prod.mk.injEq] at h
                obtain ⟨_, rfl⟩ := h
                exact ((Turn1.of_owes (check_owes hck) _).trans (Turn1.of_owes (strHint_owes hst) _)).trans (Turn1.of_del _ _)
              · cases h
            · cases h
          · cases h
        · cases h
      · cases h
    · cases h
  · split at h
    · simp only [Option.some.injEq, Prod.mk.injEq] at h
      obtain ⟨_, rfl⟩ := h
      exact Turn1.refl _ _
    · cases h
  · cases h
theorem makeMap_turn {rs : Option Operand} {m m' : Me} {sv : SV} (h : eMakeMap rs m = some (sv, m')) (tn : Option Nat) : Turn1 m m' tn := by
  unfold eMakeMap at h
  split at h
  · simp only [Option.some.injEq, Prod.mk.injEq] at h
    obtain ⟨_, rfl⟩ := h
    exact Turn1.of_new _ _ _
  · cases h
theorem strBytes_turn {T : Tab} {src dst : TypeId} {x : SV} {m m' : Me} {sv : SV} (h : eStrBytes T src dst x m = some (sv, m')) (tn : Option Nat) : Turn1 m m' tn := by
  unfold eStrBytes at h
  split at h
  · split at h
    · split at h
      · split at h
        · simp only [Option.some.injEq, Prod.mk.injEq] at h
          obtain ⟨_, rfl⟩ := h
          exact Turn1.of_new _ _ _
        · cases h
      · cases h
    · cases h
  · cases h
theorem insert_turn {T : Tab} {t : TypeId} {mp k v : SV} {m m' : Me} {sv : SV} (h : eInsert T t mp k v m = some (sv, m')) : ∃ b, mp = .mp b ∧ Turn1 m m' (some b) := by
  unfold eInsert at h
  split at h
  · rename_i b
    refine ⟨b, rfl, ?_⟩
    split at h
    · split at h
      · split at h
        · split at h
          · split at h
            · split at h
              · simp only [Option.some.injEq, Prod.mk.injEq] at h
                obtain ⟨_, rfl⟩ := h
                exact Turn1.of_put _ _ _
              · cases h
            · cases h
          · cases h
        · cases h
      · cases h
    · cases h
  · cases h

def FineCall (cf : CallF) : Prop := ∀ f args m sv m', cf f args m = some (sv, m') → Fine m m'

/-- an operation that turns memory -/
theorem eff_turn {T : Tab} {cf : CallF} (hc : FineCall cf) {r i : Nat} {ρ : Operand → SV} {o : Oper} {m m' : Me} {sv : SV} (h : effOp T cf r i ρ o m = some (sv, m')) :
    Fine m m' ∧ (isCall o = false → Turn1 m m' (turnOf ρ o)) := by
  unfold effOp at h
  split at h
  · have := alloc_turn h (turnOf ρ o); exact ⟨this.1, fun _ => this⟩
  · have := box_turn h (turnOf ρ o); exact ⟨this.1, fun _ => this⟩
  · rename_i t a x ho
    obtain ⟨b, off, ha, ht⟩ := store_turn h
    have : turnOf ρ o = some b := by simp only [turnOf, ho, ha]
    rw [this]
    exact ⟨ht.1, fun _ => ht⟩
  · have := buildSlice_turn h (turnOf ρ o); exact ⟨this.1, fun _ => this⟩
  · have := makeSliceH_turn h (turnOf ρ o); exact ⟨this.1, fun _ => this⟩
  · rename_i c ho
    unfold eCall at h
    split at h
    · rename_i b hb
      have this : turnOf ρ o = rowOf (c.args.toList.map ρ) := by
        simp only [turnOf, ho, hb]
        cases hcl : c.args.toList with
        | nil => rfl
        | cons x l => rfl
      have ht : Turn1 m m' (turnOf ρ o) := by
        unfold eBuiltin at h
        split at h
        · rw [this]; exact append_turn h
        · exact sliceData_turn h _
        · rw [this]; exact unsafeString_turn h
        · cases h
      exact ⟨ht.1, fun _ => ht⟩
    · rename_i f hf
      have hfine : Fine m m' := by
        unfold eCallTo at h
        split at h
        · exact hc _ _ _ _ _ h
        · cases h
      exact ⟨hfine, fun hcall => by simp [isCall, ho, hf] at hcall⟩
    · cases h
  · have := makeMap_turn h (turnOf ρ o); exact ⟨this.1, fun _ => this⟩
  · rename_i t mp k v ho
    obtain ⟨b, hb, ht⟩ := insert_turn h
    have : turnOf ρ o = some b := by simp only [turnOf, ho, hb]
    rw [this]
    exact ⟨ht.1, fun _ => ht⟩
  · have := strBytes_turn h (turnOf ρ o); exact ⟨this.1, fun _ => this⟩
  · cases h

theorem val_owes {P : Program} {T : Tab} {r i : Nat} {o : Oper} {f : Fra} {m m' : Me} {sv : SV} (h : evVal P T r i o f m = some (sv, m')) :
    Owes m m' ∧ (AllP m'.vc → valOp P T m.h (evO f) o = some sv) := by
  unfold evVal at h
  split at h
  · simp only [Option.some.injEq, Prod.mk.injEq] at h
    obtain ⟨rfl, rfl⟩ := h
    exact ⟨Owes.need _ _ _, fun hv => by rw [Me.need_vc] at hv; exact owe_spec hv.1⟩
  · split at h
    · rename_i v hv
      simp only [Option.some.injEq, Prod.mk.injEq] at h
      obtain ⟨rfl, rfl⟩ := h
      exact ⟨Owes.refl _, fun _ => hv⟩
    · cases h

theorem guarded_fine {P : Program} {T : Tab} {cf : CallF} (hc : FineCall cf) {r i : Nat} {ops : List Oper} {o : Oper} {f : Fra} {m m' : Me} {sv : SV} (h : evGuarded P T cf r ops i o f m = some (sv, m')) : Fine m m' := by
  unfold evGuarded at h
  split at h
  · unfold evOp at h
    split at h
    · exact (eff_turn hc h).1
    · exact (val_owes h).1.fine
  · simp only [Option.some.injEq, Prod.mk.injEq] at h
    obtain ⟨_, rfl⟩ := h
    exact Fine.refl _
  · cases h

end
end Go.Sx
