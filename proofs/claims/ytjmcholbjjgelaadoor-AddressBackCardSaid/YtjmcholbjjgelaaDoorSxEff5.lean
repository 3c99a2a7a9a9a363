/- The abstract evaluator: bytes read as a string in place; maps that are made. -/
import Derived.Test.YtjmcholbjjgelaaDoorSxEff4
import Derived.Lib.ConvBytes
import Derived.Lib.UnsafeStr
import Derived.RangeFuncRecord
namespace Go.Sx
noncomputable section
set_option linter.unusedVariables false
open Go.RowKit

theorem MRel.less {g : Gh} {w0 : World} {F : Nat → Prop} {m m' : Me} {w : World} (h : MRel g w0 F m w) (hh : ∀ b o, m'.h.get b = some o → m.h.get b = some o) (hn : m'.nx = m.nx) : MRel g w0 F m' w :=
  ⟨by rw [hn]; exact h.n, by rw [hn]; exact h.even, fun b o ho => h.heap b o (hh b o ho), fun b b' o o' h1 h2 h3 => h.inj b b' o o' (hh b o h1) h2 (hh b' o' h3), fun b o h1 => h.frame b o (hh b o h1), h.keep, h.os, h.tape, h.output, h.size, h.glob⟩
theorem MRel.del {g : Gh} {w0 : World} {F : Nat → Prop} {m : Me} {w : World} (h : MRel g w0 F m w) (b : Nat) : MRel g w0 F (m.del b) w :=
  h.less (fun b' o ho => by
    rw [Me.del_h, Tr.get_del] at ho
    by_cases e : b' = b
    · rw [if_pos e] at ho; cases ho
    · rw [if_neg e] at ho; exact ho) (Me.del_nx m b)
theorem strOf_spec {h : Heap} {b off len : Nat} {sv : SV} (hs : strOf h b off len = some sv) :
    ∃ cs wr el l bs, h.get b = some (.cells cs wr el) ∧ cutAt len off cs = some l ∧ toBytes l = some bs ∧ sv = .pl (.string ⟨bs.toArray⟩) := by
  unfold strOf at hs
  split at hs
  · rename_i cs hcs
    unfold cellsOf? at hcs
    split at hcs
    · rename_i cs' wr el hg
      simp only [Option.some.injEq] at hcs
      subst hcs
      split at hs
      · rename_i l hl
        split at hs
        · rename_i bs hbs
          simp only [Option.some.injEq] at hs
          exact ⟨_, _, _, _, _, hg, hl, hbs, hs.symm⟩
        · cases hs
      · cases hs
    · cases hcs
  · cases hs
theorem strHint_spec {r i : Nat} {h : Heap} {b off len : Nat} {m m' : Me} {sv : SV} (hs : strHint r i h b off len m = some (sv, m')) : (AllP m'.vc → strOf h b off len = some sv ∧ AllP m.vc) ∧ m'.h = m.h ∧ m'.nx = m.nx := by
  unfold strHint at hs
  split at hs
  · simp only [Option.some.injEq, Prod.mk.injEq] at hs
    obtain ⟨rfl, rfl⟩ := hs
    exact ⟨fun hp => by rw [Me.need_vc] at hp; exact ⟨strP_spec hp.1, hp.2⟩, Me.need_h _ _ _, Me.need_nx _ _ _⟩
  · split at hs
    · rename_i v hv
      simp only [Option.some.injEq, Prod.mk.injEq] at hs
      obtain ⟨rfl, rfl⟩ := hs
      exact ⟨fun hp => ⟨hv, hp⟩, rfl, rfl⟩
    · cases hs
theorem near_freeze (w : World) (b o n : Nat) : Near w (w.freeze ⟨b, o, none⟩ n) (some b) := by
  unfold World.freeze
  split
  · exact ⟨rfl, rfl, rfl, Nat.le_refl _, fun _ _ _ => rfl⟩
  · refine ⟨rfl, rfl, rfl, by simp, fun k hk hne => ?_⟩
    show (w.heap.modify b _)[k]? = w.heap[k]?
    rw [Array.getElem?_modify, if_neg (fun e => hne (by rw [e]))]
theorem near_putObj (w : World) (b : Nat) (o : Obj) : Near w (w.putObj b o) (some b) :=
  ⟨rfl, rfl, rfl, by simp, fun k hk hne => World.putObj_heap_other (fun e => hne (by rw [e]))⟩

section
variable {P : Program} {T : Tab} (hT : TabOk P T) {g : Gh} {w0 : World} {F : Nat → Prop} {m m' : Me} {w : World} (hm : MRel g w0 F m w) {ρ : Operand → SV} {ρ' : Operand → Value} {o : Oper} {sv : SV}
  (hv : ∀ x ∈ o.op.operands, VR g (ρ x) (ρ' x))
include hT hm hv

theorem sliceData_sound {c : Call} (ho : o.op = .call c) (hc : c.callee = .builtin .unsafeSliceData) (hs : eSliceData T o.type (c.args.toList.map ρ) m = some (sv, m')) :
    Steps1 P g w0 F o ρ' w m' sv ∧ m' = m := by
  have harg : ∀ s, c.args.toList.map ρ = [s] → ∃ a, c.args = #[a] ∧ ρ a = s ∧ VR g s (ρ' a) := fun s hargs => by
    simp only [List.map_eq_cons_iff, List.map_eq_nil_iff] at hargs
    obtain ⟨a, l, h3, h4, h5⟩ := hargs
    subst h5
    have hca : c.args = #[a] := by rw [← Array.toList_inj, h3]
    exact ⟨a, hca, h4, by rw [← h4]; exact hv a (by simp [ho, Op.operands, Call.operands, hca])⟩
  have hexec : ∀ a v w', c.args = #[a] → (Builtin.unsafeSliceData_ c.argTypes o.type #[ρ' a]).run P w = .ok v w' → (execOp ρ' o).run P w = .ok (.value v) w' := fun a v w' hca h => by
    simp [execOp, ho, resolve, hc, hca, invoke, builtin, h]
  unfold eSliceData at hs
  split at hs
  · rename_i b off len e hargs
    obtain ⟨a, hca, _, hr⟩ := harg _ hargs
    split at hs
    · rename_i et hd
      split at hs
      · rename_i cs el hg
        simp only [Option.some.injEq, Prod.mk.injEq] at hs
        obtain ⟨rfl, rfl⟩ := hs
        have hu := ptrOf_ok hT hd
        simp only [VR] at hr
        refine ⟨?_, rfl⟩
        rcases hr.2 with ⟨cc, hval, hle, hoff, hω, hvt, hck, hcm⟩ | ⟨h0, ad, cc, hval, hoff, hvt, rfl, rfl⟩
        · by_cases hc0 : cc = 0
          · subst hc0
            obtain ⟨cur, e', fr, hw, _⟩ := (hm.heap b _ hg).2.of_v hvt
            refine ⟨_, _, .inl (hexec a _ _ hca (by rw [hval]; exact Lib.run_unsafeSliceData_zero w c.argTypes o.type et hu _ len (e', cur.size) (by simp [World.shape?, hw]))), g, Ext.refl g, hm.grow (near_alloc w _), ?_⟩
            simp only [VR]
            exact ⟨hr.1, _, rfl, fun hl => by omega⟩
          · refine ⟨_, _, .inl (hexec a _ _ hca (by rw [hval]; exact Lib.run_unsafeSliceData_row w c.argTypes o.type _ len cc hc0)), g, Ext.refl g, hm, ?_⟩
            simp only [VR]
            exact ⟨hr.1, _, rfl, fun _ => rfl⟩
        · subst h0
          refine ⟨_, _, .inl (hexec a _ _ hca (by rw [hval]; exact Lib.run_unsafeSliceData_nil w c.argTypes o.type 0 0)), g, Ext.refl g, hm, ?_⟩
          simp only [VR]
          exact ⟨hr.1, _, rfl, fun hl => by omega⟩
      · cases hs
    · cases hs
  · rename_i hargs
    obtain ⟨a, hca, _, hr⟩ := harg _ hargs
    simp only [Option.some.injEq, Prod.mk.injEq] at hs
    obtain ⟨rfl, rfl⟩ := hs
    simp only [VR] at hr
    exact ⟨⟨_, _, .inl (hexec a _ _ hca (by rw [hr]; exact Lib.run_unsafeSliceData_nil w c.argTypes o.type 0 0)), g, Ext.refl g, hm, by simp [VR]⟩, rfl⟩
  · cases hs

theorem unsafeString_sound {r i : Nat} {c : Call} (ho : o.op = .call c) (hc : c.callee = .builtin .unsafeString) (hs : eUnsafeString T r i c.argTypes.toList (c.args.toList.map ρ) m = some (sv, m')) :
    AllP m'.vc → Steps1 P g w0 F o ρ' w m' sv ∧ AllP m.vc := by
  intro hvc
  have harg : ∀ s t, c.args.toList.map ρ = [s, t] → ∃ a b, c.args = #[a, b] ∧ VR g s (ρ' a) ∧ VR g t (ρ' b) := fun s t hargs => by
    simp only [List.map_eq_cons_iff, List.map_eq_nil_iff] at hargs
    obtain ⟨a1, l, h3, h4, a2, l2, h5, h6, h7⟩ := hargs
    subst h7 h5
    have hca : c.args = #[a1, a2] := by rw [← Array.toList_inj, h3]
    exact ⟨a1, a2, hca, by rw [← h4]; exact hv a1 (by simp [ho, Op.operands, Call.operands, hca]), by rw [← h6]; exact hv a2 (by simp [ho, Op.operands, Call.operands, hca])⟩
  have hexec : ∀ a b v w', c.args = #[a, b] → (Builtin.unsafeString_ c.argTypes o.type #[ρ' a, ρ' b]).run P w = .ok v w' → (execOp ρ' o).run P w = .ok (.value v) w' := fun a b v w' hca h => by
    simp [execOp, ho, resolve, hc, hca, invoke, builtin, h]
  unfold eUnsafeString at hs
  split at hs
  · rename_i b len n hargs
    obtain ⟨a1, a2, hca, hr1, hr2⟩ := harg _ _ hargs
    split at hs
    · rename_i cs el hg
      split at hs
      · rename_i pt it hts
        split at hs
        · rename_i e hd
          split at hs
          · rename_i hck
            simp only [Bool.and_eq_true, nbeq, beq_iff_eq] at hck
            obtain ⟨⟨rfl, h8⟩, h1s⟩ := hck
            split at hs
            · rename_i m1 hchk
              split at hs
              · rename_i v2 m2 hsh
                simp only [Option.some.injEq, Prod.mk.injEq] at hs
                obtain ⟨rfl, rfl⟩ := hs
                rw [Me.del_vc] at hvc
                obtain ⟨c1, c2, c3⟩ := check_spec hchk
                obtain ⟨d1, d2, d3⟩ := strHint_spec hsh
                obtain ⟨hso, hv1⟩ := d1 hvc
                obtain ⟨hcb, hv0⟩ := c1 hv1
                refine ⟨?_, hv0⟩
                have hts' : c.argTypes = #[pt, it] := by rw [← Array.toList_inj, hts]
                obtain ⟨cs', wr, el', l, bs, hg', hl, hbs, rfl⟩ := strOf_spec hso
                rw [hg] at hg'
                cases hg'
                obtain ⟨hhas, hor⟩ := hm.heap b _ hg
                obtain ⟨vs, hlen, hvs, hcell⟩ := hor.cut hl
                have hvb := toBytes_spec hbs hvs
                subst hvb
                simp only [Bool.and_eq_true, Nat.ble_eq, eqF_eq, beq_iff_eq] at hcb
                obtain ⟨hn, hl63⟩ := hcb
                simp only [VR] at hr1 hr2
                obtain ⟨_, p, hp1, hp2⟩ := hr1
                have hbl : bs.length = len := by simpa using hlen
                have hm2 : MRel g w0 F m2 w := hm.same (by rw [d2, c2]) (by rw [d3, c3])
                by_cases h0 : len = 0
                · have : bs = [] := List.eq_nil_of_length_eq_zero (by omega)
                  subst this
                  refine ⟨.string .empty, w, .inl (hexec a1 a2 _ _ hca ?_), g, Ext.refl g, hm2.del b, by simp only [VR]; rfl⟩
                  rw [hp1, hr2, hts', hn, h0]
                  exact Lib.run_unsafeString_none w pt it o.type p
                · have hvf := hor.real' (by
                    rintro rfl
                    have := (cutAt_spec hl).1
                    simp at this
                    omega)
                  obtain ⟨cur, e', fr, hw, hcr, hκ, hwr⟩ := hor.of_v hvf
                  obtain ⟨hω, hfr, hel⟩ := hwr rfl (Nat.succ_ne_zero _)
                  subst hel
                  have hp := hp2 (by omega)
                  have hcs : P.cellsOf (el + 1) = 1 := by
                    unfold size1 at h1s
                    split at h1s
                    · rename_i k hk
                      rw [nbeq] at h1s
                      obtain ⟨j, hj, hjs⟩ := sizeOf_ok hT hk
                      rw [cellsOf_info hj, hjs]
                      simpa using h1s
                    · cases h1s
                  have hcl : cs.length ≤ cur.size := by
                    rcases Nat.eq_zero_or_pos cs.length with h | h
                    · omega
                    · obtain ⟨v, hv, _⟩ := hcr (cs.length - 1) _ (List.getElem?_eq_getElem (by omega))
                      have := (Array.getElem?_eq_some_iff.1 hv).1
                      omega
                  have hle : 0 + len ≤ cs.length := (cutAt_spec hl).1
                  have hrun := Lib.run_unsafeString_row (P := P) w pt it o.type (el + 1) (ptrOf_ok hT hd) hcs (g.σ b) cur.size (by simp [World.shape?, hw]) bs (by rintro rfl; simp at hbl; omega) (by omega) (by omega) (fun j x hj => by
                    rw [add_of]
                    have := (hcell j (.int .u8 x.toNat) (by simp [hj])).1
                    rw [hω] at this
                    simpa using this)
                  refine ⟨.string ⟨bs.toArray⟩, w.freeze ⟨g.σ b, 0, none⟩ bs.length, .inl (hexec a1 a2 _ _ hca ?_), g, Ext.refl g, hm2.delRow (b := b) (o := .cells cs true (el + 1)) (by rw [d2, c2]; exact hg) ⟨rfl, hvf⟩ (near_freeze w _ _ _), by simp only [VR]⟩
                  rw [hp1, hp, hr2, hts', hn, ← hbl]
                  rw [hω]
                  exact hrun
              · cases hs
            · cases hs
          · cases hs
        · cases hs
      · cases hs
    · cases hs
  · rename_i hargs
    obtain ⟨a1, a2, hca, hr1, hr2⟩ := harg _ _ hargs
    split at hs
    · rename_i pt it hts
      simp only [Option.some.injEq, Prod.mk.injEq] at hs
      obtain ⟨rfl, rfl⟩ := hs
      have hts' : c.argTypes = #[pt, it] := by rw [← Array.toList_inj, hts]
      simp only [VR] at hr1 hr2
      refine ⟨⟨.string .empty, w, .inl (hexec a1 a2 _ _ hca ?_), g, Ext.refl g, hm, by simp only [VR]; rfl⟩, hvc⟩
      rw [hr1, hr2, hts']
      exact Lib.run_unsafeString_none w pt it o.type none
    · cases hs
  · cases hs

omit hT hv in
/-- a new block that is no row of cells -/
theorem newObj_sound (obj : Obj) : ∃ g', Ext g g' ∧ MRel g' w0 F (m.new (.obj obj)) (w.alloc obj) ∧ g'.σ m.nx = w.heap.size ∧ g'.has m.nx := by
  have hext := g.new_ext (by rw [hm.n]; exact hm.even) w.heap.size 0
  refine ⟨_, hext, hm.newAny none none (near_alloc w obj) w.heap.size 0 false (by simp) (.obj obj) (fun _ => .inl (Nat.le_refl _)) ?_, by rw [← hm.n]; exact upd_eq _ _ _, by rw [← hm.n]; simp [Gh.new, Gh.has]⟩
  show (w.alloc obj).heap[(g.new w.heap.size 0).σ g.n]? = some obj
  rw [show (g.new w.heap.size 0).σ g.n = w.heap.size from upd_eq _ _ _]
  exact heap_alloc_new w obj

omit hv in
theorem strBytes_sound {src dst : TypeId} {x : Operand} (ho : o.op = .convert src dst x) (hx : VR g (ρ x) (ρ' x)) (hs : eStrBytes T src dst (ρ x) m = some (sv, m')) : Steps1 P g w0 F o ρ' w m' sv ∧ m'.vc = m.vc := by
  unfold eStrBytes at hs
  split at hs
  · rename_i bs hxs
    rw [hxs] at hx
    simp only [VR] at hx
    split at hs
    · rename_i h1
      split at hs
      · rename_i e he
        split at hs
        · rename_i h8
          simp only [Option.some.injEq, Prod.mk.injEq] at hs
          obtain ⟨rfl, rfl⟩ := hs
          have hrun := Lib.run_convert_string_bytes (P := P) w src dst e bs (isStr_ok hT h1) (sliceOf_ok hT he) (isU8_ok hT h8)
          have hsz : (Lib.bytesCells w e bs).size = bs.size + (grownCap w bs.size 0 e - bs.size) := by simp [Lib.bytesCells]
          have hcell : ∀ i, i < bs.size → (Lib.bytesCells w e bs)[i]? = some (.int .u8 (bs.data.toList.getD i 0).toNat) := fun i hi => by
            have := Lib.bytesWorld_cell w e bs i hi
            simpa [World.cell?, Lib.bytesWorld_at_new] using this
          have hext := g.new_ext (by rw [hm.n]; exact hm.even) w.heap.size (Lib.bytesCells w e bs).size
          have hlen : bs.data.toList.length = bs.size := rfl
          have hnear : Near w (Lib.bytesWorld w e bs) none := by
            refine ⟨?_, ?_, ?_, by rw [Lib.bytesWorld_size]; omega, fun k hk _ => Lib.bytesWorld_at_old w e bs k hk⟩ <;> (unfold Lib.bytesWorld World.freeze; split <;> rfl)
          have hcap : bs.size ≤ grownCap w bs.size 0 e := grownCap_ge w _ _ _
          refine ⟨⟨.slice (some ⟨w.heap.size, 0, none⟩) bs.size (grownCap w bs.size 0 e), Lib.bytesWorld w e bs, .inl ?_, _, hext, hm.newAny none none hnear w.heap.size (Lib.bytesCells w e bs).size false (by simp) _ (fun _ => .inl (Nat.le_refl _)) ?_, ?_⟩, Me.new_vc _ _⟩
          · simp [execOp, ho, hx, hrun]
          · refine .inr ⟨if_pos rfl, _, e, ((Lib.bytesCells w e bs).size, (Lib.bytesCells w e bs).size + 1), ?_, fun i sv hi => ?_, upd_eq _ _ _, fun _ h => absurd rfl h⟩
            · rw [show (g.new w.heap.size (Lib.bytesCells w e bs).size).σ g.n = w.heap.size from upd_eq _ _ _]
              exact Lib.bytesWorld_at_new w e bs
            · rw [show (g.new w.heap.size (Lib.bytesCells w e bs).size).ω g.n = 0 from upd_eq _ _ _, Nat.zero_add]
              simp only [bytesS, List.getElem?_map] at hi
              cases hb : bs.data.toList[i]? with
              | none => simp [hb] at hi
              | some u =>
                simp only [hb, Option.map_some, Option.some.injEq] at hi
                subst hi
                have hi' : i < bs.size := by rw [← hlen]; exact (List.getElem?_eq_some_iff.1 hb).1
                exact ⟨.int .u8 u.toNat, by rw [hcell i hi', List.getD_eq_getElem?_getD, hb]; rfl, by simp only [VR], rfl⟩
          · simp only [VR]
            refine ⟨by rw [← hm.n]; simp [Gh.new, Gh.has], .inl ⟨_, ?_, by rw [hlen]; exact hcap, trivial⟩⟩
            rw [← hm.n, show (g.new w.heap.size (Lib.bytesCells w e bs).size).σ g.n = w.heap.size from upd_eq _ _ _, show (g.new w.heap.size (Lib.bytesCells w e bs).size).ω g.n = 0 from upd_eq _ _ _, hlen]
        · cases hs
      · cases hs
    · cases hs
  · cases hs

omit hT hv in
theorem makeMap_sound {t : TypeId} {rs : Option Operand} (ho : o.op = .makeMap t rs) (hs : eMakeMap rs m = some (sv, m')) : Steps1 P g w0 F o ρ' w m' sv ∧ m'.vc = m.vc := by
  unfold eMakeMap at hs
  split at hs
  · simp only [Option.some.injEq, Prod.mk.injEq] at hs
    obtain ⟨rfl, rfl⟩ := hs
    obtain ⟨g', he, hm', hσ, hhas⟩ := newObj_sound hm (.map #[] 0)
    refine ⟨⟨.map (some w.heap.size), _, .inl ?_, g', he, hm', by simp only [VR]; exact ⟨hhas, by rw [hσ]⟩⟩, Me.new_vc _ _⟩
    simp [execOp, ho, Instr.makeMap]
  · cases hs

theorem insert_sound {t : TypeId} {mp k x : Operand} (ho : o.op = .insert t mp k x) (hs : eInsert T t (ρ mp) (ρ k) (ρ x) m = some (sv, m')) : Steps1 P g w0 F o ρ' w m' sv ∧ m'.vc = m.vc := by
  have h1 := hv mp (by simp [ho, Op.operands])
  have h2 := hv k (by simp [ho, Op.operands])
  have h3 := hv x (by simp [ho, Op.operands])
  unfold eInsert at hs
  split at hs
  · rename_i b hb
    rw [hb] at h1
    split at hs
    · rename_i kt et hmo
      split at hs
      · rename_i hk
        split at hs
        · rename_i es clock hg
          split at hs
          · rename_i ks hks
            rw [hks] at h2
            split at hs
            · rename_i u hu
              rw [hu] at h3
              split at hs
              · rename_i hmf
                simp only [Option.some.injEq, Prod.mk.injEq] at hs
                obtain ⟨rfl, rfl⟩ := hs
                simp only [VR] at h1 h2 h3
                have hut := mapOf_ok hT hmo
                have hks' := isStr_ok hT hk
                have hw : w.heap[g.σ b]? = some (.map es clock) := (hm.heap b _ hg).2
                have hlt := (Array.getElem?_eq_some_iff.1 hw).1
                have hck0 : ∀ d : Nat, (Instr.checkKey false (d + 1) kt (.string ks)).run P w = .ok () w := fun d => by
                  simp [Instr.checkKey, run_underlying hks']
                have hck := hck0 9999
                have hfind : (Instr.findKey kt (.string ks) es.toList).run P w = .ok none w := by
                  obtain ⟨k1, _⟩ := mapFind_spec es.toList none 0 hmf
                  unfold Instr.findKey
                  simp only [Sem.run_bind, run_underlying hks', Result.andThen_ok]
                  rw [k1]
                  rfl
                have hgo : (getObj (g.σ b)).run P w = .ok (.map es clock) w := by simp [getObj, Sem.run, hw]
                have hso : ∀ o', (setObj (g.σ b) o').run P w = .ok () (w.putObj (g.σ b) o') := fun o' => by simp [setObj, Sem.run, hw, World.putObj]
                refine ⟨⟨undef, w.putObj (g.σ b) (.map (es.push { key := .string ks, val := u, born := clock }) (clock + 1)), .inr ⟨?_, rfl⟩, g, Ext.refl g, hm.putAny hg trivial (fun _ => trivial) (near_putObj _ _ _) (World.putObj_heap_same hlt), by simp [undefS, VR]⟩, Me.put_vc _ _ _⟩
                simp [execOp, ho, h1.2, h2, h3, Instr.mapUpdate, run_underlying hut, hgo, hck, hfind, hso]
              · cases hs
            · cases hs
          · cases hs
        · cases hs
      · cases hs
    · cases hs
  · cases hs
end

end
end Go.Sx
