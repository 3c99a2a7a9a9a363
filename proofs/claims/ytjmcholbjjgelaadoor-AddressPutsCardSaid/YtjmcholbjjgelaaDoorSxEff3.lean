/- The abstract evaluator: store and append. -/
import Derived.Test.YtjmcholbjjgelaaDoorSxEff2
namespace Go.Sx
set_option linter.unusedVariables false
open Go.RowKit

/-- A block is written over. -/
theorem MRel.putRow {g : Gh} {w0 : World} {F : Nat → Prop} {m : Me} {w : World} (h : MRel g w0 F m w) {b : Nat} {cs cs' : List SV} {el : TypeId} (hb : m.h.get b = some (.cells cs true el))
    {cur cur' : Array Value} {e : TypeId} {fr : Nat × Nat} (hw : w.heap[g.σ b]? = some (.cells cur e fr)) (hsz : cur'.size = cur.size)
    (hcs : ∀ (i : Nat) (sv : SV), cs'[i]? = some sv → ∃ v, cur'[i]? = some v ∧ VR g sv v ∧ v.oneCell' = true) :
    MRel g w0 F (m.put b (.cells cs' true el)) (w.setRow (g.σ b) cur') := by
  have hget : ∀ b', (m.put b (.cells cs' true el)).h.get b' = if b' = b then some (.cells cs' true el) else m.h.get b' := fun b' => by rw [Me.put_h, Tr.get_put]
  have hN := Me.put_nx m b (.cells cs' true el)
  obtain ⟨hhas, cur0, e0, fr0, h1, h2, h3, h4⟩ := h.heap b _ hb
  rw [hw] at h1
  simp only [Option.some.injEq, Obj.cells.injEq] at h1
  obtain ⟨rfl, rfl, rfl⟩ := h1
  obtain ⟨hω, hfr, hel⟩ := h4 rfl
  have oth : ∀ b' o, b' ≠ b → m.h.get b' = some o → g.σ b' ≠ g.σ b := fun b' o hne ho e => hne (h.inj b b' _ o hb rfl ho e.symm).symm
  refine ⟨by rw [hN]; exact h.n, by rw [hN]; exact h.even, ?_, ?_, ?_, ?_, h.os, h.tape, h.output, by simpa [World.setRow] using h.size, h.glob⟩
  · intro b' o ho
    rw [hget] at ho
    by_cases e : b' = b
    · subst e
      rw [if_pos rfl] at ho
      cases ho
      refine ⟨hhas, cur', _, _, setRow_heap w _ _ cur' _ _ hw, ?_, by rw [h3, hsz], fun _ => ⟨hω, hfr, hel⟩⟩
      intro i sv hi
      obtain ⟨v, k1, k2⟩ := hcs i sv hi
      exact ⟨v, by rw [hω, Nat.zero_add]; exact k1, k2⟩
    · rw [if_neg e] at ho
      obtain ⟨k1, k2⟩ := h.heap b' o ho
      exact ⟨k1, k2.ext (Ext.refl g) k1 (setRow_other w _ _ _ (oth b' o e ho))⟩
  · intro b1 b2 o1 o2 hb1 hwr hb2 hs
    rw [hget] at hb1 hb2
    by_cases e1 : b1 = b
    · by_cases e2 : b2 = b
      · rw [e1, e2]
      · rw [if_neg e2] at hb2
        subst e1
        exact h.inj b1 b2 _ o2 hb rfl hb2 hs
    · rw [if_neg e1] at hb1
      by_cases e2 : b2 = b
      · subst e2
        exact h.inj b1 b2 o1 _ hb1 hwr hb hs
      · rw [if_neg e2] at hb2
        exact h.inj b1 b2 o1 o2 hb1 hwr hb2 hs
  · intro b1 o1 hb1 hwr
    rw [hget] at hb1
    by_cases e1 : b1 = b
    · subst e1
      exact h.frame b1 _ hb rfl
    · rw [if_neg e1] at hb1
      exact h.frame b1 o1 hb1 hwr
  · intro r hF
    obtain ⟨k1, k2⟩ := h.keep r hF
    refine ⟨k1, ?_⟩
    have hne : r ≠ g.σ b := fun e => by subst e; exact h.frame b _ hb rfl hF
    rw [setRow_other w _ _ _ hne, k2]

section
variable {P : Program} {T : Tab} (hT : TabOk P T) {g : Gh} {w0 : World} {F : Nat → Prop} {m m' : Me} {w : World} (hm : MRel g w0 F m w) {ρ : Operand → SV} {ρ' : Operand → Value} {o : Oper} {sv : SV}
  (hv : ∀ x ∈ o.op.operands, VR g (ρ x) (ρ' x))
include hT hm hv

theorem store_sound {r i : Nat} {t : TypeId} {a x : Operand} (ho : o.op = .store t a x) (hs : eStore T r i t (ρ a) (ρ x) m = some (sv, m')) :
    AllP m'.vc → Steps1 P g w0 F o ρ' w m' sv ∧ AllP m.vc := by
  intro hvc
  have ha := hv a (by simp [ho, Op.operands])
  have hx := hv x (by simp [ho, Op.operands])
  unfold eStore at hs
  split at hs
  · rename_i b off hab
    rw [hab] at ha
    simp only [VR] at ha
    split at hs
    · rename_i cs el hb
      split at hs
      · rename_i n hn
        have hrn := run_sizeOf' hT w hn
        split at hs
        · rename_i vs hvs
          obtain ⟨hc1, hc2⟩ := cellsS_spec hvs hx
          unfold eStoreAt at hs
          split at hs
          · rename_i hlen
            rw [nbeq] at hlen
            have hlen' : vs.length = n := by simpa using hlen
            split at hs
            · rename_i m1 hck
              obtain ⟨c1, c2, c3⟩ := check_spec hck
              unfold stored at hs
              split at hs
              rename_i cs' m2 hrc
              obtain ⟨d1, d2, d3⟩ := recell_spec hrc
              simp only [Option.some.injEq, Prod.mk.injEq] at hs
              obtain ⟨rfl, rfl⟩ := hs
              rw [Me.put_vc] at hvc
              obtain ⟨hcs, hv1⟩ := d1 hvc
              obtain ⟨hc, hv0⟩ := c1 hv1
              subst hcs
              have hfit : off + n ≤ cs.length := by simpa using hc
              have hm2 : MRel g w0 F m2 w := hm.same (by rw [d2, c2]) (by rw [d3, c3])
              have hb2 : m2.h.get b = some (.cells cs true el) := by rw [d2, c2]; exact hb
              obtain ⟨hhas, cur, e, fr, hw, hcr, hκ, hwr⟩ := hm.heap b _ hb
              obtain ⟨hω, hfr, hel⟩ := hwr rfl
              subst hfr
              have hcell0 : ∀ i, i < cs.length → ∃ v, cur[i]? = some v := fun i hi => by
                obtain ⟨v, hv, _⟩ := hcr i _ (List.getElem?_eq_getElem hi)
                rw [hω, Nat.zero_add] at hv
                exact ⟨v, hv⟩
              have hcl : cs.length ≤ cur.size := by
                rcases Nat.eq_zero_or_pos cs.length with h | h
                · omega
                · obtain ⟨v, hv⟩ := hcell0 (cs.length - 1) (by omega)
                  have := (Array.getElem?_eq_some_iff.1 hv).1
                  omega
              have hvl : (ρ' x).cells.toList.length = n := by rw [hc1.length]; exact hlen'
              have hrun := run_storeCells_at (P := P) (g.σ b) off e (ρ' x).cells.toList 0 cur w hw (by omega) hc2
              simp only [Nat.add_zero] at hrun
              refine ⟨⟨undef, w.setRow (g.σ b) (cur.toList.take off ++ (ρ' x).cells.toList ++ cur.toList.drop (off + (ρ' x).cells.toList.length)).toArray, .inr ⟨?_, rfl⟩, g, Ext.refl g, hm2.putRow hb2 hw ?_ ?_, by simp [undefS, VR]⟩, hv0⟩
              · have hvsz : (ρ' x).cells.size = n := by simpa using hvl
                simp [execOp, ho, ha.2, Instr.storeAt, Instr.sureAddr, storeVar, hrn, hvsz, hω, hrun]
              · have hvl2 : (ρ' x).cells.size = n := by simpa using hvl
                simp; omega
              · intro i sv hi
                simp only [setCells] at hi
                simp only [List.getElem?_toArray]
                by_cases h1 : i < off
                · rw [List.append_assoc, List.getElem?_append_left (by simp; omega), List.getElem?_take_of_lt h1] at hi
                  obtain ⟨v, k1, k2⟩ := hcr i sv hi
                  rw [hω, Nat.zero_add] at k1
                  refine ⟨v, ?_, k2⟩
                  rw [List.append_assoc, List.getElem?_append_left (by simp; omega), List.getElem?_take_of_lt h1]
                  simpa using k1
                · by_cases h2 : i < off + n
                  · rw [List.append_assoc, List.getElem?_append_right (by simp; omega), List.getElem?_append_left (by simp; omega)] at hi
                    rw [List.append_assoc, List.getElem?_append_right (by simp; omega), List.getElem?_append_left (by simp at hvl ⊢; omega)]
                    have e1 : (cs.take off).length = off := by simp; omega
                    have e2 : (cur.toList.take off).length = off := by simp; omega
                    rw [e1] at hi
                    rw [e2]
                    obtain ⟨v, k1, k2⟩ := hc1.get hi
                    exact ⟨v, k1, k2, hc2 v (List.mem_of_getElem? k1)⟩
                  · rw [List.getElem?_append_right (by simp; omega), List.getElem?_drop] at hi
                    rw [List.getElem?_append_right (by simp at hvl ⊢; omega), List.getElem?_drop]
                    have e1 : off + vs.length + (i - (cs.take off ++ vs).length) = i := by simp; omega
                    have e2 : off + (ρ' x).cells.toList.length + (i - (cur.toList.take off ++ (ρ' x).cells.toList).length) = i := by simp at hvl ⊢; omega
                    rw [e1] at hi
                    rw [e2]
                    obtain ⟨v, k1, k2⟩ := hcr i sv hi
                    rw [hω, Nat.zero_add] at k1
                    exact ⟨v, by simpa using k1, k2⟩
            · cases hs
          · cases hs
        · cases hs
      · cases hs
    · cases hs
  · cases hs
end

end Go.Sx
