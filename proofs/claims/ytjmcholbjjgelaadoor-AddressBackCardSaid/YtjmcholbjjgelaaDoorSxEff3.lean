/- The abstract evaluator: store and append. -/
import Derived.Test.YtjmcholbjjgelaaDoorSxBuild
namespace Go.Sx
noncomputable section
set_option linter.unusedVariables false
open Go.RowKit

/-- A block is written over. -/
theorem MRel.putRow {g : Gh} {w0 : World} {F : Nat → Prop} {m : Me} {w : World} (h : MRel g w0 F m w) {b : Nat} {cs cs' : List SV} {el : TypeId} (hb : m.h.get b = some (.cells cs true el))
    {cur cur' : Array Value} {e : TypeId} {fr : Nat × Nat} (hw : w.heap[g.σ b]? = some (.cells cur e fr)) (hκs : g.κ b = cur.size) (hκ : g.v b = false) (hwr : g.ω b = 0 ∧ fr = (0, 0) ∧ e = el) (hsz : cur'.size = cur.size)
    (hcs : ∀ (i : Nat) (sv : SV), cs'[i]? = some sv → ∃ v, cur'[i]? = some v ∧ VR g sv v ∧ v.oneCell' = true) :
    MRel g w0 F (m.put b (.cells cs' true el)) (w.setRow (g.σ b) cur') := by
  obtain ⟨hhas, hor⟩ := h.heap b _ hb
  obtain ⟨hω, hfr, hel⟩ := hwr
  refine h.putAny hb ⟨rfl, hκ⟩ (fun _ => ⟨rfl, hκ⟩) ⟨rfl, rfl, rfl, by simp [World.setRow], fun k hk hne => setRow_other w _ _ _ (fun e => hne (by rw [e]))⟩
    (.inr ⟨hκ, cur', _, _, setRow_heap w _ _ cur' _ _ hw, fun i sv hi => ?_, by rw [hsz, hκs], fun _ _ => ⟨hω, hfr, hel⟩⟩)
  obtain ⟨v, k1, k2⟩ := hcs i sv hi
  exact ⟨v, by rw [hω, Nat.zero_add]; exact k1, k2⟩

section
variable {P : Program} {T : Tab} (hT : TabOk P T) {g : Gh} {w0 : World} {F : Nat → Prop} {m m' : Me} {w : World} (hm : MRel g w0 F m w) {ρ : Operand → SV} {ρ' : Operand → Value} {o : Oper} {sv : SV}
  (hv : ∀ x ∈ o.op.operands, VR g (ρ x) (ρ' x))
include hT hm hv

theorem store_sound {r i : Nat} {t : TypeId} {a x : Operand} (ho : o.op = .store t a x) (hs : eStore T r i t (ρ a) (ρ x) m = some (sv, m')) :
    AllP m'.vc → Steps1 P g w0 F o ρ' w m' sv ∧ AllP m.vc := by
  intro hvc
  have ha := hv a (by simp [ho, Op.operands])
  have hx := hv x (by simp [ho, Op.operands])
  unfold eStore at hs
  split at hs
  · rename_i b off hab
    rw [hab] at ha
    simp only [VR] at ha
    split at hs
    · rename_i cs el hb
      split at hs
      · rename_i n hn
        have hrn := run_sizeOf' hT w hn
        split at hs
        · rename_i vs hvs
          obtain ⟨hc1, hc2⟩ := cellsS_spec hvs hx
          unfold eStoreAt at hs
          split at hs
          · rename_i hlen
            rw [Bool.and_eq_true, nbeq] at hlen
            have hlen' : vs.length = n := by simpa using hlen.1
            have hpos : 0 < n := by simpa using hlen.2
            split at hs
            · rename_i m1 hck
              obtain ⟨c1, c2, c3⟩ := check_spec hck
              unfold stored at hs
              split at hs
              rename_i cs' m2 hrc
              obtain ⟨d1, d2, d3⟩ := recell_spec hrc
              simp only [Option.some.injEq, Prod.mk.injEq] at hs
              obtain ⟨rfl, rfl⟩ := hs
              rw [Me.put_vc] at hvc
              obtain ⟨hcs, hv1⟩ := d1 hvc
              obtain ⟨hc, hv0⟩ := c1 hv1
              subst hcs
              have hfit : off + n ≤ cs.length := by simpa using hc
              have hm2 : MRel g w0 F m2 w := hm.same (by rw [d2, c2]) (by rw [d3, c3])
              have hb2 : m2.h.get b = some (.cells cs true (el + 1)) := by rw [d2, c2]; exact hb
              obtain ⟨hhas, hor⟩ := hm.heap b _ hb
              have hκ0 := hor.real' (by rintro rfl; simp at hfit; omega)
              obtain ⟨cur, e, fr, hw, hcr, hκ, hwr⟩ := hor.of_v hκ0
              obtain ⟨hω, hfr, hel⟩ := hwr rfl (Nat.succ_ne_zero _)
              subst hfr
              have hcell0 : ∀ i, i < cs.length → ∃ v, cur[i]? = some v := fun i hi => by
                obtain ⟨v, hv, _⟩ := hcr i _ (List.getElem?_eq_getElem hi)
                rw [hω, Nat.zero_add] at hv
                exact ⟨v, hv⟩
              have hcl : cs.length ≤ cur.size := by
                rcases Nat.eq_zero_or_pos cs.length with h | h
                · omega
                · obtain ⟨v, hv⟩ := hcell0 (cs.length - 1) (by omega)
                  have := (Array.getElem?_eq_some_iff.1 hv).1
                  omega
              have hvl : (ρ' x).cells.toList.length = n := by rw [hc1.length]; exact hlen'
              have hrun := run_storeCells_at (P := P) (g.σ b) off e (ρ' x).cells.toList 0 cur w hw (by omega) hc2
              simp only [Nat.add_zero] at hrun
              refine ⟨⟨undef, w.setRow (g.σ b) (cur.toList.take off ++ (ρ' x).cells.toList ++ cur.toList.drop (off + (ρ' x).cells.toList.length)).toArray, .inr ⟨?_, rfl⟩, g, Ext.refl g, hm2.putRow hb2 hw hκ hκ0 ⟨hω, rfl, hel⟩ ?_ ?_, by simp [undefS, VR]⟩, hv0⟩
              · have hvsz : (ρ' x).cells.size = n := by simpa using hvl
                simp [execOp, ho, ha.2, Instr.storeAt, Instr.sureAddr, storeVar, hrn, hvsz, hω, hrun]
              · have hvl2 : (ρ' x).cells.size = n := by simpa using hvl
                simp; omega
              · intro i sv hi
                simp only [setCells] at hi
                simp only [List.getElem?_toArray]
                by_cases h1 : i < off
                · rw [List.append_assoc, List.getElem?_append_left (by simp; omega), List.getElem?_take_of_lt h1] at hi
                  obtain ⟨v, k1, k2⟩ := hcr i sv hi
                  rw [hω, Nat.zero_add] at k1
                  refine ⟨v, ?_, k2⟩
                  rw [List.append_assoc, List.getElem?_append_left (by simp; omega), List.getElem?_take_of_lt h1]
                  simpa using k1
                · by_cases h2 : i < off + n
                  · rw [List.append_assoc, List.getElem?_append_right (by simp; omega), List.getElem?_append_left (by simp; omega)] at hi
                    rw [List.append_assoc, List.getElem?_append_right (by simp; omega), List.getElem?_append_left (by simp at hvl ⊢; omega)]
                    have e1 : (cs.take off).length = off := by simp; omega
                    have e2 : (cur.toList.take off).length = off := by simp; omega
                    rw [e1] at hi
                    rw [e2]
                    obtain ⟨v, k1, k2⟩ := hc1.get hi
                    exact ⟨v, k1, k2, hc2 v (List.mem_of_getElem? k1)⟩
                  · rw [List.getElem?_append_right (by simp; omega), List.getElem?_drop] at hi
                    rw [List.getElem?_append_right (by simp at hvl ⊢; omega), List.getElem?_drop]
                    have e1 : off + vs.length + (i - (cs.take off ++ vs).length) = i := by simp; omega
                    have e2 : off + (ρ' x).cells.toList.length + (i - (cur.toList.take off ++ (ρ' x).cells.toList).length) = i := by simp at hvl ⊢; omega
                    rw [e1] at hi
                    rw [e2]
                    obtain ⟨v, k1, k2⟩ := hcr i sv hi
                    rw [hω, Nat.zero_add] at k1
                    exact ⟨v, by simpa using k1, k2⟩
            · cases hs
          · cases hs
        · cases hs
      · cases hs
    · cases hs
  · cases hs
end

end
end Go.Sx
