/- The abstract evaluator: a drawn region, whole. -/
import Derived.Test.YtjmcholbjjgelaaDoorSxDraw2
namespace Go.Sx
set_option linter.unusedVariables false
open Go.RowKit

def cnt : List Bool → Nat
  | [] => 0
  | true :: l => cnt l
  | false :: l => cnt l + 1
theorem cnt_set : ∀ (l : List Bool) (i : Nat), l[i]? = some false → cnt (l.set i true) + 1 = cnt l
  | [], i, h => by simp at h
  | b :: l, 0, h => by simp at h; subst h; simp [cnt]
  | b :: l, i + 1, h => by
    have := cnt_set l i (by simpa using h)
    cases b <;> simp [cnt, this]
theorem cnt_zero : ∀ (l : List Bool), cnt l = 0 → ∀ (i : Nat) (b : Bool), l[i]? = some b → b = true
  | [], h, i, b, hi => by simp at hi
  | true :: l, h, i, b, hi => by
    cases i with
    | zero => simpa using hi.symm
    | succ i => exact cnt_zero l (by simpa [cnt] using h) i b (by simpa using hi)
  | false :: l, h, i, b, hi => by simp [cnt] at h

theorem MRel.drew {g : Gh} {w0 : World} {F : Nat → Prop} {m : Me} {w : World} (h : MRel g w0 F m w) (d : Nat) : MRel g w0 F m { w with drawn := d } :=
  ⟨h.n, h.even, h.heap, h.inj, h.frame, h.keep, h.os, h.tape, h.output, h.size, h.glob⟩

section
variable {P : Program} {T : Tab} (hT : TabOk P T) {cf : CallF} (hcf : SoundCall P cf) {r : Nat} {ops : Array Oper} (hok : DrawOk ops) {FF : Nat → Fra} {MM : Nat → Me} {VV : Nat → SV} {RT : Nat → Option Nat × Option Nat}
  (hR : Runs P T cf r ops FF MM VV RT) {w0 : World} {F : Nat → Prop} {D : List Deferred} {ro : Option Nat} {Q : Exit → Act → World → Prop}

include hok in
/-- what isn't listed has a least one, and that may be taken -/
theorem all_listed {listed : Array Bool} (hsz : listed.size = ops.size) (hnil : Region.ready .any ops listed = []) : ∀ j, j < ops.size → listed.getD j false = true := by
  intro j
  induction j using Nat.strongRecOn with
  | _ j ih =>
    intro hj
    cases hl : listed.getD j false with
    | true => rfl
    | false =>
      have hoj : ops[j]? = some ops[j] := Array.getElem?_eq_getElem hj
      have hjs : j < listed.size := by omega
      have : j ∈ Region.ready .any ops listed := mem_ready.2 ⟨by
        rw [Array.getD_eq_getD_getElem?, Array.getElem?_eq_getElem hjs] at hl ⊢
        exact hl, _, hoj, fun e he hb => by
          have hlt := hok.edge j _ hoj e he (by rw [← bindsAny_eq]; exact hb)
          exact ih e.on hlt (by omega)⟩
      rw [hnil] at this
      cases this

include hT hcf hok hR in
theorem any_sound (hvc : AllP (MM ops.size).vc) {g0 : Gh}
    (hQ : ∀ g' a' w', Ext g0 g' → FRel g' (FF ops.size) a' → MRel g' w0 F (MM ops.size) w' → a'.defers = D → Q .normal a' w') :
    ∀ (fuel : Nat) (listed : Array Bool) (g : Gh) (a : Act) (w : World) (c : Nat), listed.size = ops.size → cnt listed.toList = fuel → Ext g0 g →
      At ops FF MM VV g w0 F D (fun j => listed.getD j false) a w c → wpAnyIn (FW ro) 0 P .any ops Q fuel listed a w := by
  intro fuel
  have done : ∀ (listed : Array Bool) (g : Gh) (a : Act) (w : World) (c : Nat), listed.size = ops.size → Ext g0 g → At ops FF MM VV g w0 F D (fun j => listed.getD j false) a w c →
      (∀ j, j < ops.size → listed.getD j false = true) → Q .normal a w := fun listed g a w c hsz he hat hall => by
    obtain ⟨h1, h2⟩ := hat.last hcf hR hall
    exact hQ g a w he h1 h2 hat.defers
  induction fuel with
  | zero =>
    intro listed g a w c hsz hcnt he hat
    have hall : ∀ j, j < ops.size → listed.getD j false = true := fun j hj => by
      have hjs : j < listed.size := by omega
      rw [Array.getD_eq_getD_getElem?, Array.getElem?_eq_getElem hjs]
      exact cnt_zero _ hcnt j _ (by simp [hjs])
    refine ⟨?_, done listed g a w c hsz he hat hall⟩
    apply List.eq_nil_iff_forall_not_mem.2
    intro j hj
    obtain ⟨h0, o, ho, _⟩ := mem_ready.1 hj
    have hlt := (Array.getElem?_eq_some_iff.1 ho).1
    have := hall j hlt
    rw [Array.getD_eq_getD_getElem?, Array.getElem?_eq_getElem (by omega)] at this h0
    simp at this h0
    rw [h0] at this; cases this
  | succ fuel ih =>
    intro listed g a w c hsz hcnt he hat
    refine ⟨fun hnil => done listed g a w c hsz he hat (all_listed hok hsz hnil), fun i hi => ?_⟩
    obtain ⟨h0, o, ho, hall⟩ := mem_ready.1 hi
    have hlt := (Array.getElem?_eq_some_iff.1 ho).1
    have his : i < listed.size := by omega
    have h0' : listed[i]? = some false := by
      rw [Array.getD_eq_getD_getElem?, Array.getElem?_eq_getElem his] at h0
      rw [Array.getElem?_eq_getElem his]
      simpa using h0
    have hun : listed.getD i false = false := by rw [Array.getD_eq_getD_getElem?, h0']; rfl
    unfold wpOpIn
    simp only [ho]
    refine hat.step hT hcf hok hR ho hun (fun j hb => ?_) (L' := fun j => (listed.setIfInBounds i true).getD j false) (fun j => ?_) hvc fun g' a' w' c' he' hat' => ?_
    · obtain ⟨e, hem, hb', h⟩ := befs_at (by simpa using ho) hb
      have hle := hall e (by simpa using hem) (by rw [bindsAny_eq]; exact hb')
      rcases h with h | ⟨_, h⟩
      · rw [← h]; exact hle
      · exact hat.closed e.on hle j h
    · simp only [Array.getD_eq_getD_getElem?]
      by_cases e : i = j
      · subst e
        simp [his]
      · rw [Array.getElem?_setIfInBounds, if_neg e]
        constructor
        · exact .inr
        · rintro (h | h)
          · exact absurd h.symm e
          · exact h
    · refine ih _ g' a' w' c' (by simpa using hsz) ?_ (he.trans he') hat'
      have := cnt_set listed.toList i (by simpa using h0')
      simp only [Array.toList_setIfInBounds]
      omega

include hT hcf in
theorem draw_sound {s s' : St} (hdr : drawOk ops = true) (h : evOpsD P T cf r ops.toList ops.toList (befs ops.toList []) 0 [] s = some s') (hvc : AllP s'.m.vc) {g : Gh} {a : Act} {w : World} (hs : SRel g w0 F D s a w)
    (hQ : ∀ g' a' w', Ext g g' → SRel g' w0 F D s' a' w' → Q .normal a' w') : (Code.region r ops true).wpIn (FW ro) 0 P Q a w := by
  have hok := drawOk_spec hdr
  obtain ⟨FF, MM, VV, RT, hF, hM, hF', hM', _, hrun⟩ := evOpsD_run _ _ 0 [] s s' h rfl
  simp only [Nat.zero_add, Array.length_toList] at hF' hM' hrun
  have hR : Runs P T cf r ops FF MM VV RT := fun j o ho => by
    obtain ⟨b, hb, hr⟩ := hrun j o (by simpa using ho)
    have : befOf ops j = b := by simp [befOf, List.getD_eq_getElem?_getD, hb]
    rw [this]
    exact hr
  refine wpIn_region_any hT.mixed ?_
  have hrep : ∀ j, (Array.replicate ops.size false).getD j false = false := fun j => by
    rw [Array.getD_eq_getD_getElem?, Array.getElem?_replicate]
    split <;> rfl
  have hcnt : ∀ n, cnt (List.replicate n false) = n := fun n => by
    induction n with
    | zero => rfl
    | succ n ih => simp [List.replicate_succ, cnt, ih]
  have hstart : At ops FF MM VV g w0 F D (fun j => (Array.replicate ops.size false).getD j false) a { w with drawn := w.drawn + 1 } 0 := by
    refine ⟨fun k hk => ?_, Nat.zero_le _, fun j o _ _ => ?_, ?_, hs.defers, ?_, fun t _ => ?_, fun t j o _ _ hl => ?_⟩
    · simp only [hrep] at hk; cases hk
    · simp only [hrep]; simp
    · rw [hM]; exact hs.me.drew _
    · rw [hF]; exact hs.fr.nt
    · rw [hF]; exact hs.fr.slots t
    · simp only [hrep] at hl; cases hl
  have hend : ∀ g' a' w', Ext g g' → FRel g' (FF ops.size) a' → MRel g' w0 F (MM ops.size) w' → a'.defers = D → Q .normal a' w' := fun g' a' w' he h1 h2 h3 => by
    refine hQ g' a' w' he ⟨?_, ?_, h3⟩
    · rw [← hF']; exact h1
    · rw [← hM']; exact h2
  exact any_sound hT hcf hok hR (by rw [hM']; exact hvc) hend ops.size _ g a _ 0 (by simp) (by simp [hcnt]) (Ext.refl g) hstart
end

theorem evOpsD_fine {P : Program} {T : Tab} {cf : CallF} (hc : FineCall cf) {r : Nat} {ops : Array Oper} {s s' : St} (h : evOpsD P T cf r ops.toList ops.toList (befs ops.toList []) 0 [] s = some s') : Fine s.m s'.m := by
  obtain ⟨FF, MM, VV, RT, hF, hM, hF', hM', _, hrun⟩ := evOpsD_run _ _ 0 [] s s' h rfl
  simp only [Nat.zero_add, Array.length_toList] at hF' hM' hrun
  have hR : Runs P T cf r ops FF MM VV RT := fun j o ho => by
    obtain ⟨b, hb, hr⟩ := hrun j o (by simpa using ho)
    have : befOf ops j = b := by simp [befOf, List.getD_eq_getElem?_getD, hb]
    rw [this]
    exact hr
  have : ∀ k, k ≤ ops.size → Fine (MM 0) (MM k) := fun k => by
    induction k with
    | zero => intro _; exact Fine.refl _
    | succ k ih =>
      intro hk
      exact (ih (by omega)).trans (run_fine hc hR (Array.getElem?_eq_getElem (by omega))).1
  have := this ops.size (Nat.le_refl _)
  rw [hM, hM'] at this
  exact this

end Go.Sx
