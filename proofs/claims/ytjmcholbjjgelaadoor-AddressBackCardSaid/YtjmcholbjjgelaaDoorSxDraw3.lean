/- The abstract evaluator: a drawn region, whole. -/
import Derived.Test.YtjmcholbjjgelaaDoorSxDraw2
namespace Go.Sx
noncomputable section
set_option linter.unusedVariables false
open Go.RowKit

def cnt : List Bool → Nat
  | [] => 0
  | true :: l => cnt l
  | false :: l => cnt l + 1
theorem cnt_set : ∀ (l : List Bool) (i : Nat), l[i]? = some false → cnt (l.set i true) + 1 = cnt l
  | [], i, h => by simp at h
  | b :: l, 0, h => by simp at h; subst h; simp [cnt]
  | b :: l, i + 1, h => by
    have := cnt_set l i (by simpa using h)
    cases b <;> simp [cnt, this]
theorem cnt_zero : ∀ (l : List Bool), cnt l = 0 → ∀ (i : Nat) (b : Bool), l[i]? = some b → b = true
  | [], h, i, b, hi => by simp at hi
  | true :: l, h, i, b, hi => by
    cases i with
    | zero => simpa using hi.symm
    | succ i => exact cnt_zero l (by simpa [cnt] using h) i b (by simpa using hi)
  | false :: l, h, i, b, hi => by simp [cnt] at h

theorem MRel.drew {g : Gh} {w0 : World} {F : Nat → Prop} {m : Me} {w : World} (h : MRel g w0 F m w) (d : Nat) : MRel g w0 F m { w with drawn := d } :=
  ⟨h.n, h.even, h.heap, h.inj, h.frame, h.keep, h.os, h.tape, h.output, h.size, h.glob⟩

section
variable {P : Program} {T : Tab} (hT : TabOk P T) {cf : CallF} (hcf : SoundCall P cf) {r : Nat} {ops : Array Oper} (hok : DrawOk ops) {fl : List Flt} {FF : Nat → Fra} {MM : Nat → Me} {VV : Nat → SV} {RT : Nat → Option Nat × Option Nat}
  (hR : Runs P T cf r ops fl FF MM VV RT) {n0 : Nat} {f0 : Fra} (hfl : FlOk P ops f0 fl (MM 0) n0) {w0 : World} {F : Nat → Prop} {D : List Deferred} {ro : Option Nat} {Q : Exit → Act → World → Prop}

include hok in
/-- what isn't listed has a least one, and that may be taken -/
theorem all_listed {listed : Array Bool} (hsz : listed.size = ops.size) (hnil : Region.ready .any ops listed = []) : ∀ j, j < ops.size → listed.getD j false = true := by
  intro j
  induction j using Nat.strongRecOn with
  | _ j ih =>
    intro hj
    cases hl : listed.getD j false with
    | true => rfl
    | false =>
      have hoj : ops[j]? = some ops[j] := Array.getElem?_eq_getElem hj
      have hjs : j < listed.size := by omega
      have : j ∈ Region.ready .any ops listed := mem_ready.2 ⟨by
        rw [Array.getD_eq_getD_getElem?, Array.getElem?_eq_getElem hjs] at hl ⊢
        exact hl, _, hoj, fun e he hb => by
          have hlt := hok.edge j _ hoj e he (by rw [← bindsAny_eq]; exact hb)
          exact ih e.on hlt (by omega)⟩
      rw [hnil] at this
      cases this

include hT hcf hok hR hfl in
theorem any_sound (hvc : AllP (MM ops.size).vc) {g0 : Gh} (hn0 : g0.n ≤ n0)
    (hQ : ∀ g' a' w', Ext g0 g' → FRel g' (FF ops.size) a' → MRel g' w0 F (MM ops.size) w' → a'.defers = D → Q .normal a' w') :
    ∀ (fuel : Nat) (listed : Array Bool) (g : Gh) (a : Act) (w : World) (c : Nat), listed.size = ops.size → cnt listed.toList = fuel → Ext g0 g →
      At ops fl FF MM VV g w0 F D (fun j => listed.getD j false) a w c → wpAnyIn (FW ro) 0 P .any ops Q fuel listed a w := by
  intro fuel
  have done : ∀ (listed : Array Bool) (g : Gh) (a : Act) (w : World) (c : Nat), listed.size = ops.size → Ext g0 g → At ops fl FF MM VV g w0 F D (fun j => listed.getD j false) a w c →
      (∀ j, j < ops.size → listed.getD j false = true) → Q .normal a w := fun listed g a w c hsz he hat hall => by
    obtain ⟨h1, h2⟩ := hat.last hcf hR hall (fun x hx => by
      obtain ⟨_, _, o, ob, ho, _⟩ := hfl.at' x hx
      exact (Array.getElem?_eq_some_iff.1 ho).1)
    exact hQ g a w he h1 h2 hat.defers
  induction fuel with
  | zero =>
    intro listed g a w c hsz hcnt he hat
    have hall : ∀ j, j < ops.size → listed.getD j false = true := fun j hj => by
      have hjs : j < listed.size := by omega
      rw [Array.getD_eq_getD_getElem?, Array.getElem?_eq_getElem hjs]
      exact cnt_zero _ hcnt j _ (by simp [hjs])
    refine ⟨?_, done listed g a w c hsz he hat hall⟩
    apply List.eq_nil_iff_forall_not_mem.2
    intro j hj
    obtain ⟨h0, o, ho, _⟩ := mem_ready.1 hj
    have hlt := (Array.getElem?_eq_some_iff.1 ho).1
    have := hall j hlt
    rw [Array.getD_eq_getD_getElem?, Array.getElem?_eq_getElem (by omega)] at this h0
    simp at this h0
    rw [h0] at this; cases this
  | succ fuel ih =>
    intro listed g a w c hsz hcnt he hat
    refine ⟨fun hnil => done listed g a w c hsz he hat (all_listed hok hsz hnil), fun i hi => ?_⟩
    obtain ⟨h0, o, ho, hall⟩ := mem_ready.1 hi
    have hlt := (Array.getElem?_eq_some_iff.1 ho).1
    have his : i < listed.size := by omega
    have h0' : listed[i]? = some false := by
      rw [Array.getD_eq_getD_getElem?, Array.getElem?_eq_getElem his] at h0
      rw [Array.getElem?_eq_getElem his]
      simpa using h0
    have hun : listed.getD i false = false := by rw [Array.getD_eq_getD_getElem?, h0']; rfl
    unfold wpOpIn
    simp only [ho]
    refine hat.step hT hcf hok hR hfl ho hun (fun j hb => ?_) (L' := fun j => (listed.setIfInBounds i true).getD j false) (fun j => ?_) hvc he hn0 fun g' a' w' c' he' hat' => ?_
    · obtain ⟨e, hem, hb', h⟩ := befs_at (by simpa using ho) hb
      have hle := hall e (by simpa using hem) (by rw [bindsAny_eq]; exact hb')
      rcases h with h | ⟨_, h⟩
      · rw [← h]; exact hle
      · exact hat.closed e.on hle j h
    · simp only [Array.getD_eq_getD_getElem?]
      by_cases e : i = j
      · subst e
        simp [his]
      · rw [Array.getElem?_setIfInBounds, if_neg e]
        constructor
        · exact .inr
        · rintro (h | h)
          · exact absurd h.symm e
          · exact h
    · refine ih _ g' a' w' c' (by simpa using hsz) ?_ he' hat'
      have := cnt_set listed.toList i (by simpa using h0')
      simp only [Array.toList_setIfInBounds]
      omega

omit hT hcf in
theorem run_more {ops : Array Oper} {fl : List Flt} {FF : Nat → Fra} {MM : Nat → Me} {VV : Nat → SV} {RT : Nat → Option Nat × Option Nat} {r : Nat} (hR : Runs P T cf r ops fl FF MM VV RT) : ∀ i, i ≤ ops.size → (FF i).dm = (FF 0).dm ∧ (FF i).rd = (FF 0).rd
  | 0, _ => ⟨rfl, rfl⟩
  | i + 1, hi => by
    obtain ⟨h1, h2⟩ := run_more hR i (by omega)
    obtain ⟨k1, k2⟩ := put_more (hR i _ (Array.getElem?_eq_getElem (by omega))).put
    exact ⟨k1.trans h1, k2.trans h2⟩

include hT hcf in
theorem draw_sound {C : Ctx} {s s' : St} (hdr : drawOk ops = true) (h : evOpsD P T cf r ops.toList (befs ops.toList []) s = some s') (hvc : AllP s'.m.vc) {g : Gh} {a : Act} {w : World} (hs : SRel g w0 F C s a w)
    (hQ : ∀ g' a' w', Ext g g' → SRel g' w0 F C s' a' w' → Q .normal a' w') : (Code.region r ops true).wpIn (FW C.ro) 0 P Q a w := by
  have hok := drawOk_spec hdr
  obtain ⟨f, m⟩ := s
  simp only [evOpsD] at h
  split at h
  · rename_i fl m1 hfloat
    obtain ⟨FF, MM, VV, RT, hF, hM, hF', hM', _, hrun⟩ := evOpsD_run _ _ 0 [] ⟨f, m1⟩ s' h rfl
    simp only [Nat.zero_add, Array.length_toList] at hF' hM' hrun
    have hR : Runs P T cf r ops fl FF MM VV RT := fun j o ho => by
      obtain ⟨b, hb, hr⟩ := hrun j o (by simpa using ho)
      have : befOf ops j = b := by simp [befOf, List.getD_eq_getElem?_getD, hb]
      rw [this]
      exact hr
    have hvc1 : AllP m1.vc := by
      have := (run_nx hcf.fine hR ops.size 0 (by omega)).2
      rw [Nat.zero_add, hM', hM] at this
      exact this hvc
    have hno : ∀ b, m.nx ≤ b → m.h.get b = none := fun b hb => by
      cases hg : m.h.get b with
      | none => rfl
      | some o =>
        have := (hs.me.heap b o hg).1.1
        rw [hs.me.n] at this
        simp only at this
        omega
    obtain ⟨_, q1, q2, q3, q4, q5, q6, q7, q8, q9, q10⟩ := floats_spec hT ops.toList 0 m fl m1 hfloat hs.me.even hno hvc1
    have hfl : FlOk P ops f fl (MM 0) m.nx := by
      rw [hM]
      refine ⟨fun x hx => ?_, q8, q9, fun j o ho hf => ?_⟩
      · obtain ⟨_, h1, h2, o, ob, h3, h4, h5⟩ := q7 x hx
        exact ⟨h1, h2, o, ob, by simpa using h3, h4, h5⟩
      · obtain ⟨x, hx, hxi⟩ := q10 j o (by simpa using ho) hf
        exact ⟨x, hx, by omega⟩
    refine wpIn_region_any hT.mixed ?_
    have hrep : ∀ j, (Array.replicate ops.size false).getD j false = false := fun j => by
      rw [Array.getD_eq_getD_getElem?, Array.getElem?_replicate]
      split <;> rfl
    have hcnt : ∀ n, cnt (List.replicate n false) = n := fun n => by
      induction n with
      | zero => rfl
      | succ n ih => simp [List.replicate_succ, cnt, ih]
    have hext : Ext g (g.ahead m1.nx) := g.ahead_ext (by rw [hs.me.n]; exact q1)
    have hm1 : MRel (g.ahead m1.nx) w0 F (hideAll (undone (fun j => (Array.replicate ops.size false).getD j false) fl) m1) { w with drawn := w.drawn + 1 } := by
      obtain ⟨u1, _, _, u4⟩ := hideAll_spec (undone (fun j => (Array.replicate ops.size false).getD j false) fl) m1
      have := (hs.me.drew (w.drawn + 1)).ahead (m1 := hideAll (undone (fun j => (Array.replicate ops.size false).getD j false) fl) m1) (by rw [u1]; exact q1) (by rw [u1]; exact q2) (fun b o hb => by
        rw [u4 b] at hb
        split at hb
        · cases hb
        · rename_i hnu
          rcases Nat.lt_or_ge b m.nx with hlt | hge
          · rw [q5 b hlt] at hb; exact hb
          · obtain ⟨x, hx, hxb⟩ := q6 b hge (by rw [hb]; rfl)
            exact absurd ((undone_mem fl b).2 ⟨x, hx, hrep _, hxb⟩) hnu)
      rw [u1] at this
      exact this
    have hstart : At ops fl FF MM VV (g.ahead m1.nx) w0 F a.defers (fun j => (Array.replicate ops.size false).getD j false) a { w with drawn := w.drawn + 1 } 0 := by
      refine ⟨fun k hk => ?_, Nat.zero_le _, fun j o _ _ _ => ?_, ?_, fun x hx _ => ?_, rfl, ?_, fun t _ => ?_, fun t j o _ _ hl => ?_⟩
      · simp only [hrep] at hk; cases hk
      · simp only [hrep]; simp
      · rw [hM]; exact hm1
      · show (if x.b < g.n then g.ho x.b else true) = true
        rw [if_neg]
        rw [hs.me.n]
        have := (q7 x hx).2.1
        simp only
        omega
      · rw [hF]; exact hs.fr.nt
      · rw [hF]; exact VR.ext hext _ _ (hs.fr.slots t)
      · simp only [hrep] at hl; cases hl
    have hend : ∀ g' a' w', Ext g g' → FRel g' (FF ops.size) a' → MRel g' w0 F (MM ops.size) w' → a'.defers = a.defers → Q .normal a' w' := fun g' a' w' he h1 h2 h3 => by
      obtain ⟨k1, k2⟩ := run_more hR ops.size (Nat.le_refl _)
      refine hQ g' a' w' he (hs.step he ?_ ?_ h3 ?_ ?_)
      · rw [← hF']; exact h1
      · rw [← hM']; exact h2
      · rw [← hF', k1, hF]
      · rw [← hF', k2, hF]
    exact any_sound hT hcf hok hR hfl (by rw [hM']; exact hvc) (by rw [hs.me.n]; exact Nat.le_refl _) hend ops.size _ _ a _ 0 (by simp) (by simp [hcnt]) hext hstart
  · cases h
end

theorem floats_fine {T : Tab} {r : Nat} {f : Fra} : ∀ (ops : List Oper) (i : Nat) (m : Me) (fl : List Flt) (m' : Me), floats T r f ops i m = some (fl, m') → Fine m m'
  | [], i, m, fl, m', h => by
    simp only [floats, Option.some.injEq, Prod.mk.injEq] at h
    obtain ⟨_, rfl⟩ := h
    exact Fine.refl _
  | o :: ops, i, m, fl, m', h => by
    simp only [floats] at h
    split at h
    · exact floats_fine ops _ _ _ _ h
    · split at h
      · rename_i v m1 hlay
        split at h
        · rename_i l m2 hrest
          simp only [Option.some.injEq, Prod.mk.injEq] at h
          obtain ⟨_, rfl⟩ := h
          refine Fine.trans ?_ (floats_fine ops _ _ _ _ hrest)
          unfold layFl at hlay
          split at hlay
          · exact (alloc_turn hlay none).1
          · exact (makeSlice_turn hlay none).1
          · cases hlay
        · cases h
      · cases h
theorem evOpsD_fine {P : Program} {T : Tab} {cf : CallF} (hc : FineCall cf) {r : Nat} {ops : Array Oper} {s s' : St} (h : evOpsD P T cf r ops.toList (befs ops.toList []) s = some s') : Fine s.m s'.m := by
  obtain ⟨f, m⟩ := s
  simp only [evOpsD] at h
  split at h
  · rename_i fl m1 hfloat
    obtain ⟨FF, MM, VV, RT, hF, hM, hF', hM', _, hrun⟩ := evOpsD_run _ _ 0 [] ⟨f, m1⟩ s' h rfl
    simp only [Nat.zero_add, Array.length_toList] at hF' hM' hrun
    have hR : Runs P T cf r ops fl FF MM VV RT := fun j o ho => by
      obtain ⟨b, hb, hr⟩ := hrun j o (by simpa using ho)
      have : befOf ops j = b := by simp [befOf, List.getD_eq_getElem?_getD, hb]
      rw [this]
      exact hr
    have : ∀ k, k ≤ ops.size → Fine (MM 0) (MM k) := fun k => by
      induction k with
      | zero => intro _; exact Fine.refl _
      | succ k ih =>
        intro hk
        exact (ih (by omega)).trans (run_fine hc hR (Array.getElem?_eq_getElem (by omega))).1
    have := this ops.size (Nat.le_refl _)
    rw [hM, hM'] at this
    exact (floats_fine _ _ _ _ _ hfloat).trans this
  · cases h

end
end Go.Sx
