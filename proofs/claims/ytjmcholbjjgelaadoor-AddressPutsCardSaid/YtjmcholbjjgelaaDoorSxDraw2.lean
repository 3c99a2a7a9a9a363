/- The abstract evaluator: a region whose order is open: whatever order is drawn. -/
import Derived.Test.YtjmcholbjjgelaaDoorSxDraw
namespace Go.Sx
set_option linter.unusedVariables false
open Go.RowKit

theorem valOp_heap {P : Program} {T : Tab} {h h' : Heap} {ρ : Operand → SV} {o : Oper} (hb : ∀ b, readOf ρ o = some b → h.get b = h'.get b) : valOp P T h ρ o = valOp P T h' ρ o := by
  unfold valOp
  split <;> try rfl
  · rename_i t a ho
    unfold vLoad
    split
    · rename_i b off ha
      have := hb b (by simp only [readOf, ho, ha])
      simp only [loadS, cellsOf?, this]
    · rfl
  · rename_i src dst x ho
    unfold vConvert
    split
    · rename_i b off len own hx
      have := hb b (by simp only [readOf, ho, hx])
      simp only [strOf, cellsOf?, this]
    all_goals rfl

theorem isCall_eff {o : Oper} (h : isCall o = true) : isEff o.op = true := by
  unfold isCall at h
  split at h
  · rename_i c hc
    split at h
    · cases h
    · rename_i hb
      simp only [isEff, hc, isEffCall]
  · cases h

section
variable {P : Program} {T : Tab} {cf : CallF} (hcf : FineCall cf) {r : Nat} {ops : Array Oper} {FF : Nat → Fra} {MM : Nat → Me} {VV : Nat → SV} {RT : Nat → Option Nat × Option Nat}

/-- what is known of the run at every operation -/
def Runs (P : Program) (T : Tab) (cf : CallF) (r : Nat) (ops : Array Oper) (FF : Nat → Fra) (MM : Nat → Me) (VV : Nat → SV) (RT : Nat → Option Nat × Option Nat) : Prop :=
  ∀ (j : Nat) (o : Oper), ops[j]? = some o → Run P T cf r ops.toList FF MM VV RT 0 j o (befOf ops j)

theorem run_quiet {o : Oper} {m m' : Me} {x : Option (SV × Me)} {v : SV} (h : callQuiet o m x = some (v, m')) :
    (isCall o = false ∧ x = some (v, m')) ∨ (isCall o = true ∧ ∃ m1, x = some (v, m1) ∧ m.nx ≤ m1.wm ∧ m' = m1.setWm m.wm) := by
  unfold callQuiet at h
  split at h
  · rename_i hc; exact .inl ⟨hc, h⟩
  · rename_i hc
    split at h
    · rename_i v1 m1
      split at h
      · rename_i hle
        simp only [Option.some.injEq, Prod.mk.injEq] at h
        obtain ⟨rfl, rfl⟩ := h
        exact .inr ⟨hc, m1, rfl, by simpa using hle, rfl⟩
      · cases h
    · cases h
theorem fresh_h (o : Oper) (m : Me) : (fresh o m).h = m.h ∧ (fresh o m).nx = m.nx ∧ (fresh o m).vc = m.vc := by
  unfold fresh
  split
  · exact ⟨Me.setWm_h _ _, Me.setWm_nx _ _, Me.setWm_vc _ _⟩
  · exact ⟨rfl, rfl, rfl⟩

include hcf in
theorem run_fine (hR : Runs P T cf r ops FF MM VV RT) {j : Nat} {o : Oper} (ho : ops[j]? = some o) :
    Fine (MM j) (MM (j + 1)) ∧ (isEff o.op = false → Owes (MM j) (MM (j + 1))) ∧
    (∀ b, b < (MM j).nx → (isEff o.op = true → clash (some b) (RT j).2 = false) → (MM (j + 1)).h.get b = (MM j).h.get b) := by
  have hr := hR j o ho
  rcases run_quiet hr.step with ⟨hc, hx⟩ | ⟨hc, m1, hx, hle, hm⟩
  · have hfr : fresh o (MM j) = MM j := by unfold fresh; rw [hc]
    rw [hfr] at hx
    refine ⟨guarded_fine hcf hx, fun he => ?_, fun b hb hcl => ?_⟩
    · unfold evGuarded at hx
      split at hx
      · unfold evOp at hx
        rw [he] at hx
        exact (val_owes hx).1
      · simp only [Option.some.injEq, Prod.mk.injEq] at hx
        rw [← hx.2]
        exact Owes.refl _
      · cases hx
    · unfold evGuarded at hx
      split at hx
      · unfold evOp at hx
        split at hx
        · rename_i he
          have ht := (eff_turn hcf hx).2 hc
          have hcl := hcl he
          rw [hr.rt] at hcl
          refine ht.2 b hb fun e => ?_
          rw [e] at hcl
          simp [clash] at hcl
        · rw [(val_owes hx).1.h]
      · simp only [Option.some.injEq, Prod.mk.injEq] at hx
        rw [← hx.2]
      · cases hx
  · have hfr : fresh o (MM j) = (MM j).setWm (MM j).nx := by unfold fresh; rw [hc]
    have hf := guarded_fine hcf hx
    rw [hfr] at hf
    have hq : ∀ b, b < (MM j).nx → (MM (j + 1)).h.get b = (MM j).h.get b := fun b hb => by
      have := hf.quiet b (by omega) (by rw [Me.setWm_nx]; exact hb)
      rw [hm, Me.setWm_h, this, Me.setWm_h]
    refine ⟨⟨fun h => ?_, ?_, ?_, fun b hb hn => hq b hn⟩, fun he => ?_, fun b hb _ => hq b hb⟩
    · rw [hm, Me.setWm_vc] at h
      have := hf.mo h
      rwa [Me.setWm_vc] at this
    · have := hf.nx
      rw [Me.setWm_nx] at this
      rw [hm, Me.setWm_nx]
      exact this
    · rw [hm, Me.setWm_wm]; exact Nat.le_refl _
    · rw [isCall_eff hc] at he; cases he

include hcf in
theorem run_upto (hR : Runs P T cf r ops FF MM VV RT) {b : Nat} : ∀ (k j : Nat), j + k ≤ ops.size → b < (MM j).nx → (∀ i o, j ≤ i → i < j + k → ops[i]? = some o → isEff o.op = true → clash (some b) (RT i).2 = false) →
    (MM (j + k)).h.get b = (MM j).h.get b ∧ (MM j).nx ≤ (MM (j + k)).nx
  | 0, j, hk, hb, hcl => ⟨rfl, Nat.le_refl _⟩
  | k + 1, j, hk, hb, hcl => by
    obtain ⟨h1, h2⟩ := run_upto hR k j (by omega) hb fun i o h1 h2 => hcl i o h1 (by omega)
    have ho : ops[j + k]? = some ops[j + k] := Array.getElem?_eq_getElem (by omega)
    obtain ⟨f1, f2, f3⟩ := run_fine hcf hR ho
    have e : j + (k + 1) = j + k + 1 := by omega
    rw [e]
    exact ⟨(f3 b (by omega) fun he => hcl _ _ (by omega) (by omega) ho he).trans h1, Nat.le_trans h2 f1.nx⟩
include hcf in
theorem run_nx (hR : Runs P T cf r ops FF MM VV RT) : ∀ (k j : Nat), j + k ≤ ops.size → (MM j).nx ≤ (MM (j + k)).nx ∧ (AllP (MM (j + k)).vc → AllP (MM j).vc)
  | 0, j, hk => ⟨Nat.le_refl _, id⟩
  | k + 1, j, hk => by
    obtain ⟨h1, h2⟩ := run_nx hR k j (by omega)
    have ho : ops[j + k]? = some ops[j + k] := Array.getElem?_eq_getElem (by omega)
    obtain ⟨f1, _⟩ := run_fine hcf hR ho
    have e : j + (k + 1) = j + k + 1 := by omega
    rw [e]
    exact ⟨Nat.le_trans h1 f1.nx, fun h => h2 (f1.mo h)⟩
include hcf in
/-- without an operation that turns memory, memory stays -/
theorem run_still (hR : Runs P T cf r ops FF MM VV RT) : ∀ (k j : Nat), j + k ≤ ops.size → (∀ i o, j ≤ i → i < j + k → ops[i]? = some o → isEff o.op = false) →
    (MM (j + k)).h = (MM j).h ∧ (MM (j + k)).nx = (MM j).nx
  | 0, j, hk, hcl => ⟨rfl, rfl⟩
  | k + 1, j, hk, hcl => by
    obtain ⟨h1, h2⟩ := run_still hR k j (by omega) fun i o h1 h2 => hcl i o h1 (by omega)
    have ho : ops[j + k]? = some ops[j + k] := Array.getElem?_eq_getElem (by omega)
    have f2 := (run_fine hcf hR ho).2.1 (hcl _ _ (by omega) (by omega) ho)
    have e : j + (k + 1) = j + k + 1 := by omega
    rw [e]
    exact ⟨f2.h.trans h1, f2.nx.trans h2⟩

/-- the last writer of a slot ahead of i -/
theorem run_slot (hR : Runs P T cf r ops FF MM VV RT) (t : Nat) : ∀ i, i ≤ ops.size →
    (FF i).nt = (FF 0).nt ∧
    ((∃ j o, j < i ∧ ops[j]? = some o ∧ o.dst = some t ∧ (∀ k o', j < k → k < i → ops[k]? = some o' → o'.dst ≠ some t) ∧ (FF i).get t = VV j) ∨
     ((∀ j o, j < i → ops[j]? = some o → o.dst ≠ some t) ∧ (FF i).get t = (FF 0).get t))
  | 0, _ => ⟨rfl, .inr ⟨fun j o hj => by omega, rfl⟩⟩
  | i + 1, hi => by
    obtain ⟨hn, ih⟩ := run_slot hR t i (by omega)
    have ho : ops[i]? = some ops[i] := Array.getElem?_eq_getElem (by omega)
    obtain ⟨g1, g2, g3⟩ := Fra.get_put (hR i _ ho).put
    refine ⟨g1.trans hn, ?_⟩
    rw [g3 t]
    by_cases hd : (ops[i]).dst = some t
    · exact .inl ⟨i, _, by omega, ho, hd, fun k o' h1 h2 => by omega, by rw [if_pos hd]⟩
    · rw [if_neg hd]
      have hne : ∀ k o', k = i → ops[k]? = some o' → o'.dst ≠ some t := fun k o' e h => by
        subst e
        rw [ho] at h
        cases h
        exact hd
      rcases ih with ⟨j, o, h1, h2, h3, h4, h5⟩ | ⟨h1, h2⟩
      · refine .inl ⟨j, o, by omega, h2, h3, fun k o' k1 k2 k3 => ?_, h5⟩
        by_cases e : k = i
        · exact hne k o' e k3
        · exact h4 k o' k1 (by omega) k3
      · refine .inr ⟨fun j o k1 k2 => ?_, h2⟩
        by_cases e : j = i
        · exact hne j o e k2
        · exact h1 j o (by omega) k2
end

/-- where a drawn region stands: which operations are behind it -/
structure At (ops : Array Oper) (FF : Nat → Fra) (MM : Nat → Me) (VV : Nat → SV) (g : Gh) (w0 : World) (F : Nat → Prop) (D : List Deferred) (L : Nat → Bool) (a : Act) (w : World) (c : Nat) : Prop where
  closed : ∀ k, L k = true → ∀ j, bit (befOf ops k) j = true → L j = true
  cle : c ≤ ops.size
  eff : ∀ (j : Nat) (o : Oper), ops[j]? = some o → isEff o.op = true → (L j = true ↔ j < c)
  me : MRel g w0 F (MM c) w
  defers : a.defers = D
  nt : (FF 0).nt ≤ a.tmps.size
  slot0 : ∀ t, (∀ (j : Nat) (o : Oper), ops[j]? = some o → o.dst = some t → L j = false) → VR g ((FF 0).get t) (a.tmps.getD t undef)
  slot1 : ∀ (t j : Nat) (o : Oper), ops[j]? = some o → o.dst = some t → L j = true → (∀ (k : Nat) (o' : Oper), j < k → ops[k]? = some o' → o'.dst = some t → L k = false) → VR g (VV j) (a.tmps.getD t undef)

section
variable {P : Program} {T : Tab} (hT : TabOk P T) {cf : CallF} (hcf : SoundCall P cf) {r : Nat} {ops : Array Oper} (hok : DrawOk ops) {FF : Nat → Fra} {MM : Nat → Me} {VV : Nat → SV} {RT : Nat → Option Nat × Option Nat}
  (hR : Runs P T cf r ops FF MM VV RT) {g : Gh} {w0 : World} {F : Nat → Prop} {D : List Deferred} {L : Nat → Bool} {a : Act} {w : World} {c : Nat} (h : At ops FF MM VV g w0 F D L a w c)

include hok h in
/-- what stands to an operation that isn't listed, and may be taken -/
theorem At.order {i : Nat} {o : Oper} (ho : ops[i]? = some o) (hi : L i = false) (hready : ∀ j, bit (befOf ops i) j = true → L j = true) {j : Nat} {oj : Oper} (hj : ops[j]? = some oj) (hne : j ≠ i) :
    (j < i ∧ L j = true) ∨ (i < j ∧ L j = false) ∨
      (bit (befOf ops (max i j)) (min i j) = false ∧ (∀ d, oj.dst = some d → d ∉ o.looksAt ops) ∧ (∀ d, o.dst = some d → d ∉ oj.looksAt ops) ∧ (∀ d, o.dst = some d → oj.dst ≠ some d) ∧ (isEff oj.op = true → isEff o.op = true → False)) := by
  rcases Nat.lt_or_gt_of_ne hne with hlt | hgt
  · cases hb : bit (befOf ops i) j with
    | true => exact .inl ⟨hlt, hready j hb⟩
    | false =>
      obtain ⟨h1, h2⟩ := hok.pair i j o oj ho hj hlt hb
      obtain ⟨a1, a2, a3⟩ := Oper.apart_spec h1
      refine .inr (.inr ⟨?_, a1, a3, fun d hd hd' => a2 d hd' hd, h2⟩)
      rw [Nat.max_eq_left (by omega), Nat.min_eq_right (by omega)]; exact hb
  · cases hb : bit (befOf ops j) i with
    | true =>
      refine .inr (.inl ⟨hgt, ?_⟩)
      cases hl : L j with
      | false => rfl
      | true => have := h.closed j hl i hb; rw [hi] at this; cases this
    | false =>
      obtain ⟨h1, h2⟩ := hok.pair j i oj o hj ho hgt hb
      obtain ⟨a1, a2, a3⟩ := Oper.apart_spec h1
      refine .inr (.inr ⟨?_, a3, a1, fun d hd => a2 d hd, fun x y => h2 y x⟩)
      rw [Nat.max_eq_right (by omega), Nat.min_eq_left (by omega)]; exact hb

include hok h hR in
theorem At.look {i : Nat} {o : Oper} (ho : ops[i]? = some o) (hi : L i = false) (hready : ∀ j, bit (befOf ops i) j = true → L j = true) : LRel g (FF i) a ops o := by
  have hsz : i < ops.size := (Array.getElem?_eq_some_iff.1 ho).1
  refine ⟨by rw [(run_slot hR 0 i (by omega)).1]; exact h.nt, fun t ht => ?_⟩
  have wr : ∀ (j : Nat) (oj : Oper), ops[j]? = some oj → oj.dst = some t → (j < i ∧ L j = true) ∨ (i ≤ j ∧ L j = false) := fun j oj hj hd => by
    by_cases e : j = i
    · subst e; exact .inr ⟨Nat.le_refl _, hi⟩
    · rcases h.order hok ho hi hready hj e with h1 | ⟨h1, h2⟩ | ⟨_, h1, _⟩
      · exact .inl h1
      · exact .inr ⟨by omega, h2⟩
      · exact absurd ht (h1 t hd)
  rcases (run_slot hR t i (by omega)).2 with ⟨j, oj, h1, h2, h3, h4, h5⟩ | ⟨h1, h2⟩
  · rw [h5]
    refine h.slot1 t j oj h2 h3 ?_ fun k o' k1 k2 k3 => ?_
    · rcases wr j oj h2 h3 with hh | hh
      · exact hh.2
      · omega
    · rcases wr k o' k2 k3 with hh | hh
      · exact absurd k3 (h4 k o' k1 hh.1 k2)
      · exact hh.2
  · rw [h2]
    refine h.slot0 t fun j oj hj hd => ?_
    rcases wr j oj hj hd with hh | hh
    · exact absurd hd (h1 j oj hh.1 hj)
    · exact hh.2

include hok h hR in
theorem At.next {i : Nat} {o : Oper} (ho : ops[i]? = some o) (hi : L i = false) (hready : ∀ j, bit (befOf ops i) j = true → L j = true) {L' : Nat → Bool} (hL : ∀ j, L' j = true ↔ j = i ∨ L j = true)
    {g' : Gh} (he : Ext g g') {w' : World} {c' : Nat} (hc : c' ≤ ops.size) (heff : ∀ (j : Nat) (o : Oper), ops[j]? = some o → isEff o.op = true → (L' j = true ↔ j < c')) (hm : MRel g' w0 F (MM c') w')
    {v : Value} (hv : VR g' (VV i) v) : At ops FF MM VV g' w0 F D L' (a.put o.dst v) w' c' := by
  have hsz : i < ops.size := (Array.getElem?_eq_some_iff.1 ho).1
  have hL0 : ∀ j, L' j = false → j ≠ i ∧ L j = false := fun j hj => by
    refine ⟨fun e => ?_, ?_⟩
    · have := (hL j).2 (.inl e); rw [hj] at this; cases this
    · cases hl : L j with
      | false => rfl
      | true => have := (hL j).2 (.inr hl); rw [hj] at this; cases this
  obtain ⟨p1, p2, p3⟩ := Fra.get_put (hR i o ho).put
  have hsame : ∀ t, o.dst ≠ some t → (a.put o.dst v).tmps.getD t undef = a.tmps.getD t undef := fun t hne => by
    cases hd : o.dst with
    | none => rfl
    | some d =>
      have hdt : d ≠ t := fun e => hne (by rw [hd, e])
      simp only [Act.put]
      rw [Array.getD_eq_getD_getElem?, Array.getElem?_setIfInBounds, if_neg hdt, ← Array.getD_eq_getD_getElem?]
  refine ⟨fun k hk j hb => ?_, hc, heff, hm, by rw [put_defers]; exact h.defers, ?_, fun t ht => ?_, fun t j oj hj hd hl hlast => ?_⟩
  · rcases (hL k).1 hk with rfl | hk
    · exact (hL j).2 (.inr (hready j hb))
    · exact (hL j).2 (.inr (h.closed k hk j hb))
  · have := h.nt
    cases hd : o.dst <;> simpa [Act.put] using this
  · have hne : o.dst ≠ some t := fun e => (hL0 i (ht i o ho e)).1 rfl
    rw [hsame t hne]
    exact VR.ext he _ _ (h.slot0 t fun j oj hj hd => (hL0 j (ht j oj hj hd)).2)
  · by_cases hdt : o.dst = some t
    · have hji : j = i := by
        rcases (hL j).1 hl with e | hl'
        · exact e
        · refine Classical.byContradiction fun hne => ?_
          rcases h.order hok ho hi hready hj hne with ⟨h1, _⟩ | ⟨h1, h2⟩ | ⟨_, _, _, h3, _⟩
          · have := (hL0 i (hlast i o h1 ho hdt)).1
            exact this rfl
          · rw [h2] at hl'; cases hl'
          · exact h3 t hdt hd
      subst hji
      have hlt : t < a.tmps.size := Nat.lt_of_lt_of_le (p2 t hdt) (by rw [(run_slot hR 0 j (by omega)).1]; exact h.nt)
      rw [hdt]
      simp only [Act.put]
      rw [Array.getD_eq_getD_getElem?, Array.getElem?_setIfInBounds]
      simpa [hlt] using hv
    · rw [hsame t hdt]
      rcases (hL j).1 hl with e | hl'
      · subst e
        rw [ho] at hj
        cases hj
        exact absurd hd hdt
      · exact VR.ext he _ _ (h.slot1 t j oj hj hd hl' fun k o' k1 k2 k3 => (hL0 k (hlast k o' k1 k2 k3)).2)

include hT hcf hok h hR in
/-- one operation, in whatever order -/
theorem At.step {i : Nat} {o : Oper} (ho : ops[i]? = some o) (hi : L i = false) (hready : ∀ j, bit (befOf ops i) j = true → L j = true) {L' : Nat → Bool} (hL : ∀ j, L' j = true ↔ j = i ∨ L j = true)
    (hvc : AllP (MM ops.size).vc) {ro : Option Nat} {K : Act → World → Prop} {Q : Exit → Act → World → Prop}
    (hK : ∀ g' a' w' c', Ext g g' → At ops FF MM VV g' w0 F D L' a' w' c' → K a' w') :
    if Region.wanted o (yielded ops a.tmps) = true then o.wpIn (FW ro) 0 P a w K Q else (∀ f, o.about P w a.eval = some f → (FW ro).fn f) ∧ K (a.put o.dst undef) w := by
  have hsz : i < ops.size := (Array.getElem?_eq_some_iff.1 ho).1
  have hlook := h.look hok hR ho hi hready
  have hr := hR i o ho
  have hvi : AllP (MM (i + 1)).vc := by
    have := (run_nx hcf.fine hR (ops.size - (i + 1)) (i + 1) (by omega)).2
    rw [show i + 1 + (ops.size - (i + 1)) = ops.size by omega] at this
    exact this hvc
  cases he : isEff o.op with
  | true =>
    have key : ∀ j oj, ops[j]? = some oj → isEff oj.op = true → (L j = true ↔ j < i) := fun j oj hj hej => by
      by_cases e : j = i
      · subst e; rw [hi]; simp
      · rcases h.order hok ho hi hready hj e with ⟨h1, h2⟩ | ⟨h1, h2⟩ | ⟨_, _, _, _, h3⟩
        · rw [h2]; simp [h1]
        · rw [h2]; simp; omega
        · exact (h3 hej he).elim
    have hci : c ≤ i := by
      have := h.eff i o ho he
      rw [hi] at this
      simp at this
      exact this
    have hstill := run_still hcf.fine hR (i - c) c (by omega) fun j oj h1 h2 hj => by
      cases hej : isEff oj.op with
      | false => rfl
      | true =>
        have k1 := (key j oj hj hej).2 (by omega)
        have k2 := (h.eff j oj hj hej).1 k1
        omega
    rw [show c + (i - c) = i by omega] at hstill
    have hmi : MRel g w0 F (fresh o (MM i)) w := h.me.same (by rw [(fresh_h o (MM i)).1, hstill.1]) (by rw [(fresh_h o (MM i)).2.1, hstill.2])
    obtain ⟨m1, hg, hm1, hvc1⟩ : ∃ m1, evGuarded P T cf r ops.toList i o (FF i) (fresh o (MM i)) = some (VV i, m1) ∧ ((MM (i + 1)).h = m1.h ∧ (MM (i + 1)).nx = m1.nx) ∧ AllP m1.vc := by
      rcases run_quiet hr.step with ⟨_, hx⟩ | ⟨_, m1, hx, _, hm⟩
      · exact ⟨_, hx, ⟨rfl, rfl⟩, hvi⟩
      · exact ⟨m1, hx, by rw [hm, Me.setWm_h, Me.setWm_nx]; exact ⟨rfl, rfl⟩, by rw [hm, Me.setWm_vc] at hvi; exact hvi⟩
    refine op_sound hT hcf hlook hmi hg hvc1 fun v w' ht => ?_
    obtain ⟨g', hext, hm', hv⟩ := ht
    refine hK g' _ w' (i + 1) hext (h.next hok hR ho hi hready hL hext (by omega) (fun j oj hj hej => ?_) (hm'.same hm1.1 hm1.2) hv)
    rw [hL j, key j oj hj hej]
    omega
  | false =>
    have hnc : isCall o = false := by
      cases hc : isCall o with
      | false => rfl
      | true => rw [isCall_eff hc] at he; cases he
    have hx : evGuarded P T cf r ops.toList i o (FF i) (MM i) = some (VV i, MM (i + 1)) := by
      rcases run_quiet hr.step with ⟨_, hx⟩ | ⟨hc, _⟩
      · have hfr : fresh o (MM i) = MM i := by unfold fresh; rw [hnc]
        rw [hfr] at hx
        exact hx
      · rw [hnc] at hc; cases hc
    have fin : ∀ v, VR g (VV i) v → K (a.put o.dst v) w := fun v hv => by
      refine hK g _ w c (Ext.refl g) (h.next hok hR ho hi hready hL (Ext.refl g) h.cle (fun j oj hj hej => ?_) h.me hv)
      rw [hL j, h.eff j oj hj hej]
      constructor
      · rintro (rfl | hh)
        · rw [ho] at hj; cases hj; rw [he] at hej; cases hej
        · exact hh
      · exact .inr
    unfold evGuarded at hx
    split at hx
    · rename_i hw
      rw [if_pos (wanted_spec hlook rfl hw)]
      unfold evOp at hx
      rw [he] at hx
      obtain ⟨hows, hval⟩ := val_owes hx
      have hval := hval hvi
      refine val_op hT hlook h.me (sv := VV i) ?_ fin
      rw [← hval]
      refine valOp_heap fun b hb => ?_
      have hrd : (RT i).1 = some b := by rw [hr.rt]; exact hb
      have hbi : b < (MM i).nx := by
        have := hr.rd
        rw [hrd] at this
        simpa [rdLt] using this
      rcases Nat.le_total c i with hci | hic
      · have hbc : b < (MM c).nx := by
          rw [← h.me.n]
          have hops : ∀ x ∈ o.op.operands, VR g (evO (FF i) x) (a.eval x) := hlook.operand h.me.glob
          unfold readOf at hb
          split at hb
          · rename_i t x hox
            have := hops x (by simp [hox, Op.operands])
            split at hb
            · rename_i b' off hab
              simp only [Option.some.injEq] at hb
              rw [hab] at this
              simp only [VR] at this
              rw [← hb]; exact this.1
            · cases hb
          · rename_i src dst x hox
            have := hops x (by simp [hox, Op.operands])
            split at hb
            · rename_i b' off len own hab
              simp only [Option.some.injEq] at hb
              rw [hab] at this
              simp only [VR] at this
              rw [← hb]; exact this.1
            · cases hb
          · cases hb
        have := (run_upto hcf.fine hR (i - c) c (by omega) hbc fun j oj h1 h2 hj hej => by
          have hlt : j < i := by omega
          have hun : L j = false := by
            cases hl : L j with
            | false => rfl
            | true => have := (h.eff j oj hj hej).1 hl; omega
          have hbit : bit (befOf ops i) j = false := by
            cases hb' : bit (befOf ops i) j with
            | false => rfl
            | true => have := hready j hb'; rw [hun] at this; cases this
          have := (hr.dyn j hlt hbit).1
          rw [hrd] at this
          exact this).1
        rw [show c + (i - c) = i by omega] at this
        exact this.symm
      · have := (run_upto hcf.fine hR (c - i) i (by have := h.cle; omega) hbi fun j oj h1 h2 hj hej => by
          have hne : j ≠ i := by
            intro e
            subst e
            rw [ho] at hj; cases hj
            rw [he] at hej; cases hej
          have hl : L j = true := (h.eff j oj hj hej).2 (by omega)
          have hbit : bit (befOf ops j) i = false := by
            cases hb' : bit (befOf ops j) i with
            | false => rfl
            | true => have := h.closed j hl i hb'; rw [hi] at this; cases this
          have := ((hR j oj hj).dyn i (by omega) hbit).2
          rw [hrd] at this
          exact this).1
        rw [show i + (c - i) = c by omega] at this
        exact this
    · rename_i hw
      have := wanted_spec hlook rfl hw
      rw [if_neg (by rw [this]; decide)]
      simp only [Option.some.injEq, Prod.mk.injEq] at hx
      exact ⟨fun _ _ => trivial, fin undef (by rw [← hx.1]; simp [undefS, VR])⟩
    · cases hx

include hcf h hR in
theorem At.last (hall : ∀ j, j < ops.size → L j = true) : FRel g (FF ops.size) a ∧ MRel g w0 F (MM ops.size) w := by
  refine ⟨⟨by rw [(run_slot hR 0 ops.size (Nat.le_refl _)).1]; exact h.nt, fun t => ?_⟩, ?_⟩
  · rcases (run_slot hR t ops.size (Nat.le_refl _)).2 with ⟨j, oj, h1, h2, h3, h4, h5⟩ | ⟨h1, h2⟩
    · rw [h5]
      exact h.slot1 t j oj h2 h3 (hall j h1) fun k o' k1 k2 k3 => absurd k3 (h4 k o' k1 (Array.getElem?_eq_some_iff.1 k2).1 k2)
    · rw [h2]
      exact h.slot0 t fun j oj hj hd => absurd hd (h1 j oj (Array.getElem?_eq_some_iff.1 hj).1 hj)
  · have hstill := run_still hcf.fine hR (ops.size - c) c (by have := h.cle; omega) fun j oj h1 h2 hj => by
      cases hej : isEff oj.op with
      | false => rfl
      | true =>
        have := (h.eff j oj hj hej).1 (hall j (Array.getElem?_eq_some_iff.1 hj).1)
        omega
    rw [show c + (ops.size - c) = ops.size by have := h.cle; omega] at hstill
    exact h.me.same hstill.1 hstill.2
end

end Go.Sx
