/- The abstract evaluator: a region whose order is fixed. -/
import Derived.Test.YtjmcholbjjgelaaDoorSxOp
namespace Go.Sx
noncomputable section
set_option linter.unusedVariables false
open Go.RowKit

/-- whose deferred calls lie below, and of which loop's round the frame is -/
structure Ctx where
  ds : List Deferred
  ro : Option Nat
def mark (g : Gh) (b : Nat) : Deferred := { target := .collected (g.σ b), args := #[] }
def RdOk (g : Gh) (ro : Option Nat) : Option (Option Nat) → Prop
  | none => True
  | some none => ro = none
  | some (some b) => g.has b ∧ ro = some (g.σ b)
structure SRel (g : Gh) (w0 : World) (F : Nat → Prop) (D : Ctx) (s : St) (a : Act) (w : World) : Prop where
  fr : FRel g s.f a
  me : MRel g w0 F s.m w
  defers : a.defers = s.f.dm.map (mark g) ++ D.ds
  marks : ∀ b ∈ s.f.dm, g.has b
  rd : RdOk g D.ro s.f.rd
theorem RdOk.ext {g g' : Gh} (e : Ext g g') {ro : Option Nat} {x : Option (Option Nat)} (h : RdOk g ro x) : RdOk g' ro x := by
  rcases x with _ | _ | b
  · trivial
  · exact h
  · exact ⟨e.has h.1, by rw [e.σ b h.1]; exact h.2⟩
theorem marks_ext {g g' : Gh} (e : Ext g g') {l : List Nat} (h : ∀ b ∈ l, g.has b) : l.map (mark g') = l.map (mark g) :=
  List.map_congr_left fun b hb => by simp only [mark, e.σ b (h b hb)]
theorem SRel.step {g g' : Gh} {w0 : World} {F : Nat → Prop} {D : Ctx} {s s' : St} {a a' : Act} {w w' : World} (h : SRel g w0 F D s a w) (e : Ext g g') (hf : FRel g' s'.f a') (hm : MRel g' w0 F s'.m w')
    (hd : a'.defers = a.defers) (h1 : s'.f.dm = s.f.dm) (h2 : s'.f.rd = s.f.rd) : SRel g' w0 F D s' a' w' :=
  ⟨hf, hm, by rw [hd, h1, marks_ext e h.marks]; exact h.defers, fun b hb => e.has (h.marks b (by rw [← h1]; exact hb)), by rw [h2]; exact h.rd.ext e⟩
theorem put_more {f f' : Fra} {d : Option Tmp} {v : SV} (h : f.put d v = some f') : f'.dm = f.dm ∧ f'.rd = f.rd := by
  unfold Fra.put at h
  split at h
  · split at h
    split at h
    · simp only [Option.some.injEq] at h
      subst h
      exact ⟨rfl, rfl⟩
    · cases h
  · simp only [Option.some.injEq] at h
    subst h
    exact ⟨rfl, rfl⟩

theorem put_defers (a : Act) (d : Option Tmp) (v : Value) : (a.put d v).defers = a.defers := by cases d <;> rfl

theorem putMe_spec {f : Fra} {d : Option Tmp} {x : Option (SV × Me)} {s : St} (h : putMe f d x = some s) : ∃ v m f', x = some (v, m) ∧ f.put d v = some f' ∧ s = ⟨f', m⟩ := by
  unfold putMe at h
  split at h
  · rename_i v m
    split at h
    · rename_i f' hf
      simp only [Option.some.injEq] at h
      exact ⟨v, m, f', rfl, hf, h.symm⟩
    · cases h
  · cases h

theorem evOps_fine {P : Program} {T : Tab} {cf : CallF} (hc : FineCall cf) {r : Nat} {ops : List Oper} : ∀ (rest : List Oper) (i : Nat) (s s' : St), evOps P T cf r ops rest i s = some s' → Fine s.m s'.m
  | [], i, s, s', h => by simp only [evOps, Option.some.injEq] at h; subst h; exact Fine.refl _
  | o :: rest, i, s, s', h => by
    obtain ⟨f, m⟩ := s
    simp only [evOps] at h
    split at h
    · rename_i s1 h1
      obtain ⟨v, m1, f1, hg, hp, rfl⟩ := putMe_spec h1
      exact (guarded_fine hc hg).trans (evOps_fine hc rest (i + 1) _ _ h)
    · cases h

section
variable {P : Program} {T : Tab} (hT : TabOk P T) {cf : CallF} (hcf : SoundCall P cf) {w0 : World} {F : Nat → Prop} {D : Ctx} {Q : Exit → Act → World → Prop}
include hT hcf

theorem evOps_sound {r : Nat} {ops : Array Oper} : ∀ (rest : List Oper) (i : Nat) (s s' : St), evOps P T cf r ops.toList rest i s = some s' → rest = ops.toList.drop i → AllP s'.m.vc →
    ∀ (g : Gh) (a : Act) (w : World), SRel g w0 F D s a w → (∀ g' a' w', Ext g g' → SRel g' w0 F D s' a' w' → Q .normal a' w') → wpOpsIn (FW D.ro) 0 P ops Q (List.range' i rest.length) a w
  | [], i, s, s', h, hrest, hvc, g, a, w, hs, hQ => by
    simp only [evOps, Option.some.injEq] at h
    subst h
    simp only [List.length_nil, List.range'_zero, wpOpsIn]
    exact hQ g a w (Ext.refl g) hs
  | o :: rest, i, s, s', h, hrest, hvc, g, a, w, hs, hQ => by
    obtain ⟨f, m⟩ := s
    simp only [evOps] at h
    split at h
    · rename_i s1 h1
      obtain ⟨v, m1, f1, hg, hp, rfl⟩ := putMe_spec h1
      have hmo := (evOps_fine hcf.fine rest (i + 1) _ _ h).mo hvc
      have hoi : ops[i]? = some o := by
        have : (ops.toList.drop i)[0]? = some o := by rw [← hrest]; rfl
        simpa using this
      have hrest' : rest = ops.toList.drop (i + 1) := by
        have : (ops.toList.drop i).drop 1 = rest := by rw [← hrest]; rfl
        rw [← this, List.drop_drop]
      simp only [List.length_cons, List.range'_succ, wpOpsIn, hoi]
      refine op_sound hT hcf (hs.fr.look ops o) hs.me hg hmo fun u w' ht => ?_
      obtain ⟨g', he, hm', hu⟩ := ht
      exact evOps_sound rest (i + 1) _ _ h hrest' hvc g' _ w' (hs.step he (put_sound (hs.fr.ext he) hp hu) hm' (put_defers _ _ _) (put_more hp).1 (put_more hp).2) fun g'' a' w'' he' h' => hQ g'' a' w'' (he.trans he') h'
    · cases h

theorem region_sound {r : Nat} {ops : Array Oper} {s s' : St} (h : evOps P T cf r ops.toList ops.toList 0 s = some s') (hvc : AllP s'.m.vc) {g : Gh} {a : Act} {w : World} (hs : SRel g w0 F D s a w)
    (hQ : ∀ g' a' w', Ext g g' → SRel g' w0 F D s' a' w' → Q .normal a' w') : (Code.region r ops false).wpIn (FW D.ro) 0 P Q a w := by
  refine wpIn_region ?_
  have := evOps_sound (D := D) (Q := Q) hT hcf ops.toList 0 s s' h (by simp) hvc g a w hs hQ
  rw [List.range_eq_range']
  simpa using this
end

end
end Go.Sx
