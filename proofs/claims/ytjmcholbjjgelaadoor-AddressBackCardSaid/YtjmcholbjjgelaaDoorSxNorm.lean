/- The abstract evaluator: behind a call or a loop, what was made may be numbered anew, and what is not told of is forgotten. -/
import Derived.Test.YtjmcholbjjgelaaDoorSxTri
namespace Go.Sx
noncomputable section
set_option linter.unusedVariables false
open Go.RowKit

/-- new numbers behind N, each for one of these; older ones as they are -/
def alOf (al : List Nat) (N M b : Nat) : Nat :=
  match Nat.blt b N with
  | true => b
  | false => match listAt al ((b - N) / 2) with
    | some c => c
    | none => M + b
theorem alOf_lt {al : List Nat} {N M b : Nat} (h : b < N) : alOf al N M b = b := by
  unfold alOf
  rw [show Nat.blt b N = true by simpa using h]
theorem alOf_ge {al : List Nat} {N M b : Nat} (h : N ≤ b) : alOf al N M b = match al[(b - N) / 2]? with | some c => c | none => M + b := by
  unfold alOf
  rw [show Nat.blt b N = false by rw [← Bool.not_eq_true, Nat.blt_eq]; omega, listAt_eq]
def Gh.norm (g : Gh) (al : List Nat) (N M : Nat) : Gh :=
  ⟨fun y => g.σ (alOf al N M y), fun y => g.ω (alOf al N M y), fun y => g.κ (alOf al N M y), fun y => g.v (alOf al N M y), fun y => if y < N then g.ho y else !(decide (alOf al N M y < g.n) && !(g.ho (alOf al N M y))), N + 2 * al.length⟩
section
variable {g0 g1 : Gh} {N M : Nat} {al : List Nat} (he : Ext g0 g1) (hN : g0.n = N) (hM : g1.n = M)
include he hN
theorem norm_ext : Ext g0 (g1.norm al N M) := by
  have lt : ∀ b, g0.has b → b < N := fun b hb => by rw [← hN]; exact hb.1
  refine ⟨⟨?_, fun b hb => ?_, fun b hb => ?_, fun b hb => ?_, fun b hb => ?_, fun b hb => ?_⟩, fun b hb hh => ?_⟩
  · show g0.n ≤ N + 2 * al.length; omega
  · show (if b < N then g1.ho b else _) = false
    rw [if_pos (lt b hb)]; exact he.ho b hb
  · show g1.σ (alOf al N M b) = _; rw [alOf_lt (lt b hb)]; exact he.σ b hb
  · show g1.ω (alOf al N M b) = _; rw [alOf_lt (lt b hb)]; exact he.ω b hb
  · show g1.κ (alOf al N M b) = _; rw [alOf_lt (lt b hb)]; exact he.κ b hb
  · show g1.v (alOf al N M b) = _; rw [alOf_lt (lt b hb)]; exact he.v b hb
  · show (if b < N then g1.ho b else _) = true
    rw [if_pos (by omega)]; exact he.hole b hb hh
include hM
theorem norm_pull : Pull (g1.norm al N M) g1 (alOf al N M) := by
  have hle : N ≤ M := by rw [← hN, ← hM]; exact he.n
  refine ⟨fun b hb => ?_, ⟨fun b hb => ?_, fun _ _ => rfl, fun _ _ => rfl, fun _ _ => rfl, fun _ _ => rfl⟩⟩
  · rcases Nat.lt_or_ge b N with h | h
    · rw [alOf_lt h] at hb
      refine ⟨by show b < N + 2 * al.length; omega, ?_⟩
      show (if b < N then g1.ho b else _) = false
      rw [if_pos h]; exact hb.2
    · refine ⟨?_, ?_⟩
      · show b < N + 2 * al.length
        rw [alOf_ge h] at hb
        cases hc : al[(b - N) / 2]? with
        | none => rw [hc] at hb; have : M + b < g1.n := hb.1; omega
        | some c => have := (List.getElem?_eq_some_iff.1 hc).1; omega
      · show (if b < N then g1.ho b else !(decide (alOf al N M b < g1.n) && !(g1.ho (alOf al N M b)))) = false
        rw [if_neg (by omega)]; simp [hb.1, hb.2]
  · rcases Nat.lt_or_ge b N with h | h
    · rw [alOf_lt h]
      have h2 : (if b < N then g1.ho b else !(decide (alOf al N M b < g1.n) && !(g1.ho (alOf al N M b)))) = false := hb.2
      rw [if_pos h] at h2
      exact ⟨by omega, h2⟩
    · have h2 : (if b < N then g1.ho b else !(decide (alOf al N M b < g1.n) && !(g1.ho (alOf al N M b)))) = false := hb.2
      rw [if_neg (by omega)] at h2
      simpa [Gh.has] using h2
theorem MRel.norm {w0 : World} {F : Nat → Prop} {m1 m2 : Me} {w : World} (hg : Globs g0) (hev : N % 2 = 0) (h : MRel g1 w0 F m1 w) (h2 : m2.nx = N + 2 * al.length)
    (hinj : ∀ y y' o o', m2.h.get y = some o → m2.h.get y' = some o' → alOf al N M y = alOf al N M y' → y = y')
    (hb : ∀ y o, m2.h.get y = some o → o.flat ∧ m1.h.get (alOf al N M y) = some (o.ren (alOf al N M))) : MRel (g1.norm al N M) w0 F m2 w := by
  have hp := norm_pull (al := al) he hN hM
  have hx := norm_ext (M := M) (al := al) he hN
  refine ⟨h2.symm, by omega, fun y o ho => ?_, fun y y' o o' ho hl ho' ht hs => ?_, fun y o ho hl hF => ?_, h.keep, h.os, h.tape, h.output, h.size, fun i hi => ?_⟩
  · obtain ⟨hf, h1⟩ := hb y o ho
    obtain ⟨k1, k2⟩ := h.heap _ _ h1
    exact ⟨hp.has y k1, hp.OR (hp.has y k1) hf k2⟩
  · obtain ⟨_, h1⟩ := hb y o ho
    obtain ⟨_, h1'⟩ := hb y' o' ho'
    exact hinj y y' o o' ho ho' (h.inj _ _ _ _ h1 ((ren_live rfl).2 hl) h1' ((ren_there rfl).2 ht) hs)
  · obtain ⟨_, h1⟩ := hb y o ho
    exact h.frame _ _ h1 ((ren_live rfl).2 hl) hF
  · obtain ⟨k1, k2, k3⟩ := hg i hi
    exact ⟨hx.has k1, by rw [hx.σ _ k1]; exact k2, by rw [hx.ω _ k1]; exact k3⟩
end
/-- different numbers stay different -/
def injOn (S : Nat → Nat) (ks : List Nat) : Bool := noDup (ks.map S)
theorem injOn_spec {S : Nat → Nat} {ks : List Nat} (h : injOn S ks = true) {y y' : Nat} (hy : y ∈ ks) (hy' : y' ∈ ks) (he : S y = S y') : y = y' := by
  obtain ⟨i, hi, rfl⟩ := List.mem_iff_getElem.1 hy
  obtain ⟨j, hj, rfl⟩ := List.mem_iff_getElem.1 hy'
  have := noDup_spec _ h i j (S ks[i]) (by simp [hi]) (by simp [hj, he])
  subst this
  rfl
/-- the blocks of a memory that is told by a list are among these -/
theorem keysIn_mem {bl : List (Nat × AObj)} {N : Nat} {ups : List (Nat × Option AObj)} {ks : List Nat} (hk : keysIn bl ups ks = true) {y : Nat} {o : AObj} (h : (upsM ups (meL bl N)).h.get y = some o) : y ∈ ks := by
  simp only [keysIn, Bool.and_eq_true, List.all_eq_true, List.contains_iff_mem] at hk
  rcases upsM_get _ _ _ _ h with h1 | h1
  · exact hk.1 _ (pairs_get _ _ _ (show (pairs bl).get y = some o from h1))
  · exact hk.2 _ h1
/-- each block told of is flat, and stood there under its old number -/
def NormOk (S : Nat → Nat) (h2 h1 : Heap) (ks : List Nat) : Prop := ∀ y ∈ ks, ∀ o, h2.get y = some o → o.flat ∧ h1.get (S y) = some (o.ren S)
def noRecs (l : List (Nat × AObj)) : Bool := l.all fun x => match x.2 with | .lrec _ _ _ _ _ _ _ => false | _ => true
theorem normOk_of {S : Nat → Nat} {h2 h1 : Heap} {ks : List Nat} {l : List (Nat × AObj)} {r : List (Option AObj)} (hl : blocksAt h2 ks = l) (hf : noRecs l = true) (e : l.map (fun x => some (x.2.ren S)) = r) (h : l.map (fun x => h1.get (S x.1)) = r) : NormOk S h2 h1 ks := by
  intro y hy o ho
  have hm := blocksAt_in ks y o hy ho
  rw [hl] at hm
  simp only [noRecs, List.all_eq_true] at hf
  have h2 := hf _ hm
  rw [← e] at h
  have : ∀ (l : List (Nat × AObj)), l.map (fun x => h1.get (S x.1)) = l.map (fun x => some (x.2.ren S)) → ∀ x ∈ l, h1.get (S x.1) = some (x.2.ren S) := by
    intro l
    induction l with
    | nil => intro _ x hx; cases hx
    | cons a r ih =>
      intro h x hx
      simp only [List.map_cons, List.cons.injEq] at h
      rcases List.mem_cons.1 hx with rfl | hx
      · exact h.1
      · exact ih h.2 x hx
  refine ⟨?_, this l h _ hm⟩
  cases o <;> simp_all [AObj.flat]
section
variable {P : Program} {c : Code} {e : Exit}
theorem CallE.norm {f : FuncId} {args : List SV} {bl : List (Nat × AObj)} {N M : Nat} {sv sv2 : SV} {ups ups2 : List (Nat × Option AObj)} {al ks : List Nat} (h : CallE P f args bl N sv ups M)
    (hev : N % 2 = 0) (hk : keysIn bl ups2 ks = true) (hi : injOn (alOf al N M) ks = true) (hb : NormOk (alOf al N M) (upsM ups2 (meL bl N)).h (upsM ups (meL bl N)).h ks) (hsv : sv = sv2.ren (alOf al N M)) {N2 : Nat} (hN2 : N2 = N + 2 * al.length) :
    CallE P f args bl N sv2 ups2 N2 := by
  subst hN2
  intro g w0 F w vs hrel hargs
  have hgn : g.n = N := hrel.n
  refine (h g w0 F w vs hrel hargs).mono fun v w' ht => ?_
  obtain ⟨g', he, hm', hv⟩ := ht
  have hn' : g'.n = M := by rw [hm'.n, Me.setNx_nx]
  refine ⟨g'.norm al N M, norm_ext he hgn, ?_, (norm_pull he hgn hn').VR sv2 v (by rw [← hsv]; exact hv)⟩
  refine MRel.norm he hgn hn' hrel.glob hev hm' (Me.setNx_nx _ _) (fun y y' o o' ho ho' hs => ?_) fun y o ho => ?_
  · rw [Me.setNx_h] at ho ho'
    exact injOn_spec hi (keysIn_mem hk ho) (keysIn_mem hk ho') hs
  · rw [Me.setNx_h] at ho ⊢
    exact hb y (keysIn_mem hk ho) o ho
theorem Tri.norm {nt : Nat} {rd : Option (Option Nat)} {ss ss1 ss2 : List (Nat × SV)} {bl : List (Nat × AObj)} {N M : Nat} {ups ups2 : List (Nat × Option AObj)} {al ks : List Nat}
    (h : Tri P c (stE ss nt rd (meL bl N)) e (stE ss1 nt rd ((upsM ups (meL bl N)).setNx M)))
    (hev : N % 2 = 0) (hk : keysIn bl ups2 ks = true) (hi : injOn (alOf al N M) ks = true) (hb : NormOk (alOf al N M) (upsM ups2 (meL bl N)).h (upsM ups (meL bl N)).h ks)
    (hss : ∀ x ∈ ss2, (pairs ss1).get x.1 = some (x.2.ren (alOf al N M))) {N2 : Nat} (hN2 : N2 = N + 2 * al.length) :
    Tri P c (stE ss nt rd (meL bl N)) e (stE ss2 nt rd ((upsM ups2 (meL bl N)).setNx N2)) := by
  subst hN2
  intro g w0 F D a w hs
  have hgn : g.n = N := hs.me.n
  have key : ∀ g' a' w', Ext g g' → SRel g' w0 F D (stE ss1 nt rd ((upsM ups (meL bl N)).setNx M)) a' w' → Ext g (g'.norm al N M) ∧ SRel (g'.norm al N M) w0 F D (stE ss2 nt rd ((upsM ups2 (meL bl N)).setNx (N + 2 * al.length))) a' w' := fun g' a' w' he hr => by
    have hn' : g'.n = M := by rw [hr.me.n]; exact Me.setNx_nx _ _
    have hx := norm_ext (M := M) (al := al) he hgn
    refine ⟨hx, ⟨⟨hr.fr.nt, fun t => ?_⟩, ?_, hr.defers, fun b hb => by simp [stE, fraE] at hb, RdOk.ext hx hs.rd⟩⟩
    · show VR _ (match (pairs ss2).get t with | some v => v | none => .any) _
      cases hc : (pairs ss2).get t with
      | none => simp only [VR]
      | some x =>
        have h1 := hss (t, x) (pairs_get _ _ _ hc)
        have h2 : VR g' (match (pairs ss1).get t with | some v => v | none => .any) (a'.tmps.getD t undef) := hr.fr.slots t
        rw [h1] at h2
        exact (norm_pull he hgn hn').VR x _ h2
    · refine MRel.norm he hgn hn' hs.me.glob hev hr.me (Me.setNx_nx _ _) (fun y y' o o' ho ho' hs => ?_) fun y o ho => ?_
      · have ho1 : (upsM ups2 (meL bl N)).h.get y = some o := by rw [← Me.setNx_h _ (N + 2 * al.length)]; exact ho
        have ho2 : (upsM ups2 (meL bl N)).h.get y' = some o' := by rw [← Me.setNx_h _ (N + 2 * al.length)]; exact ho'
        exact injOn_spec hi (keysIn_mem hk ho1) (keysIn_mem hk ho2) hs
      · have ho1 : (upsM ups2 (meL bl N)).h.get y = some o := by rw [← Me.setNx_h _ (N + 2 * al.length)]; exact ho
        show _ ∧ ((upsM ups (meL bl N)).setNx M).h.get _ = _
        rw [Me.setNx_h]
        exact hb y (keysIn_mem hk ho1) o ho1
  refine ⟨wpIn_mono (h g w0 F D a w hs).1 fun e' a' w' hp => ?_, fun c' hc b k cs k1 k2 k3 => ?_⟩
  · obtain ⟨rfl, g', he, hr⟩ := hp
    obtain ⟨h1, h2⟩ := key g' a' w' he hr
    exact ⟨rfl, _, h1, h2⟩
  · obtain ⟨e2, a2, w2, hq, harr⟩ := (h g w0 F D a w hs).2 c' hc b k cs k1 k2 k3
    obtain ⟨rfl, g', he, hr⟩ := hq
    obtain ⟨h1, h2⟩ := key g' a2 w2 he hr
    exact ⟨_, a2, w2, ⟨rfl, _, h1, h2⟩, harr⟩
theorem injL {S : Nat → Nat} {bl l : List (Nat × AObj)} {N : Nat} {ups : List (Nat × Option AObj)} {ks : List Nat} (hk : keysIn bl ups ks = true) (hl : blocksAt (upsM ups (meL bl N)).h ks = l) (hi : injOn S (l.map Prod.fst) = true) :
    ∀ y y' o o', (upsM ups (meL bl N)).h.get y = some o → (upsM ups (meL bl N)).h.get y' = some o' → S y = S y' → y = y' := by
  intro y y' o o' ho ho' hs
  have h1 := blocksAt_in ks y o (keysIn_mem hk ho) ho
  have h2 := blocksAt_in ks y' o' (keysIn_mem hk ho') ho'
  rw [hl] at h1 h2
  exact injOn_spec hi (List.mem_map.2 ⟨_, h1, rfl⟩) (List.mem_map.2 ⟨_, h2, rfl⟩) hs
theorem CallE.normL {f : FuncId} {args : List SV} {bl l : List (Nat × AObj)} {N M : Nat} {sv sv2 : SV} {ups ups2 : List (Nat × Option AObj)} {al ks : List Nat} {r : List (Option AObj)} (h : CallE P f args bl N sv ups M)
    (hev : N % 2 = 0) (hk : keysIn bl ups2 ks = true) (hl : blocksAt (upsM ups2 (meL bl N)).h ks = l) (hi : injOn (alOf al N M) (l.map Prod.fst) = true) (hf : noRecs l = true) (e1 : l.map (fun x => some (x.2.ren (alOf al N M))) = r) (e2 : l.map (fun x => (upsM ups (meL bl N)).h.get (alOf al N M x.1)) = r)
    (hsv : sv = sv2.ren (alOf al N M)) {N2 : Nat} (hN2 : N2 = N + 2 * al.length) : CallE P f args bl N sv2 ups2 N2 := by
  subst hN2
  intro g w0 F w vs hrel hargs
  have hgn : g.n = N := hrel.n
  refine (h g w0 F w vs hrel hargs).mono fun v w' ht => ?_
  obtain ⟨g', he, hm', hv⟩ := ht
  have hn' : g'.n = M := by rw [hm'.n, Me.setNx_nx]
  refine ⟨g'.norm al N M, norm_ext he hgn, ?_, (norm_pull he hgn hn').VR sv2 v (by rw [← hsv]; exact hv)⟩
  refine MRel.norm he hgn hn' hrel.glob hev hm' (Me.setNx_nx _ _) (fun y y' o o' ho ho' hs => ?_) fun y o ho => ?_
  · rw [Me.setNx_h] at ho ho'
    exact injL hk hl hi y y' o o' ho ho' hs
  · rw [Me.setNx_h] at ho ⊢
    exact normOk_of hl hf e1 e2 y (keysIn_mem hk ho) o ho
theorem Tri.normL {nt : Nat} {rd : Option (Option Nat)} {ss ss1 ss2 : List (Nat × SV)} {bl l : List (Nat × AObj)} {N M : Nat} {ups ups2 : List (Nat × Option AObj)} {al ks : List Nat} {r : List (Option AObj)}
    (h : Tri P c (stE ss nt rd (meL bl N)) e (stE ss1 nt rd ((upsM ups (meL bl N)).setNx M)))
    (hev : N % 2 = 0) (hk : keysIn bl ups2 ks = true) (hl : blocksAt (upsM ups2 (meL bl N)).h ks = l) (hi : injOn (alOf al N M) (l.map Prod.fst) = true) (hf : noRecs l = true) (e1 : l.map (fun x => some (x.2.ren (alOf al N M))) = r) (e2 : l.map (fun x => (upsM ups (meL bl N)).h.get (alOf al N M x.1)) = r)
    (hss : ∀ x ∈ ss2, (pairs ss1).get x.1 = some (x.2.ren (alOf al N M))) {N2 : Nat} (hN2 : N2 = N + 2 * al.length) :
    Tri P c (stE ss nt rd (meL bl N)) e (stE ss2 nt rd ((upsM ups2 (meL bl N)).setNx N2)) := by
  subst hN2
  intro g w0 F D a w hs
  have hgn : g.n = N := hs.me.n
  have key : ∀ g' a' w', Ext g g' → SRel g' w0 F D (stE ss1 nt rd ((upsM ups (meL bl N)).setNx M)) a' w' → Ext g (g'.norm al N M) ∧ SRel (g'.norm al N M) w0 F D (stE ss2 nt rd ((upsM ups2 (meL bl N)).setNx (N + 2 * al.length))) a' w' := fun g' a' w' he hr => by
    have hn' : g'.n = M := by rw [hr.me.n]; exact Me.setNx_nx _ _
    have hx := norm_ext (M := M) (al := al) he hgn
    refine ⟨hx, ⟨⟨hr.fr.nt, fun t => ?_⟩, ?_, hr.defers, fun b hb => by simp [stE, fraE] at hb, RdOk.ext hx hs.rd⟩⟩
    · show VR _ (match (pairs ss2).get t with | some v => v | none => .any) _
      cases hc : (pairs ss2).get t with
      | none => simp only [VR]
      | some x =>
        have h1 := hss (t, x) (pairs_get _ _ _ hc)
        have h2 : VR g' (match (pairs ss1).get t with | some v => v | none => .any) (a'.tmps.getD t undef) := hr.fr.slots t
        rw [h1] at h2
        exact (norm_pull he hgn hn').VR x _ h2
    · refine MRel.norm he hgn hn' hs.me.glob hev hr.me (Me.setNx_nx _ _) (fun y y' o o' ho ho' hs => ?_) fun y o ho => ?_
      · have ho1 : (upsM ups2 (meL bl N)).h.get y = some o := by rw [← Me.setNx_h _ (N + 2 * al.length)]; exact ho
        have ho2 : (upsM ups2 (meL bl N)).h.get y' = some o' := by rw [← Me.setNx_h _ (N + 2 * al.length)]; exact ho'
        exact injL hk hl hi y y' o o' ho1 ho2 hs
      · have ho1 : (upsM ups2 (meL bl N)).h.get y = some o := by rw [← Me.setNx_h _ (N + 2 * al.length)]; exact ho
        show _ ∧ ((upsM ups (meL bl N)).setNx M).h.get _ = _
        rw [Me.setNx_h]
        exact normOk_of hl hf e1 e2 y (keysIn_mem hk ho1) o ho1
  refine ⟨wpIn_mono (h g w0 F D a w hs).1 fun e' a' w' hp => ?_, fun c' hc b k cs k1 k2 k3 => ?_⟩
  · obtain ⟨rfl, g', he, hr⟩ := hp
    obtain ⟨h1, h2⟩ := key g' a' w' he hr
    exact ⟨rfl, _, h1, h2⟩
  · obtain ⟨e2, a2, w2, hq, harr⟩ := (h g w0 F D a w hs).2 c' hc b k cs k1 k2 k3
    obtain ⟨rfl, g', he, hr⟩ := hq
    obtain ⟨h1, h2⟩ := key g' a2 w2 he hr
    exact ⟨_, a2, w2, ⟨rfl, _, h1, h2⟩, harr⟩
theorem Tri.cast {s s1 s2 : St} (h : Tri P c s e s1) (h1 : s1 = s2) : Tri P c s e s2 := h1 ▸ h
def allFlat (l : List (Nat × AObj)) (N : Nat) : Bool := l.all fun x => Nat.blt x.1 N && (match x.2 with | .lrec _ _ _ _ _ _ _ => false | _ => true)
theorem normOk_same {bl : List (Nat × AObj)} {N M : Nat} {ups : List (Nat × Option AObj)} {ks : List Nat} {l : List (Nat × AObj)} (hl : blocksAt (upsM ups (meL bl N)).h ks = l) (hf : allFlat l N = true) (hb : l.map (renB (alOf [] N M)) = l) :
    NormOk (alOf [] N M) (upsM ups (meL bl N)).h (upsM ups (meL bl N)).h ks := by
  intro y hy o ho
  have hm := blocksAt_in ks y o hy ho
  rw [hl] at hm
  simp only [allFlat, List.all_eq_true, Bool.and_eq_true, Nat.blt_eq] at hf
  obtain ⟨h1, h2⟩ := hf _ hm
  have h3 : renB (alOf [] N M) (y, o) = (y, o) := by
    have : ∀ (l : List (Nat × AObj)), l.map (renB (alOf [] N M)) = l → ∀ x ∈ l, renB (alOf [] N M) x = x := by
      intro l
      induction l with
      | nil => intro _ x hx; cases hx
      | cons a r ih =>
        intro h x hx
        simp only [List.map_cons, List.cons.injEq] at h
        rcases List.mem_cons.1 hx with rfl | hx
        · exact h.1
        · exact ih h.2 x hx
    exact this l hb _ hm
  simp only [renB, Prod.mk.injEq] at h3
  refine ⟨?_, by rw [h3.2, alOf_lt h1]; exact ho⟩
  cases o <;> simp_all [AObj.flat]
theorem keys_lt {bl : List (Nat × AObj)} {N M : Nat} {ups : List (Nat × Option AObj)} {ks : List Nat} {l : List (Nat × AObj)} (hl : blocksAt (upsM ups (meL bl N)).h ks = l) (hf : allFlat l N = true) (hk : keysIn bl ups ks = true) :
    ∀ y y' o o', (upsM ups (meL bl N)).h.get y = some o → (upsM ups (meL bl N)).h.get y' = some o' → alOf [] N M y = alOf [] N M y' → y = y' := by
  intro y y' o o' ho ho' he
  have h1 : y < N := by
    have hm := blocksAt_in ks y o (keysIn_mem hk ho) ho
    rw [hl] at hm
    simp only [allFlat, List.all_eq_true, Bool.and_eq_true, Nat.blt_eq] at hf
    exact (hf _ hm).1
  have h2 : y' < N := by
    have hm := blocksAt_in ks y' o' (keysIn_mem hk ho') ho'
    rw [hl] at hm
    simp only [allFlat, List.all_eq_true, Bool.and_eq_true, Nat.blt_eq] at hf
    exact (hf _ hm).1
  rwa [alOf_lt h1, alOf_lt h2] at he
/-- what was made in a piece of code is forgotten -/
theorem Tri.forget {nt : Nat} {rd : Option (Option Nat)} {ss ss1 : List (Nat × SV)} {bl l : List (Nat × AObj)} {N M : Nat} {ups : List (Nat × Option AObj)} {ks : List Nat}
    (h : Tri P c (stE ss nt rd (meL bl N)) e (stE ss1 nt rd ((upsM ups (meL bl N)).setNx M)))
    (hev : N % 2 = 0) (hk : keysIn bl ups ks = true) (hl : blocksAt (upsM ups (meL bl N)).h ks = l) (hf : allFlat l N = true) (hb : l.map (renB (alOf [] N M)) = l)
    (hss : ss1.map (renSl (alOf [] N M)) = ss1) :
    Tri P c (stE ss nt rd (meL bl N)) e (stE ss1 nt rd ((upsM ups (meL bl N)).setNx N)) := by
  intro g w0 F D a w hs
  have hgn : g.n = N := hs.me.n
  have key : ∀ g' a' w', Ext g g' → SRel g' w0 F D (stE ss1 nt rd ((upsM ups (meL bl N)).setNx M)) a' w' → Ext g (g'.norm [] N M) ∧ SRel (g'.norm [] N M) w0 F D (stE ss1 nt rd ((upsM ups (meL bl N)).setNx N)) a' w' := fun g' a' w' he hr => by
    have hn' : g'.n = M := by rw [hr.me.n]; exact Me.setNx_nx _ _
    have hx := norm_ext (M := M) (al := []) he hgn
    refine ⟨hx, ⟨⟨hr.fr.nt, fun t => ?_⟩, ?_, hr.defers, fun b hb => by simp [stE, fraE] at hb, RdOk.ext hx hs.rd⟩⟩
    · show VR _ (match (pairs ss1).get t with | some v => v | none => .any) _
      have h2 : VR g' (match (pairs ss1).get t with | some v => v | none => .any) (a'.tmps.getD t undef) := hr.fr.slots t
      have h4 : (pairs (ss1.map (renSl (alOf [] N M)))).get t = ((pairs ss1).get t).map (SV.ren (alOf [] N M)) := pairs_map _ _ _
      rw [hss] at h4
      cases hc : (pairs ss1).get t with
      | none => simp only [VR]
      | some x =>
        rw [hc] at h2 h4
        simp only [Option.map_some, Option.some.injEq] at h4
        exact (norm_pull he hgn hn').VR x _ (by rw [← h4]; exact h2)
    · refine MRel.norm he hgn hn' hs.me.glob hev hr.me (Me.setNx_nx _ _) (fun y y' o o' ho ho' hs => ?_) fun y o ho => ?_
      · have ho1 : (upsM ups (meL bl N)).h.get y = some o := by rw [← Me.setNx_h _ N]; exact ho
        have ho2 : (upsM ups (meL bl N)).h.get y' = some o' := by rw [← Me.setNx_h _ N]; exact ho'
        exact keys_lt hl hf hk y y' o o' ho1 ho2 hs
      · have ho1 : (upsM ups (meL bl N)).h.get y = some o := by rw [← Me.setNx_h _ N]; exact ho
        show _ ∧ ((upsM ups (meL bl N)).setNx M).h.get _ = _
        rw [Me.setNx_h]
        exact normOk_same hl hf hb y (keysIn_mem hk ho1) o ho1
  refine ⟨wpIn_mono (h g w0 F D a w hs).1 fun e' a' w' hp => ?_, fun c' hc b k cs k1 k2 k3 => ?_⟩
  · obtain ⟨rfl, g', he, hr⟩ := hp
    obtain ⟨h1, h2⟩ := key g' a' w' he hr
    exact ⟨rfl, _, h1, h2⟩
  · obtain ⟨e2, a2, w2, hq, harr⟩ := (h g w0 F D a w hs).2 c' hc b k cs k1 k2 k3
    obtain ⟨rfl, g', he, hr⟩ := hq
    obtain ⟨h1, h2⟩ := key g' a2 w2 he hr
    exact ⟨_, a2, w2, ⟨rfl, _, h1, h2⟩, harr⟩
theorem CallE.forget {f : FuncId} {args : List SV} {bl l : List (Nat × AObj)} {N M : Nat} {sv : SV} {ups : List (Nat × Option AObj)} {ks : List Nat} (h : CallE P f args bl N sv ups M)
    (hev : N % 2 = 0) (hk : keysIn bl ups ks = true) (hl : blocksAt (upsM ups (meL bl N)).h ks = l) (hf : allFlat l N = true) (hb : l.map (renB (alOf [] N M)) = l) (hsv : sv.ren (alOf [] N M) = sv) : CallE P f args bl N sv ups N := by
  intro g w0 F w vs hrel hargs
  have hgn : g.n = N := hrel.n
  refine (h g w0 F w vs hrel hargs).mono fun v w' ht => ?_
  obtain ⟨g', he, hm', hv⟩ := ht
  have hn' : g'.n = M := by rw [hm'.n, Me.setNx_nx]
  refine ⟨g'.norm [] N M, norm_ext he hgn, ?_, (norm_pull he hgn hn').VR sv v (by rw [hsv]; exact hv)⟩
  refine MRel.norm he hgn hn' hrel.glob hev hm' (Me.setNx_nx _ _) (fun y y' o o' ho ho' hs => ?_) fun y o ho => ?_
  · rw [Me.setNx_h] at ho ho'
    exact keys_lt hl hf hk y y' o o' ho ho' hs
  · rw [Me.setNx_h] at ho ⊢
    exact normOk_same hl hf hb y (keysIn_mem hk ho) o ho
theorem map_all {α β : Type} {f g : α → β} : ∀ {l : List α}, l.map f = l.map g → ∀ x ∈ l, f x = g x
  | [], _, x, hx => by cases hx
  | a :: r, h, x, hx => by
    simp only [List.map_cons, List.cons.injEq] at h
    rcases List.mem_cons.1 hx with rfl | hx
    · exact h.1
    · exact map_all h.2 x hx
/-- less is told of slots -/
theorem Tri.less {s0 : St} {nt : Nat} {rd : Option (Option Nat)} {ss1 ss2 : List (Nat × SV)} {m1 : Me} (h : Tri P c s0 e (stE ss1 nt rd m1)) (hss : ss2.map (fun x => (pairs ss1).get x.1) = ss2.map (fun x => some x.2)) : Tri P c s0 e (stE ss2 nt rd m1) := by
  intro g w0 F D a w hs
  have key : ∀ g' a' w', SRel g' w0 F D (stE ss1 nt rd m1) a' w' → SRel g' w0 F D (stE ss2 nt rd m1) a' w' := fun g' a' w' hr => by
    refine ⟨⟨hr.fr.nt, fun t => ?_⟩, hr.me, hr.defers, fun b hb => by simp [stE, fraE] at hb, hr.rd⟩
    show VR _ (match (pairs ss2).get t with | some v => v | none => .any) _
    cases hc : (pairs ss2).get t with
    | none => simp only [VR]
    | some x =>
      have h1 := map_all hss (t, x) (pairs_get _ _ _ hc)
      have h2 : VR g' (match (pairs ss1).get t with | some v => v | none => .any) (a'.tmps.getD t undef) := hr.fr.slots t
      have h1' : (pairs ss1).get t = some x := h1
      rw [h1'] at h2
      exact h2
  refine ⟨wpIn_mono (h g w0 F D a w hs).1 fun e' a' w' hp => ?_, fun c' hc b k cs k1 k2 k3 => ?_⟩
  · obtain ⟨rfl, g', he, hr⟩ := hp
    exact ⟨rfl, g', he, key g' a' w' hr⟩
  · obtain ⟨e2, a2, w2, hq, harr⟩ := (h g w0 F D a w hs).2 c' hc b k cs k1 k2 k3
    obtain ⟨rfl, g', he, hr⟩ := hq
    exact ⟨_, a2, w2, ⟨rfl, g', he, key g' a2 w2 hr⟩, harr⟩
end
end
end Go.Sx
