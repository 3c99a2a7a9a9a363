/- The abstract evaluator: loops in which rows grow: a round, the rest at other numbers, and what is left numbered anew. -/
import Derived.Test.YtjmcholbjjgelaaDoorSxSym
namespace Go.Sx
noncomputable section
set_option linter.unusedVariables false
open Go.RowKit
theorem upsM_append : ∀ (a b : List (Nat × Option AObj)) (m : Me), upsM (a ++ b) m = upsM b (upsM a m)
  | [], b, m => rfl
  | x :: r, b, m => by
    obtain ⟨c, o⟩ := x
    cases o with
    | some o => simp only [List.cons_append, upsM]; exact upsM_append r b _
    | none => simp only [List.cons_append, upsM]; exact upsM_append r b _
section
variable {P : Program} {c : Code} {e : Exit}
/-- a state behind, told otherwise: its memory's blocks and number are the same -/
theorem Tri.same {s s1 s2 : St} (h : Tri P c s e s1) (hf : s2.f = s1.f) (hh : s2.m.h = s1.m.h) (hn : s2.m.nx = s1.m.nx) : Tri P c s e s2 := by
  intro g w0 F D a w hs
  refine ⟨wpIn_mono (h g w0 F D a w hs).1 fun e' a' w' hp => ?_, fun c' hc b k cs k1 k2 k3 => ?_⟩
  · obtain ⟨rfl, g', he, hr⟩ := hp
    exact ⟨rfl, g', he, hr.same hf hh hn⟩
  · obtain ⟨e2, a2, w2, hq, harr⟩ := (h g w0 F D a w hs).2 c' hc b k cs k1 k2 k3
    obtain ⟨rfl, g', he, hr⟩ := hq
    exact ⟨_, a2, w2, ⟨rfl, g', he, hr.same hf hh hn⟩, harr⟩
theorem LoopE.grow {nt : Nat} {rd : Option (Option Nat)} {ss ss1 ssC ssC' ss2 : List (Nat × SV)} {bl blC : List (Nat × AObj)} {N N1 N2 nx : Nat} {ups ups1 ups2 : List (Nat × Option AObj)} (bsn al ks : List Nat)
    (h : Tri P c (stE ss nt rd (meL bl N)) .normal (stE ss1 nt rd ((upsM ups (meL bl N)).setNx nx)))
    (k : LoopE P (.loop c) nt rd ssC blC N1 e ssC' ups1 N2) (hrd : plainRd rd = true) (hk : atOk bsn nx blC N1 ups1 N2 = true)
    (hss : ssC.map (fun x => (pairs ss1).get x.1) = ssC.map (fun x => some (x.2.ren (rnOf bsn nx))))
    {rb : List (Option AObj)} (hb1 : blC.map (fun x => some (x.2.ren (rnOf bsn nx))) = rb) (hb2 : blC.map (fun x => (upsM ups (meL bl N)).h.get (rnOf bsn nx x.1)) = rb)
    {upsR : List (Nat × Option AObj)} (hur : ups1.map (renU (rnOf bsn nx)) = upsR)
    (hev : N % 2 = 0) (hki : keysIn bl ups2 ks = true) {M : Nat} (hM : nx + (N2 - N1) = M) {l : List (Nat × AObj)} (hl : blocksAt (upsM ups2 (meL bl N)).h ks = l) (hin : injOn (alOf al N M) (l.map Prod.fst) = true) (hf : noRecs l = true)
    {r : List (Option AObj)} (e1 : l.map (fun x => some (x.2.ren (alOf al N M))) = r) (e2 : l.map (fun x => (upsM (ups ++ upsR) (meL bl N)).h.get (alOf al N M x.1)) = r)
    (hss2 : ss2.map (fun x => (pairs (ssC'.map (renSl (rnOf bsn nx)))).get x.1) = ss2.map (fun x => some (x.2.ren (alOf al N M)))) {N3 : Nat} (hN3 : N3 = N + 2 * al.length) : LoopE P (.loop c) nt rd ss bl N e ss2 ups2 N3 := by
  subst hM
  subst hur
  rw [← hb1] at hb2
  have h1 : LoopE P (.loop c) nt rd ss bl N e (ssC'.map (renSl (rnOf bsn nx))) (ups ++ ups1.map (renU (rnOf bsn nx))) (nx + (N2 - N1)) :=
    LoopE.round (bl1 := []) h k hrd (atOk_spec hk).1 (fun x hx => map_all hss x hx) (fun x hx => map_all hb2 x hx) rfl rfl (upsM_append _ _ _).symm
  exact Tri.normL h1 hev hki hl hin hf e1 e2 (fun x hx => map_all hss2 x hx) hN3
/-- a loop that is left at once, its end told in other numbers -/
theorem LoopE.leaveN {nt : Nat} {rd : Option (Option Nat)} {ss ss1 ss2 : List (Nat × SV)} {bl : List (Nat × AObj)} {N M : Nat} {ups ups2 : List (Nat × Option AObj)} (al ks : List Nat)
    (h : Tri P c (stE ss nt rd (meL bl N)) e (stE ss1 nt rd ((upsM ups (meL bl N)).setNx M))) (hne : e ≠ .normal)
    (hev : N % 2 = 0) (hki : keysIn bl ups2 ks = true) {l : List (Nat × AObj)} (hl : blocksAt (upsM ups2 (meL bl N)).h ks = l) (hin : injOn (alOf al N M) (l.map Prod.fst) = true) (hf : noRecs l = true)
    {r : List (Option AObj)} (e1 : l.map (fun x => some (x.2.ren (alOf al N M))) = r) (e2 : l.map (fun x => (upsM ups (meL bl N)).h.get (alOf al N M x.1)) = r)
    (hss2 : ss2.map (fun x => (pairs ss1).get x.1) = ss2.map (fun x => some (x.2.ren (alOf al N M)))) {N3 : Nat} (hN3 : N3 = N + 2 * al.length) : LoopE P (.loop c) nt rd ss bl N e ss2 ups2 N3 :=
  Tri.normL (Tri.leave h hne) hev hki hl hin hf e1 e2 (fun x hx => map_all hss2 x hx) hN3
end
end
end Go.Sx
