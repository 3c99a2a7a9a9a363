/- The abstract evaluator: runs at small states as words on calls and loops. -/
import Derived.Test.YtjmcholbjjgelaaDoorSxRen
import Derived.Test.YtjmcholbjjgelaaDoorSxCap
namespace Go.Sx
noncomputable section
set_option linter.unusedVariables false
open Go.RowKit

/-! ### calls -/
def finE (ks : List Nat) (x : Option (SV × Me)) : Option (SV × Nat × List (Nat × AObj) × Prop) :=
  match x with
  | some (sv, m) => match m with
    | ⟨h, nx, _, _, vc⟩ => some (sv, nx, blocksAt h ks, AllP vc)
  | none => none
theorem finE_spec {ks : List Nat} {x : Option (SV × Me)} {sv : SV} {nx : Nat} {fin : List (Nat × AObj)} {Q : Prop} (h : finE ks x = some (sv, nx, fin, Q)) : ∃ m, x = some (sv, m) ∧ m.nx = nx ∧ blocksAt m.h ks = fin ∧ Q = AllP m.vc := by
  unfold finE at h
  split at h
  · split at h
    simp only [Option.some.injEq, Prod.mk.injEq] at h
    obtain ⟨rfl, rfl, rfl, rfl⟩ := h
    exact ⟨_, rfl, rfl, rfl, rfl⟩
  · cases h
theorem blocksAt_in {h : Heap} : ∀ (l : List Nat) (k : Nat) (o : AObj), k ∈ l → h.get k = some o → (k, o) ∈ blocksAt h l
  | [], k, o, hk, _ => by cases hk
  | c :: r, k, o, hk, ho => by
    simp only [blocksAt]
    rcases List.mem_cons.1 hk with rfl | hk
    · rw [ho]; exact List.mem_cons_self
    · split
      · exact List.mem_cons_of_mem _ (blocksAt_in r k o hk ho)
      · exact blocksAt_in r k o hk ho
/-- all numbers that are told of, of blocks and of changes, are among these -/
def keysIn (bl : List (Nat × AObj)) (ups : List (Nat × Option AObj)) (ks : List Nat) : Bool := bl.all (fun x => ks.contains x.1) && ups.all (fun x => ks.contains x.1)
theorem small_less {bl : List (Nat × AObj)} {N N' : Nat} {ups : List (Nat × Option AObj)} {ks : List Nat} {m' : Me} {fin : List (Nat × AObj)} (hk : keysIn bl ups ks = true) (hf : blocksAt (upsM ups (meL bl N)).h ks = fin)
    (hm : blocksAt m'.h ks = fin) (hn : m'.nx = N') {g : Gh} {w0 : World} {F : Nat → Prop} {w : World} (h : MRel g w0 F m' w) : MRel g w0 F ((upsM ups (meL bl N)).setNx N') w := by
  simp only [keysIn, Bool.and_eq_true, List.all_eq_true, List.contains_iff_mem] at hk
  refine h.less (fun b o ho => ?_) (by rw [Me.setNx_nx, hn])
  rw [Me.setNx_h] at ho
  have hb : b ∈ ks := by
    rcases upsM_get _ _ _ _ ho with h1 | h1
    · exact hk.1 _ (pairs_get _ _ _ (show (pairs bl).get b = some o from h1))
    · exact hk.2 _ h1
  have h2 := blocksAt_in ks b o hb ho
  rw [hf, ← hm] at h2
  exact blocksAt_mem ks _ h2
section
variable {P : Program} {T : Tab} (hT : TabOk P T ∧ CodesOk T) {I : Intr} (hI : IntrOk P I)
include hT hI
theorem callE_of {n : Nat} {f : FuncId} {args : List SV} {bl : List (Nat × AObj)} {N : Nat} {hs : List Hint} {ks : List Nat} {sv : SV} {N' : Nat} {fin : List (Nat × AObj)} {ups : List (Nat × Option AObj)} {Q : Prop}
    (h : finE ks (callS P T (told P I) n f args ⟨pairs bl, N, N, hs, []⟩) = some (sv, N', fin, Q)) (hq : Q) (hf : blocksAt (upsM ups (meL bl N)).h ks = fin) (hk : keysIn bl ups ks = true) : CallE P f args bl N sv ups N' := by
  obtain ⟨m', hx, hn, hm, rfl⟩ := finE_spec h
  intro g w0 F w vs hrel hargs
  refine ((callS_sound hT.1 hI.told hT.2 n).sound (.fn f) _ _ _ _ hx hq g w0 F w vs (hrel.same rfl rfl) hargs).mono fun v w' ht => ?_
  obtain ⟨g', he, hm', hv⟩ := ht
  exact ⟨g', he, small_less hk hf hm hn hm', hv⟩
end

/-! ### loops -/
def finL (xs ks : List Nat) (x : Out) : Option (Exit × List (Nat × SV) × List (Nat × AObj) × Nat × Nat × List Nat × Option (Option Nat) × Prop) :=
  match x with
  | some (e, s) => match s with
    | ⟨f, m⟩ => match f with
      | ⟨sl, df, nt, dm, rd⟩ => match m with
        | ⟨h, nx, _, _, vc⟩ => some (e, slotsAt ⟨sl, df, nt, dm, rd⟩ xs, blocksAt h ks, nx, nt, dm, rd, AllP vc)
  | none => none
/-- the body of a function's loop, by its first region -/
def findLoop (r : Nat) : Code → Option Code
  | .seq a b => match findLoop r a with | some c => some c | none => findLoop r b
  | .cond _ a b => match findLoop r a with | some c => some c | none => findLoop r b
  | .block _ c => findLoop r c
  | .scope c => findLoop r c
  | .loop c => match Nat.beq r (firstReg c) with | true => some c | false => findLoop r c
  | .rangeFunc _ _ _ c => findLoop r c
  | _ => none
def bodyOf (fn : Func) (r : Nat) : Code := match fn.body with
  | some c => (match findLoop r c with | some c => c | none => .skip)
  | none => .skip
theorem finL_spec {xs ks : List Nat} {x : Out} {e : Exit} {ss' : List (Nat × SV)} {fin : List (Nat × AObj)} {nx' nt' : Nat} {dm : List Nat} {rd : Option (Option Nat)} {Q : Prop} (h : finL xs ks x = some (e, ss', fin, nx', nt', dm, rd, Q)) :
    ∃ s, x = some (e, s) ∧ ss' = slotsAt s.f xs ∧ blocksAt s.m.h ks = fin ∧ s.m.nx = nx' ∧ s.f.nt = nt' ∧ s.f.dm = dm ∧ s.f.rd = rd ∧ Q = AllP s.m.vc := by
  unfold finL at h
  split at h
  · split at h
    split at h
    split at h
    simp only [Option.some.injEq, Prod.mk.injEq] at h
    obtain ⟨rfl, rfl, rfl, rfl, rfl, rfl, rfl, rfl⟩ := h
    exact ⟨_, rfl, rfl, rfl, rfl, rfl, rfl, rfl, rfl⟩
  · cases h
/-- a state of which these slots and blocks alone are told -/
def stE (ss : List (Nat × SV)) (nt : Nat) (rd : Option (Option Nat)) (m : Me) : St := ⟨fraE ss nt rd, m⟩
section
variable {P : Program} {T : Tab} (hT : TabOk P T ∧ CodesOk T) {I : Intr} (hI : IntrOk P I)
include hT hI
theorem triE_of {n : Nat} {c : Code} {nt : Nat} {rd : Option (Option Nat)} {ss : List (Nat × SV)} {bl : List (Nat × AObj)} {N : Nat} {hs : List Hint} {xs ks : List Nat} {e : Exit} {ss' : List (Nat × SV)} {fin : List (Nat × AObj)} {N' : Nat} {ups : List (Nat × Option AObj)} {Q : Prop}
    (h : finL xs ks (ev P T (told P I) n c (stE ss nt rd ⟨pairs bl, N, N, hs, []⟩)) = some (e, ss', fin, N', nt, [], rd, Q)) (hq : Q) (hok : codeOk c = true) (hf : blocksAt (upsM ups (meL bl N)).h ks = fin) (hk : keysIn bl ups ks = true) :
    Tri P c (stE ss nt rd (meL bl N)) e (stE ss' nt rd ((upsM ups (meL bl N)).setNx N')) := by
  obtain ⟨s, hx, rfl, hm, hn, hnt, hdm, hrd, rfl⟩ := finL_spec h
  intro g w0 F D a w hs0
  have ht := (ev_sound hT.1 hI.told hT.2 n).sound _ _ _ _ hok hx hq g w0 F D a w (hs0.same rfl rfl rfl)
  have less : ∀ g' a' w', SRel g' w0 F D s a' w' → SRel g' w0 F D (stE (slotsAt s.f xs) nt rd ((upsM ups (meL bl N)).setNx N')) a' w' := fun g' a' w' h' => by
    refine ⟨⟨?_, fun t => ?_⟩, small_less hk hf hm hn h'.me, ?_, fun b hb => by simp [stE, fraE] at hb, ?_⟩
    · show nt ≤ _
      rw [← hnt]; exact h'.fr.nt
    · show VR g' (match (pairs (slotsAt s.f xs)).get t with | some v => v | none => .any) _
      cases hc : (pairs (slotsAt s.f xs)).get t with
      | none => simp only [VR]
      | some x =>
        have h1 : x = s.f.get t := slotsAt_mem xs _ (pairs_get _ _ _ hc)
        subst h1
        exact h'.fr.slots t
    · have := h'.defers
      rw [hdm] at this
      exact this
    · have := h'.rd
      rw [hrd] at this
      exact this
  refine ⟨wpIn_mono ht.1 fun e' a' w' hp => ?_, fun c' hc b k cs k1 k2 k3 => ?_⟩
  · obtain ⟨rfl, g', he, hs'⟩ := hp
    exact ⟨rfl, g', he, less g' a' w' hs'⟩
  · obtain ⟨e2, a2, w2, hq, harr⟩ := ht.2 c' hc b k cs k1 k2 k3
    obtain ⟨rfl, g', he, hs'⟩ := hq
    exact ⟨_, a2, w2, ⟨rfl, g', he, less g' a2 w2 hs'⟩, harr⟩
end

section
variable {P : Program} {c : Code} {s s1 s2 : St} {e : Exit}
theorem Tri.round (h : Tri P c s .normal s1) (k : Tri P (.loop c) s1 e s2) : Tri P (.loop c) s e s2 := by
  intro g w0 F D a w hs
  have hlb : LB (FW D.ro) 0 P c (Post g w0 F D e s2) a w := by
    refine LB.of_body (wpIn_mono (h g w0 F D a w hs).1 fun e' a' w' hp => ?_)
    obtain ⟨rfl, g', he, hs'⟩ := hp
    intro b k' cs k1 k2 k3
    obtain ⟨e2, a2, w2, hq, harr⟩ := (k g' w0 F D a' w' hs').2 c rfl b k' cs k1 k2 k3
    obtain ⟨rfl, g'', he', hs''⟩ := hq
    exact ⟨_, a2, w2, ⟨rfl, g'', he.trans he', hs''⟩, harr⟩
  exact ⟨hlb.loop, fun c' hc => by cases hc; exact hlb⟩
theorem Tri.leave (h : Tri P c s e s1) (hne : e ≠ .normal) : Tri P (.loop c) s e s1 := by
  intro g w0 F D a w hs
  have hlb : LB (FW D.ro) 0 P c (Post g w0 F D e s1) a w := by
    refine LB.of_body (wpIn_mono (h g w0 F D a w hs).1 fun e' a' w' hp => ?_)
    obtain ⟨rfl, hp⟩ := hp
    cases e' <;> first | exact ⟨rfl, hp⟩ | exact absurd rfl hne
  exact ⟨hlb.loop, fun c' hc => by cases hc; exact hlb⟩
/-- a round, and the rest as it is told at other numbers -/
theorem LoopE.round {nt : Nat} {rd : Option (Option Nat)} {ss ss1 : List (Nat × SV)} {bl bl1 : List (Nat × AObj)} {N N1 N2 N3 nx : Nat} {ups ups1 ups2 : List (Nat × Option AObj)} {ss2 : List (Nat × SV)} {ssC ssC' : List (Nat × SV)} {blC : List (Nat × AObj)} {R : Nat → Nat}
    (h : Tri P c (stE ss nt rd (meL bl N)) .normal (stE ss1 nt rd ((upsM ups (meL bl N)).setNx nx)))
    (k : LoopE P (.loop c) nt rd ssC blC N1 e ssC' ups1 N2) (hrd : plainRd rd = true) (hT : RTold R blC N1 nx ups1 N2)
    (hss : ∀ x ∈ ssC, (pairs ss1).get x.1 = some (x.2.ren R)) (hbl : ∀ x ∈ blC, (upsM ups (meL bl N)).h.get (R x.1) = some (x.2.ren R))
    (hss2 : ss2 = ssC'.map (renSl R)) (hN : N3 = nx + (N2 - N1)) (hup : upsM (ups1.map (renU R)) (upsM ups (meL bl N)) = upsM ups2 (meL bl N)) : LoopE P (.loop c) nt rd ss bl N e ss2 ups2 N3 := by
  refine Tri.round h ?_
  have h2 := LoopE.ren k hrd hT (fraE ss1 nt rd) ((upsM ups (meL bl N)).setNx nx) rfl rfl (Me.setNx_nx _ _) (fun x hx => ?_) (fun x hx => ?_)
  · have e1 : fraOf (fraE ss1 nt rd) (ssC'.map (renSl R)) = fraE ss2 nt rd := by rw [hss2]; rfl
    have e2 : (upsM (ups1.map (renU R)) ((upsM ups (meL bl N)).setNx nx)).setNx (nx + (N2 - N1)) = (upsM ups2 (meL bl N)).setNx N3 := by
      rw [← hup, hN]
      have key : ∀ (l : List (Nat × Option AObj)) (m : Me) (a b : Nat), (upsM l (m.setNx a)).setNx b = (upsM l m).setNx b := by
        intro l
        induction l with
        | nil => intro m a b; cases m; rfl
        | cons x r ih =>
          intro m a b
          obtain ⟨c, o⟩ := x
          cases o with
          | some o => simp only [upsM]; exact (show (upsM r ((m.setNx a).put c o)).setNx b = _ by rw [show (m.setNx a).put c o = (m.put c o).setNx a by cases m; rfl]; exact ih _ a b)
          | none => simp only [upsM]; exact (show (upsM r ((m.setNx a).del c)).setNx b = _ by rw [show (m.setNx a).del c = (m.del c).setNx a by cases m; rfl]; exact ih _ a b)
      exact key _ _ _ _
    rw [e1, e2] at h2
    exact h2
  · obtain ⟨y, hy, rfl⟩ := List.mem_map.1 hx
    have := hss y hy
    show y.2.ren R = (match (pairs ss1).get y.1 with | some v => v | none => .any)
    rw [this]
  · obtain ⟨y, hy, rfl⟩ := List.mem_map.1 hx
    rw [Me.setNx_h]
    exact hbl y hy
theorem LoopE.leave {nt : Nat} {rd : Option (Option Nat)} {ss ss1 : List (Nat × SV)} {bl : List (Nat × AObj)} {N nx : Nat} {ups : List (Nat × Option AObj)}
    (h : Tri P c (stE ss nt rd (meL bl N)) e (stE ss1 nt rd ((upsM ups (meL bl N)).setNx nx))) (hne : e ≠ .normal) : LoopE P (.loop c) nt rd ss bl N e ss1 ups nx := Tri.leave h hne
end

/-! ### a way to renumber -/
/-- the blocks 128, 130, .. as these; new ones behind nx; the tables as they are -/
def rnOf (bs : List Nat) (nx b : Nat) : Nat :=
  match Nat.blt b 128 with
  | true => b
  | false => match listAt bs ((b - 128) / 2) with
    | some c => c
    | none => nx + (b - (128 + 2 * bs.length))
def rnOk (bs : List Nat) (nx : Nat) : Bool := Nat.ble 128 nx && Nat.beq (nx % 2) 0 && bs.all (fun c => Nat.ble 128 c && Nat.blt c nx) && noDup bs
theorem rnOf_ok {bs : List Nat} {nx : Nat} (h : rnOk bs nx = true) {dom : Nat → Prop} (hd : ∀ b, dom b → (b % 2 = 1 ∧ b < 128) ∨ (b % 2 = 0 ∧ 128 ≤ b ∧ b < 128 + 2 * bs.length)) : Rn (rnOf bs nx) (128 + 2 * bs.length) nx dom := by
  simp only [rnOk, Bool.and_eq_true, Nat.ble_eq, nbeq, beq_iff_eq, List.all_eq_true, Nat.blt_eq] at h
  obtain ⟨⟨⟨h1, h2⟩, h3⟩, h4⟩ := h
  have lo : ∀ b, b < 128 → rnOf bs nx b = b := fun b hb => by
    unfold rnOf
    rw [show Nat.blt b 128 = true by simpa using hb]
  have hi : ∀ b, 128 ≤ b → rnOf bs nx b = match bs[(b - 128) / 2]? with | some c => c | none => nx + (b - (128 + 2 * bs.length)) := fun b hb => by
    unfold rnOf
    rw [show Nat.blt b 128 = false by rw [← Bool.not_eq_true, Nat.blt_eq]; omega, listAt_eq]
  have inB : ∀ k, k < bs.length → ∃ c, bs[k]? = some c := fun k hk => ⟨_, List.getElem?_eq_getElem hk⟩
  refine ⟨by omega, fun i hi' => lo _ (by omega), fun i => ?_, fun b hb => ?_, fun b b' hb hb' he => ?_, fun b hb => ?_⟩
  · rw [hi _ (by omega), List.getElem?_eq_none (by omega)]
    show nx + (128 + 2 * bs.length + i - (128 + 2 * bs.length)) = nx + i
    omega
  · rcases Nat.lt_or_ge b 128 with hl | hl
    · rw [lo b hl]; omega
    · have hlt : (b - 128) / 2 < bs.length := by omega
      rw [hi b hl, List.getElem?_eq_getElem hlt]
      exact (h3 _ (List.getElem_mem hlt)).2
  · rcases hd b hb with ⟨p1, p2⟩ | ⟨p1, p2, p3⟩
    · rcases hd b' hb' with ⟨q1, q2⟩ | ⟨q1, q2, q3⟩
      · rwa [lo b p2, lo b' q2] at he
      · have hlt : (b' - 128) / 2 < bs.length := by omega
        rw [lo b p2, hi b' q2, List.getElem?_eq_getElem hlt] at he
        have := (h3 _ (List.getElem_mem hlt)).1
        have he' : b = bs[(b' - 128) / 2] := he
        omega
    · have hlt : (b - 128) / 2 < bs.length := by omega
      rcases hd b' hb' with ⟨q1, q2⟩ | ⟨q1, q2, q3⟩
      · rw [lo b' q2, hi b p2, List.getElem?_eq_getElem hlt] at he
        have := (h3 _ (List.getElem_mem hlt)).1
        have he' : bs[(b - 128) / 2] = b' := he
        omega
      · have hlt' : (b' - 128) / 2 < bs.length := by omega
        obtain ⟨c, hc⟩ := inB _ hlt
        obtain ⟨c', hc'⟩ := inB _ hlt'
        rw [hi b p2, hi b' q2, hc, hc'] at he
        have he' : c = c' := he
        subst he'
        have := noDup_spec bs h4 _ _ c hc hc'
        omega
  · rcases hd b hb with ⟨p1, p2⟩ | ⟨p1, p2, p3⟩ <;> omega

end
end Go.Sx
