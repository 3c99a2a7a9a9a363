/- The abstract evaluator: structs that are built, maps that are looked at, capacities; all operations that give a value. -/
import Derived.Test.YtjmcholbjjgelaaDoorSxEff2
namespace Go.Sx
noncomputable section
set_option linter.unusedVariables false
open Go.RowKit

section
variable {P : Program} {T : Tab} (hT : TabOk P T)
include hT

omit hT in
theorem fillF_run {g : Gh} {fs : List (Nat × TypeId)} {place : Nat → Option (Nat × Nat)} (hp : ∀ j fd n, fs[j]? = some fd → sizeOf? T fd.2 = some n → place j = some (fd.1, n)) :
    ∀ (ps : List (Nat × SV)) (vals : List (Nat × Value)) (l : List (Nat × List SV)) (cells : Array Value) (cs : List SV),
    ps.length = vals.length → (∀ (i : Nat) (p : Nat × SV) (q : Nat × Value), ps[i]? = some p → vals[i]? = some q → p.1 = q.1 ∧ VR g p.2 q.2) → partsF T fs ps = some l → fitF cells.size l = true → VRs g cs cells.toList →
    ∃ cells', Instr.fill place cells vals = some cells' ∧ VRs g (fillC cs l) cells'.toList
  | [], vals, l, cells, cs, hl, hr, hpp, hf, hc => by
    cases vals with
    | nil => simp only [partsF, Option.some.injEq] at hpp; subst hpp; exact ⟨cells, rfl, hc⟩
    | cons => simp at hl
  | (j, x) :: ps, vals, l, cells, cs, hl, hr, hpp, hf, hc => by
    cases vals with
    | nil => simp at hl
    | cons q vals =>
      obtain ⟨j', v⟩ := q
      obtain ⟨hj, hx⟩ := hr 0 (j, x) (j', v) (by simp) (by simp)
      simp only at hj hx
      subst hj
      simp only [partsF] at hpp
      split at hpp
      · rename_i fd hfd
        rw [listAt_eq] at hfd
        split at hpp
        · rename_i n hn
          split at hpp
          · rename_i vs hvs
            split at hpp
            · rename_i hlen
              rw [nbeq] at hlen
              have hlen' : vs.length = n := by simpa using hlen
              split at hpp
              · rename_i l' hl'
                simp only [Option.some.injEq] at hpp
                subst hpp
                simp only [fitF] at hf
                split at hf
                · rename_i hfit
                  obtain ⟨k1, k2⟩ := cellsS_spec hvs hx
                  have hfit' : fd.1 + vs.length ≤ cells.size := by simpa using hfit
                  have hvl : v.cells.size = n := by have := k1.length; simp at this; omega
                  have hoff : fd.1 + v.cells.size ≤ cells.size := by omega
                  have hs := splice_fold v.cells.toList 0 fd.1 cells (by simpa using hoff)
                  have hzip : (v.cells.zipIdx.foldl (fun cs (c, j') => cs.setIfInBounds (fd.1 + j') c) cells) = ((v.cells.toList.zipIdx 0).foldl (fun cs (x : Value × Nat) => cs.setIfInBounds (fd.1 + x.2) x.1) cells) := by
                    rw [← Array.foldl_toList]
                    simp
                  have hnew : VRs g (cs.take fd.1 ++ vs ++ cs.drop (fd.1 + vs.length)) (v.cells.zipIdx.foldl (fun cs (c, j') => cs.setIfInBounds (fd.1 + j') c) cells).toList := by
                    rw [hzip, hs]
                    have : vs.length = v.cells.toList.length := k1.length.symm
                    rw [this]
                    exact ((hc.take _).append k1).append (hc.drop _)
                  have hsize : (v.cells.zipIdx.foldl (fun cs (c, j') => cs.setIfInBounds (fd.1 + j') c) cells).size = cells.size := by
                    rw [← Array.length_toList, hzip, hs]
                    simp
                    omega
                  obtain ⟨cells', r1, r2⟩ := fillF_run hp ps vals l' _ _ (by simpa using hl) (fun i p q h2 h3 => hr (i + 1) p q (by simpa using h2) (by simpa using h3)) hl' (by rw [hsize]; exact hf) hnew
                  refine ⟨cells', ?_, r2⟩
                  simp only [Instr.fill, hp j fd n hfd hn]
                  rw [if_neg (by simp [hvl]; omega)]
                  exact r1
                · cases hf
              · cases hpp
            · cases hpp
          · cases hpp
        · cases hpp
      · cases hpp

theorem run_places (w : World) : ∀ (fs : List Field), allSizes T (fs.map fun (f : Field) => (f.offset, f.type)) = true →
    ∃ l : List (Nat × Nat), (fs.mapM fun (f : Field) => (Prod.mk f.offset <$> sizeOf f.type : Sem (Nat × Nat))).run P w = .ok l w ∧ l.length = fs.length ∧
      ∀ (j : Nat) (f : Field) (n : Nat), fs[j]? = some f → sizeOf? T f.type = some n → l[j]? = some (f.offset, n)
  | [], _ => ⟨[], by simp, rfl, fun j f n h => by simp at h⟩
  | f :: fs, h => by
    simp only [List.map_cons, allSizes] at h
    split at h
    · rename_i n hn
      obtain ⟨l, h1, h2, h3⟩ := run_places w fs h
      refine ⟨(f.offset, n) :: l, ?_, by simp [h2], fun j f' n' hj hn' => ?_⟩
      · have := run_sizeOf' hT w hn
        simp [List.mapM_cons, this, h1]
      · cases j with
        | zero =>
          simp only [List.getElem?_cons_zero, Option.some.injEq] at hj
          subst hj
          rw [hn] at hn'
          cases hn'
          rfl
        | succ j => simpa using h3 j f' n' (by simpa using hj) hn'
    · cases h

section
variable {g : Gh} {h : Heap} {w : World} (hh : HR g h w) {ρ : Operand → SV} {ρ' : Operand → Value} {o : Oper} {sv : SV} (hv : ∀ x ∈ o.op.operands, VR g (ρ x) (ρ' x))
include hv

theorem build_sound {t : TypeId} {parts : Array (Nat × Operand)} (ho : o.op = .build t parts) (hs : vBuild P T ρ o t (parts.toList.map fun p => (p.1, ρ p.2)) = some sv) : Gives P g o ρ' w sv := by
  unfold vBuild at hs
  split at hs
  · exact slow_sound hs hv
  · split at hs
    · rename_i ti hi
      split at hs
      · rename_i fs hd
        split at hs
        · rename_i hsz
          split at hs
          · rename_i l hl
            split at hs
            · rename_i hfit
              simp only [Option.some.injEq] at hs
              subst hs
              obtain ⟨inf, z, hp, hsz', hby, hz, hzc, hone, hzl⟩ := ty_ok hT hi
              obtain ⟨d', hu, ht⟩ := desc_ok hT (t := t) (d := .struct fs) (by simp [desc?, hi, hd])
              cases d' <;> simp only [tdOf, TD.struct.injEq, reduceCtorEq] at ht
              rename_i fields
              have ht' : fields.toList.map (fun f => (f.offset, f.type)) = fs := ht
              obtain ⟨pl, r1, r2, r3⟩ := run_places hT w fields.toList (by rw [ht']; exact hsz)
              have hplace : ∀ (j : Nat) (fd : Nat × TypeId) (n : Nat), fs[j]? = some fd → sizeOf? T fd.2 = some n → pl.toArray[j]? = some (fd.1, n) := fun j fd n hj hn => by
                rw [← ht', List.getElem?_map] at hj
                cases hf : fields.toList[j]? with
                | none => simp [hf] at hj
                | some f =>
                  simp only [hf, Option.map_some, Option.some.injEq] at hj
                  subst hj
                  simpa using r3 j f n hf hn
              obtain ⟨cells', k1, k2⟩ := fillF_run (T := T) (g := g) (fs := fs) (place := (pl.toArray[·]?)) hplace (parts.toList.map fun p => (p.1, ρ p.2)) (parts.toList.map fun p => (p.1, ρ' p.2)) l z.cells (ti.zero.map .pl) (by simp) (fun i p q h1 h2 => by
                  simp only [List.getElem?_map] at h1 h2
                  cases hpi : parts.toList[i]? with
                  | none => simp [hpi] at h1
                  | some pr =>
                    simp only [hpi, Option.map_some, Option.some.injEq] at h1 h2
                    subst h1 h2
                    refine ⟨rfl, hv pr.2 ?_⟩
                    simp only [ho, Op.operands]
                    simp only [List.mem_toArray, List.mem_map]
                    exact ⟨pr, List.mem_of_getElem? hpi, rfl⟩) hl (by rw [← Array.length_toList, hzc]; exact hfit) (by rw [hzc]; exact VRs.pls _)
              refine ⟨.agg cells', ?_, mkAgg_VR k2⟩
              have hpa : (parts.map fun (i, x) => (i, ρ' x)).toList = parts.toList.map fun p => (p.1, ρ' p.2) := by simp
              have hpm : (fields.mapM fun (f : Field) => (Prod.mk f.offset <$> sizeOf f.type : Sem (Nat × Nat))).run P w = .ok pl.toArray w := by
                rw [Array.mapM_eq_mapM_toList]
                simp only [Sem.run_map]
                rw [r1]
                rfl
              have hb : (Instr.build t (parts.map fun (i, x) => (i, ρ' x))).run P w = .ok (.agg cells') w := by
                unfold Instr.build
                simp only [List.getElem?_toArray] at k1
                simp [zeroValue, typeInfo, hp, hz, run_underlying hu, hpm, k1]
              simp only [execOp, ho, Sem.run_bind]
              rw [hb]
              rfl
            · cases hs
          · cases hs
        · cases hs
      · rename_i n e hd
        split at hs
        · rename_i sz hsz
          split at hs
          · rename_i l hl
            split at hs
            · rename_i hfit
              simp only [Option.some.injEq] at hs
              subst hs
              obtain ⟨inf, z, hp, hsz', hby, hz, hzc, hone, hzl⟩ := ty_ok hT hi
              have hu := arrayOf_ok hT (t := t) (ne := (n, e)) (by simp [arrayOf?, desc?, hi, hd])
              have hrn := run_sizeOf' hT w hsz
              obtain ⟨cells', k1, k2, _⟩ := fill_run (g := g) (sz := sz) (parts.toList.map fun p => (p.1, ρ p.2)) (parts.toList.map fun p => (p.1, ρ' p.2)) l z.cells (ti.zero.map .pl) (by simp) (fun i p q h1 h2 => by
                  simp only [List.getElem?_map] at h1 h2
                  cases hpi : parts.toList[i]? with
                  | none => simp [hpi] at h1
                  | some pr =>
                    simp only [hpi, Option.map_some, Option.some.injEq] at h1 h2
                    subst h1 h2
                    refine ⟨rfl, hv pr.2 ?_⟩
                    simp only [ho, Op.operands]
                    simp only [List.mem_toArray, List.mem_map]
                    exact ⟨pr, List.mem_of_getElem? hpi, rfl⟩) hl (by rw [← Array.length_toList, hzc]; exact hfit) (by rw [hzc]; exact VRs.pls _) (fun u hu => by rw [hzc] at hu; exact oneV_eq _ (List.all_eq_true.1 hone _ hu))
              refine ⟨.agg cells', ?_, mkAgg_VR k2⟩
              have hb : (Instr.build t (parts.map fun (i, x) => (i, ρ' x))).run P w = .ok (.agg cells') w := by
                unfold Instr.build
                simp [zeroValue, typeInfo, hp, hz, run_underlying hu, hrn, k1]
              simp only [execOp, ho, Sem.run_bind]
              rw [hb]
              rfl
            · cases hs
          · cases hs
        · cases hs
      · cases hs
    · cases hs

theorem cap_sound {c : Call} (ho : o.op = .call c) (hc : c.callee = .builtin .cap) (hs : vCap P T ρ o c.argTypes.toList (c.args.toList.map ρ) = some sv) : Gives P g o ρ' w sv := by
  unfold vCap at hs
  split at hs
  · rename_i b off len cap hargs
    split at hs
    · rename_i t ts hts
      split at hs
      · rename_i e he
        have h2 := sliceOf_ok hT he
        have h1 : c.argTypes[0]? = some t := by
          have : c.argTypes.toList[0]? = some t := by rw [hts]; rfl
          simpa using this
        simp only [Option.some.injEq] at hs
        subst hs
        obtain ⟨x, hx, hxx⟩ : ∃ x, c.args = #[x] ∧ ρ x = .sl b off len (.cap cap) := by
          simp only [List.map_eq_cons_iff, List.map_eq_nil_iff] at hargs
          obtain ⟨x, l, h3, h4, h5⟩ := hargs
          subst h5
          exact ⟨x, by rw [← Array.toList_inj, h3], h4⟩
        have hr := hv x (by simp [ho, Op.operands, Call.operands, hx])
        rw [hxx] at hr
        simp only [VR] at hr
        rcases hr.2 with ⟨c', hval, _, hc'⟩ | ⟨_, _, _, _, h⟩
        · simp only [ownOk] at hc'
          subst hc'
          refine ⟨.int .i64 c', ?_, by simp [VR]⟩
          simp [execOp, ho, resolve, hc, hx, invoke, builtin, Builtin.cap_, h1, hval, run_underlying h2, goInt]
        · exact h.elim
      · cases hs
    · cases hs
  · exact slow_sound hs hv

omit hT hv in
theorem mapFind_spec {s : ByteArray} : ∀ (es : List MapEntry) (r : Option Value) (i : Nat), mapFind s es = some r →
    Instr.findNow .string (.string s) es i = some (match r with | some v => (Instr.findNow .string (.string s) es i).bind id | none => none) ∧
    (∀ v, r = some v → ∃ k, Instr.findNow .string (.string s) es i = some (some (k, v)))
  | [], r, i, h => by
    simp only [mapFind, Option.some.injEq] at h
    subst h
    exact ⟨rfl, fun v hv => by cases hv⟩
  | e :: es, r, i, h => by
    simp only [mapFind] at h
    split at h
    · rename_i k hk
      have hsn : Instr.sameNow .string (.string s) e.key = some (s == k) := by rw [hk]; rfl
      split at h
      · rename_i heq
        simp only [Option.some.injEq] at h
        subst h
        refine ⟨?_, fun v hv => ?_⟩
        · simp only [Instr.findNow, hsn, heq, Option.bind_some, id]
        · simp only [Option.some.injEq] at hv
          subst hv
          exact ⟨i, by simp only [Instr.findNow, hsn, heq]⟩
      · rename_i heq
        obtain ⟨h1, h2⟩ := mapFind_spec es r (i + 1) h
        have hst : Instr.findNow .string (.string s) (e :: es) i = Instr.findNow .string (.string s) es (i + 1) := by
          simp only [Instr.findNow, hsn, heq]
        rw [hst]
        exact ⟨h1, h2⟩
    · cases h

include hh in
theorem lookup_sound {t : TypeId} {x ix : Operand} {ok : Bool} (ho : o.op = .lookup t x ix ok) (hs : vLookup T h t (ρ x) (ρ ix) ok = some sv) : Gives P g o ρ' w sv := by
  have h1 := hv x (by simp [ho, Op.operands])
  have h2 := hv ix (by simp [ho, Op.operands])
  unfold vLookup at hs
  split at hs
  · rename_i z es hm
    split at hs
    · rename_i s hix
      rw [hix] at h2
      simp only [VR] at h2
      unfold mapAt at hm
      split at hm
      · rename_i b hb
        rw [hb] at h1
        simp only [VR] at h1
        split at hm
        · rename_i k e hmo
          have hu := mapOf_ok hT hmo
          split at hm
          · rename_i hk
            have hku := isStr_ok hT hk
            split at hm
            · rename_i z' hz
              split at hm
              · rename_i es' clock hg
                simp only [Option.some.injEq, Prod.mk.injEq] at hm
                obtain ⟨rfl, rfl⟩ := hm
                have hw : w.heap[g.σ b]? = some (.map es' clock) := (hh b _ hg).2
                have hzrun : (zeroValue e).run P w = .ok z' w := by
                  unfold zeroV zeroOf? at hz
                  cases hi : T.ty.get e with
                  | none => simp [hi] at hz
                  | some ti =>
                    simp only [hi] at hz
                    obtain ⟨inf, zz, hp, _, _, hzz, hzc, _, _⟩ := ty_ok hT hi
                    split at hz
                    · cases hz
                    · rename_i hlen
                      simp only [Option.some.injEq] at hz
                      subst hz
                      have : zz = .agg ti.zero.toArray := by
                        have hl : ti.zero.length ≠ 1 := by
                          rw [nbeq] at hlen
                          simpa using hlen
                        cases zz with
                        | agg cs => rw [← hzc]; rfl
                        | _ => exact absurd (by rw [← hzc]; rfl) hl
                      simp [zeroValue, typeInfo, hp, hzz, this]
                have hfind : ∀ r, mapFind s es'.toList = some r → ((Instr.findKey k (.string s) es'.toList).run P w = .ok none w ∧ r = none) ∨ ∃ j v, (Instr.findKey k (.string s) es'.toList).run P w = .ok (some (j, v)) w ∧ r = some v := fun r hr => by
                  obtain ⟨k1, k2⟩ := mapFind_spec es'.toList r 0 hr
                  unfold Instr.findKey
                  cases r with
                  | none =>
                    refine .inl ⟨?_, rfl⟩
                    simp only [Sem.run_bind, run_underlying hku, Result.andThen_ok]
                    rw [k1]
                    rfl
                  | some v =>
                    obtain ⟨j, hj⟩ := k2 v rfl
                    refine .inr ⟨j, v, ?_, rfl⟩
                    simp only [Sem.run_bind, run_underlying hku, Result.andThen_ok]
                    rw [hj]
                    rfl
                have hck0 : ∀ d : Nat, (Instr.checkKey es'.isEmpty (d + 1) k (.string s)).run P w = .ok () w := fun d => by
                  simp [Instr.checkKey, run_underlying hku]
                have hck := hck0 9999
                have hgo : (getObj (g.σ b)).run P w = .ok (.map es' clock) w := by simp [getObj, Sem.run, hw]
                unfold mapGet at hs
                split at hs
                · rename_i v hmf
                  rcases hfind _ hmf with ⟨_, h0⟩ | ⟨j, v', hr, h0⟩
                  · cases h0
                  · simp only [Option.some.injEq] at h0
                    subst h0
                    refine ⟨if ok then .tuple #[v, .bool true] else v, ?_, ?_⟩
                    · simp [execOp, ho, h1.2, h2, Instr.lookup, run_underlying hu, hgo, hck, hr]
                    · cases ok <;> simp only [Option.some.injEq] at hs <;> subst hs <;> simp [VR]
                · rename_i hmf
                  rcases hfind _ hmf with ⟨hr, _⟩ | ⟨j, v', hr, h0⟩
                  · refine ⟨if ok then .tuple #[z', .bool false] else z', ?_, ?_⟩
                    · simp [execOp, ho, h1.2, h2, Instr.lookup, run_underlying hu, hgo, hck, hr, hzrun]
                    · cases ok <;> simp only [Option.some.injEq] at hs <;> subst hs <;> simp [VR]
                  · cases h0
                · cases hs
              · cases hm
            · cases hm
          · cases hm
        · cases hm
      · cases hm
    · cases hs
  · cases hs

include hh in
theorem val_sound (hs : valOp P T h ρ o = some sv) : Gives P g o ρ' w sv := by
  cases ho : o.op <;> simp only [valOp, ho] at hs
  case move x => exact move_sound hv (.inl ho) (by simpa using hs)
  case assign x => exact move_sound hv (.inr ho) (by simpa using hs)
  case pick c a b => exact pick_sound hv ho hs
  case extract t i => exact extract_sound hv ho hs
  case load t a => exact load_sound hT hh hv ho hs
  case binOp op t x y t' => exact plainBin_sound hT ho hs hv
  case nilCheck x => exact nilCheck_sound hv ho hs
  case fieldAddr s x f => exact fieldAddr_sound hT hv ho hs
  case field s x f => exact field_sound hT hv ho hs
  case indexAddr t x ix => exact indexAddr_sound hT hv ho hs
  case index t x ix => exact index_sound hT hv ho hs
  case slice t x lo hi mx => exact slice_sound hT hv ho hs
  case sliceToArrayPointer t x => exact arrayAt_sound hT hv ho hs
  case makeFunc fn first caps => exact makeFunc_sound hv ho hs
  case convert src dst x => exact convert_sound hT hh hv ho hs
  case build t parts => exact build_sound hT hv ho hs
  case lookup t x ix ok => exact lookup_sound hT hh hv ho hs
  case call c =>
    unfold vCall at hs
    split at hs
    · rename_i hc; exact cap_sound hT hv ho hc hs
    · rename_i hc; exact len_sound hT hv ho hc hs
    · exact slow_sound hs hv
    · cases hs
  all_goals exact slow_sound hs hv
end
end

end
end Go.Sx
