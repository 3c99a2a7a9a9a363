/- The abstract evaluator: append; all operations that turn memory, but calls. -/
import Derived.Test.YtjmcholbjjgelaaDoorSxEff3
import Derived.Lib.AppendStr
namespace Go.Sx
noncomputable section
set_option linter.unusedVariables false
open Go.RowKit

theorem Turns.same {g : Gh} {w0 : World} {F : Nat → Prop} {m : Me} {w : World} (h : MRel g w0 F m w) {sv : SV} {v : Value} (hv : VR g sv v) : Turns g w0 F m sv v w :=
  ⟨g, Ext.refl g, h, hv⟩

theorem run_append_none {P : Program} (w : World) (t ty e : TypeId) (n : Nat) (ht : P.underlying t = some (.slice e)) (hn : ∃ i, P.info? e = some i ∧ i.size = n) (base : Option Addr) (len cap : Nat) (a : Option Addr) (c : Nat) (hlc : len ≤ cap) :
    (Builtin.append_ #[t, t] ty #[.slice base len cap, .slice a 0 c]).run P w = .ok (.slice base len cap) w := by
  obtain ⟨i, hi, hn⟩ := hn
  cases base with
  | none => cases a <;> simp [Builtin.append_, run_underlying ht, sizeOf, typeInfo, hi, Builtin.lenOf, Builtin.firstCells, hlc, loadCells, loadCellsFrom]
  | some a => rename_i x; cases x <;> simp [Builtin.append_, run_underlying ht, sizeOf, typeInfo, hi, Builtin.lenOf, Builtin.firstCells, hlc, storeCells, loadCells, loadCellsFrom]

section
variable {g : Gh} {w0 : World} {F : Nat → Prop} {m : Me} {w : World} (hm : MRel g w0 F m w)
include hm

theorem onto_spec {sz : Nat} {e : TypeId} {x : SV} {v : Value} {old : List SV} {n : Nat} {b : Option Nat} (hs : ontoS m.h sz e x = some (old, n, b)) (hx : VR g x v) :
    ∃ xs, w.ownsRow 0 e sz v n xs ∧ VRs g old xs ∧ (∀ u ∈ xs, u.oneCell' = true) ∧ (v.ownBlock = none ∨ ∃ b' o, b = some b' ∧ m.h.get b' = some o ∧ o.live g b' ∧ v.ownBlock = some (g.σ b')) ∧
      ∃ r k vt, (∀ g' : Gh, Ext g g' → g'.σ g.n = r → g'.ω g.n = 0 → g'.κ g.n = k → g'.v g.n = vt → g'.has g.n → VR g' (.sl g.n 0 n (.own sz)) v ∧ OR g' g.n w (.cells old true e)) ∧ (vt = false → ∃ b' o, b = some b' ∧ m.h.get b' = some o ∧ o.live g b' ∧ g.σ b' = r) := by
  unfold ontoS at hs
  split at hs
  · simp only [Option.some.injEq, Prod.mk.injEq] at hs
    obtain ⟨rfl, rfl, rfl⟩ := hs
    simp only [VR] at hx
    subst hx
    exact ⟨[], World.ownsRow_nil _ _ _ _, by simp [VRs], by simp, .inl rfl, 0, 0, true, fun g' _ _ _ _ hκ hh => ⟨by simp only [VR]; exact ⟨hh, .inr ⟨trivial, none, 0, rfl, rfl, hκ, rfl, rfl⟩⟩, .inl ⟨hκ, rfl⟩⟩, fun h => by cases h⟩
  · rename_i b0 n0 sz'
    split at hs
    · rename_i hsz
      rw [nbeq] at hsz
      have hsz' : sz = sz' := by simpa using hsz
      subst hsz'
      split at hs
      · rename_i cs el0 hb0
        split at hs
        · rename_i hel
          rw [nbeq] at hel
          have hel' : el0 + 1 = e := by simpa using hel
          have hb : m.h.get b0 = some (.cells cs true e) := by rw [hb0, ← hel']
          have hne0 : e ≠ 0 := by rw [← hel']; exact Nat.succ_ne_zero _
          obtain ⟨el, hel2⟩ : ∃ el, el = e := ⟨_, rfl⟩
          subst hel2
          split at hs
          · rename_i l hl
            simp only [Option.some.injEq, Prod.mk.injEq] at hs
            obtain ⟨rfl, rfl, rfl⟩ := hs
            simp only [VR] at hx
            obtain ⟨hhas, hor⟩ := hm.heap b0 _ hb
            rcases hx.2 with ⟨c, hval, hlc, hown⟩ | ⟨h0, a, c, hval, hoff, hvt, ha, hc⟩
            · obtain ⟨_, _, hvf, hck, hcm⟩ := hown
              obtain ⟨cur, e, fr, hw, hcr, hκ, hwr⟩ := hor.of_v hvf
              obtain ⟨hω, hfr, hel⟩ := hwr rfl hne0
              subst hfr hel
              · obtain ⟨vs, hvl, hvs, hcell⟩ := hcr.cut hl
                rw [hω] at hval hcell
                have hcap : n0 * sz ≤ cur.size := by rw [← hκ, ← hck]; exact Nat.mul_le_mul_right _ hlc
                refine ⟨vs, ⟨hvl, .inr ⟨g.σ b0, c, cur, hval, Nat.zero_le _, hw, hlc, hcm, by rw [← hκ, hck], ?_⟩⟩, hvs, fun u hu => ?_, .inr ⟨b0, _, rfl, hb, ⟨rfl, hvf⟩, by rw [hval]; rfl⟩, g.σ b0, g.κ b0, false, fun g' he hσ hω' hκ' hv' hh => ⟨?_, ?_⟩, fun _ => ⟨b0, _, rfl, hb, ⟨rfl, hvf⟩, rfl⟩⟩
                · apply List.ext_getElem?
                  intro j
                  by_cases hj : j < n0 * sz
                  · rw [List.getElem?_take_of_lt hj]
                    have hjv : j < vs.length := by omega
                    have := (hcell j _ (List.getElem?_eq_getElem hjv)).1
                    rw [List.getElem?_eq_getElem hjv]
                    simpa using this
                  · rw [List.getElem?_eq_none (by simp; omega), List.getElem?_eq_none (by omega)]
                · obtain ⟨j, hj, rfl⟩ := List.mem_iff_getElem.1 hu
                  exact (hcell j _ (List.getElem?_eq_getElem hj)).2
                · simp only [VR]
                  refine ⟨hh, .inl ⟨c, ?_, hlc, rfl, hω', hv', by rw [hκ']; exact hck, hcm⟩⟩
                  rw [hσ, hω', hval]
                · refine .inr ⟨hv', cur, e, (0, 0), by rw [hσ]; exact hw, fun i sv hi => ?_, by rw [hκ', hκ], fun _ _ => ⟨hω', rfl, rfl⟩⟩
                  obtain ⟨_, rfl⟩ := cutAt_spec hl
                  rw [List.drop_zero, List.getElem?_take] at hi
                  split at hi
                  · obtain ⟨v, h1, h2, h3⟩ := hcr i sv hi
                    rw [hω] at h1
                    exact ⟨v, by rw [hω']; exact h1, VR.ext he _ _ h2, h3⟩
                  · cases hi
            · rcases hor with ⟨_, rfl⟩ | ⟨hvf, _⟩
              · obtain ⟨h1, rfl⟩ := cutAt_spec hl
                have hl0 : (([] : List SV).drop 0).take (n0 * sz) = [] := by simp
                rw [hl0]
                subst h0 ha hc hval
                exact ⟨[], World.ownsRow_nil _ _ _ _, by simp [VRs], by simp, .inl rfl, 0, 0, true, fun g' _ _ _ _ hκ hh => ⟨by simp only [VR]; exact ⟨hh, .inr ⟨trivial, none, 0, rfl, rfl, hκ, rfl, rfl⟩⟩, .inl ⟨hκ, rfl⟩⟩, fun h => by cases h⟩
              · rw [hvt] at hvf; cases hvf
          · cases hs
        · cases hs
      · cases hs
    · cases hs
  · cases hs

theorem from_spec {sz : Nat} {x : SV} {v : Value} {new : List SV} {k : Nat} (hs : fromS m.h sz x = some (new, k)) (hx : VR g x v) (hk : 0 < k) :
    ∃ ad c news, v = .slice (some ad) k c ∧ news.length = k * sz ∧ (∀ j u, news[j]? = some u → w.cell? (ad.add j) = some u) ∧ (∀ u ∈ news, u.oneCell' = true) ∧ VRs g new news := by
  unfold fromS at hs
  split at hs
  · rename_i b off k' own
    split at hs
    · rename_i cs hcs
      unfold cellsOf? at hcs
      split at hcs
      · rename_i cs' wr el' hg
        simp only [Option.some.injEq] at hcs
        subst hcs
        split at hs
        · rename_i l hl
          simp only [Option.some.injEq, Prod.mk.injEq] at hs
          obtain ⟨rfl, rfl⟩ := hs
          obtain ⟨hb, hor⟩ := hm.heap b _ hg
          obtain ⟨vs, hlen, hvs, hcell⟩ := hor.cut hl
          simp only [VR] at hx
          rcases hx.2 with ⟨c, hval, _, _⟩ | ⟨h0, _⟩
          · refine ⟨_, c, vs, hval, hlen, fun j u hj => ?_, fun u hu => ?_, hvs⟩
            · rw [add_of]; exact (hcell j u hj).1
            · obtain ⟨j, hj, rfl⟩ := List.mem_iff_getElem.1 hu
              exact (hcell j _ (List.getElem?_eq_getElem hj)).2
          · omega
        · cases hs
      · cases hcs
    · cases hs
  · cases hs
omit hm in
theorem from_zero {sz : Nat} {x : SV} {v : Value} {new : List SV} (hs : fromS m.h sz x = some (new, 0)) (hx : VR g x v) : ∃ a c, v = .slice a 0 c := by
  unfold fromS at hs
  split at hs
  · split at hs
    · split at hs
      · simp only [Option.some.injEq, Prod.mk.injEq] at hs
        obtain ⟨_, rfl⟩ := hs
        simp only [VR] at hx
        rcases hx.2 with ⟨c, hval, _⟩ | ⟨_, a, c, hval, _⟩
        · exact ⟨_, c, hval⟩
        · exact ⟨a, c, hval⟩
      · cases hs
    · cases hs
  · cases hs
omit hm in
theorem from_nil {sz : Nat} {x : SV} {new : List SV} (hs : fromS m.h sz x = some (new, 0)) : new = [] := by
  unfold fromS at hs
  split at hs
  · split at hs
    · split at hs
      · rename_i l hl
        simp only [Option.some.injEq, Prod.mk.injEq] at hs
        obtain ⟨rfl, rfl⟩ := hs
        obtain ⟨_, rfl⟩ := cutAt_spec hl
        simp
      · cases hs
    · cases hs
  · cases hs
end

/-- a string is appended: where the row lies behind -/
theorem run_append_str {P : Program} (w : World) (t u ty e : TypeId) (i : TypeInfo) (z : Value) (ht : P.underlying t = some (.slice e)) (hu : P.underlying u = some .string) (hi : P.info? e = some i) (hz : i.zero = some z)
    (hsize : i.size = 1) (hby : i.bytes = 1) (hzs : z.cells.size = 1) (v : Value) (n : Nat) (xs : List Value) (hown : w.ownsRow 0 e 1 v n xs) (s : ByteArray) (h0 : 0 < s.size) (hb : n + s.size ≤ 140737488355328) :
    ∃ gg cap w', (Builtin.append_ #[t, u] ty #[v, .string s]).run P w = .ok (.slice (some ⟨gg, 0, none⟩) (n + s.size) cap) w' ∧
      w'.ownsRow 0 e 1 (.slice (some ⟨gg, 0, none⟩) (n + s.size) cap) (n + s.size) (xs ++ Lib.strCells s) ∧ w.grownBy w' v.ownBlock ∧ (v.ownBlock = some gg ∨ gg = w.heap.size) := by
  have hxl : xs.length = n := by simpa using hown.1
  have hsc := Lib.strCells_length s
  have hlen : (xs ++ Lib.strCells s).length = (n + s.size) * 1 := by rw [List.length_append, hxl, hsc, Nat.mul_one]
  have grown : ∀ (old : Nat), old < n + s.size → ∀ (row : Option Nat),
      (w.drew.alloc (.cells (xs.toArray ++ (Lib.strCells s).toArray ++ Builtin.zeroCells z.cells (grownCap w (n + s.size) old e - (n + s.size))) e)).ownsRow 0 e 1
        (.slice (some ⟨w.heap.size, 0, none⟩) (n + s.size) (grownCap w (n + s.size) old e)) (n + s.size) (xs ++ Lib.strCells s) ∧
      w.grownBy (w.drew.alloc (.cells (xs.toArray ++ (Lib.strCells s).toArray ++ Builtin.zeroCells z.cells (grownCap w (n + s.size) old e - (n + s.size))) e)) row := by
    intro old ho row
    have hge := grownCap_ge w (n + s.size) old e
    have hcm : grownCap w (n + s.size) old e ≤ maxLen := grownCap_le_maxLen w (n + s.size) old e (by unfold maxLen; omega)
    refine ⟨⟨hlen, .inr ⟨w.heap.size, _, _, rfl, Nat.zero_le _, heap_alloc_new w.drew _, hge, hcm, ?_, ?_⟩⟩, ⟨rfl, rfl, rfl, by simp, fun k hk _ => heap_alloc_old w.drew _ hk⟩⟩
    · simp only [Array.size_append, List.size_toArray, size_zeroCells, hzs, hxl, hsc]
      omega
    · simp only [Array.toList_append, List.append_assoc]
      rw [← List.append_assoc, ← hlen]
      exact List.take_left
  rcases hown.2 with ⟨rfl, rfl⟩ | ⟨gg, cap, cur, rfl, hbg, hg, hnc, hcm, hcs, htake⟩
  · have hx : xs = [] := List.eq_nil_of_length_eq_zero hxl
    subst hx
    have hr := run_append_nil_string (P := P) w t u ty e i z ht hu hi hz s h0 (by omega) (by rw [hby]; omega)
    have hgr := grown 0 (by omega) (Value.ownBlock (.slice none 0 0))
    simp only [Nat.zero_add, List.nil_append, Array.empty_append] at hgr ⊢
    have e1 : (s.data.map fun b => Value.int .u8 b.toNat) = (Lib.strCells s).toArray := by
      apply Array.ext'
      simp [Lib.strCells]
    rw [e1] at hr
    exact ⟨_, _, _, hr, hgr.1, hgr.2, .inr rfl⟩
  · by_cases hroom : n + s.size ≤ cap
    · have hcs' : cur.size = cap := by simpa using hcs
      have hr := Lib.run_append_room_string (P := P) w t u ty e i ht hu hi hsize gg n cap cur hg s hroom (by omega)
      refine ⟨_, _, _, hr, ⟨hlen, .inr ⟨gg, cap, _, rfl, hbg, setRow_heap w gg cur _ e _ hg, hroom, hcm, ?_, ?_⟩⟩, ⟨rfl, rfl, rfl, by simp, fun k _ hk => setRow_other w gg k _ (fun e => hk (by simp [Value.ownBlock, e]))⟩, .inl rfl⟩
      · simp only [List.size_toArray, List.length_append, List.length_take, List.length_drop, Array.length_toList, hsc]
        omega
      · have ht' : cur.toList.take n = xs := by simpa using htake
        rw [ht', ← hlen]
        exact List.take_left
    · have holds : ∀ j u, xs[j]? = some u → w.cell? ((⟨gg, 0, none⟩ : Addr).add j) = some u := hown.cells (g := gg) rfl
      have hr := Lib.run_append_grow_string (P := P) w t u ty e i z ht hu hi hz ⟨gg, 0, none⟩ n cap xs (by rw [hsize]; simpa using hxl) holds s (by omega) (by omega) (by rw [hby]; exact growslice_fits (by omega) (by omega))
      have hgr := grown cap (by omega) (Value.ownBlock (.slice (some ⟨gg, 0, none⟩) n cap))
      exact ⟨_, _, _, hr, hgr.1, hgr.2, .inr rfl⟩

section
variable {P : Program} {T : Tab} (hT : TabOk P T) {g : Gh} {w0 : World} {F : Nat → Prop} {m m' : Me} {w : World} (hm : MRel g w0 F m w) {ρ : Operand → SV} {ρ' : Operand → Value} {o : Oper} {sv : SV}
  (hv : ∀ x ∈ o.op.operands, VR g (ρ x) (ρ' x))
include hT hm hv

theorem appendStr_sound {r i : Nat} {c : Call} {t t' : TypeId} {a1 a2 : Operand} (ho : o.op = .call c) (hc : c.callee = .builtin .append) (hca : c.args = #[a1, a2]) (hct : c.argTypes = #[t, t']) (hst : isStr T t' = true)
    (hs : eAppendStr T r i t (ρ a1) (ρ a2) m = some (sv, m')) : AllP m'.vc → Steps1 P g w0 F o ρ' w m' sv ∧ AllP m.vc := by
  intro hvc
  have hr1 := hv a1 (by simp [ho, Op.operands, Call.operands, hca])
  have hr2 := hv a2 (by simp [ho, Op.operands, Call.operands, hca])
  have hexec : ∀ v w', (Builtin.append_ #[t, t'] o.type #[ρ' a1, ρ' a2]).run P w = .ok v w' → (execOp ρ' o).run P w = .ok (.value v) w' := by
    intro v w' h
    simp [execOp, ho, resolve, hc, hca, hct, invoke, builtin, h]
  have hus := isStr_ok hT hst
  unfold eAppendStr at hs
  split at hs
  · rename_i e he
    have hu := sliceOf_ok hT he
    split at hs
    · rename_i ti hi
      obtain ⟨inf, z, hp, hsz, hby, hz, hzc, hone, hzl⟩ := ty_ok hT hi
      split at hs
      · rename_i h8
        simp only [Bool.and_eq_true, nbeq, beq_iff_eq] at h8
        split at hs
        · rename_i old n b hon
          split at hs
          · rename_i bs hx
            rw [hx] at hr2
            simp only [VR] at hr2
            unfold appendedStr at hs
            split at hs
            · rename_i m1 hck
              obtain ⟨c1, c2, c3⟩ := check_spec hck
              split at hs
              rename_i cs m2 hrc
              obtain ⟨d1, d2, d3⟩ := recell_spec hrc
              simp only [Option.some.injEq, Prod.mk.injEq] at hs
              obtain ⟨rfl, rfl⟩ := hs
              rw [Me.new_vc] at hvc
              have hdv : (delRow b m2).vc = m2.vc := by cases b <;> simp [delRow, Me.del_vc]
              rw [hdv] at hvc
              obtain ⟨hcs, hv1⟩ := d1 hvc
              obtain ⟨hcb, hv0⟩ := c1 hv1
              subst hcs
              simp only [Bool.and_eq_true, Nat.ble_eq, Nat.blt_eq] at hcb
              obtain ⟨hb1, hb2⟩ := hcb
              have hlen : bs.data.toList.length = bs.size := rfl
              rw [hlen] at hb1 hb2
              have hm2 : MRel g w0 F m2 w := hm.same (by rw [d2, c2]) (by rw [d3, c3])
              have hhe : m2.h = m.h := by rw [d2, c2]
              obtain ⟨xs, hown, hxs, hx1, hrow, rr, kk, vt, hre, hrt⟩ := onto_spec hm hon hr1
              have hnx : m2.nx = m.nx := by rw [d3, c3]
              obtain ⟨gg, cap, w', hrun, hown', hgrow, hat⟩ := run_append_str (P := P) w t t' o.type e inf z hu hus hp hz (hsz.trans h8.1.2) (hby.trans h8.2) (by rw [← Array.length_toList, hzc, hzl]; exact h8.1.2) (ρ' a1) n xs hown bs hb1 (by omega)
              rcases hown'.2 with ⟨h, _⟩ | ⟨g', cap', cur, hv', _, hg', hncap, hcapm, hcsz, htake⟩
              · simp at h
              simp only [Value.slice.injEq, Option.some.injEq, Addr.mk.injEq, and_true, true_and] at hv'
              obtain ⟨rfl, rfl⟩ := hv'
              have hall : VRs g (old ++ bytesS bs.data.toList) (xs ++ Lib.strCells bs) := hxs.append (by
                have : bytesS bs.data.toList = (Lib.strCells bs).map .pl := by simp [bytesS, Lib.strCells]
                rw [this]; exact VRs.pls _)
              have hnear : Near w w' (ρ' a1).ownBlock := ⟨hgrow.os, hgrow.tape, hgrow.output, hgrow.size, hgrow.block⟩
              have hmr := hm2.newRow b (ρ' a1).ownBlock hnear gg (fun q hq => by
                  rcases hrow with h1 | ⟨b', o', hb', ho', hwr', hob⟩
                  · rw [h1] at hq; cases hq
                  · refine ⟨b', o', hb', by rw [hhe]; exact ho', hwr', ?_⟩
                    rw [hob] at hq; cases hq; rfl) (by
                  rcases hat with h | h
                  · exact .inr h
                  · exact .inl (Nat.le_of_eq h.symm)) cur e hg' (old ++ bytesS bs.data.toList) (fun j sv hj => by
                    obtain ⟨u, h1, h2⟩ := hall.get hj
                    refine ⟨u, ?_, h2, ?_⟩
                    · rw [← htake] at h1
                      rw [List.getElem?_take] at h1
                      split at h1
                      · simpa using h1
                      · cases h1
                    · rcases List.mem_append.1 (List.mem_of_getElem? h1) with h | h
                      · exact hx1 u h
                      · exact Lib.strCells_oneCell bs u h)
              refine ⟨⟨_, w', .inl (hexec _ _ (by rw [hr2]; exact hrun)), _, g.new_ext (by rw [hm.n]; exact hm.even) _ _, hmr, ?_⟩, hv0⟩
              simp only [VR]
              rw [hnx, ← hm.n]
              refine ⟨by simp [Gh.new, Gh.has], .inl ⟨cap, ?_, hncap, rfl, upd_eq _ _ _, if_pos rfl, ?_, hcapm⟩⟩
              · simp only [Gh.new, upd_eq]; rfl
              · simp only [Gh.new, upd_eq]; exact hcsz.symm
            · cases hs
          · cases hs
        · cases hs
      · cases hs
    · cases hs
  · cases hs

omit hT hm hv in
theorem ontoP_spec {h : Heap} {sz : Nat} {e : TypeId} {s : SV} {old : List SV} {n : Nat} {b : Option Nat} (hp : ontoP h sz e s old) (hb : ontoB s = some (n, b)) : ontoS h sz e s = some (old, n, b) := by
  unfold ontoP at hp
  split at hp
  · subst hp
    simp only [ontoB, Option.some.injEq, Prod.mk.injEq] at hb
    obtain ⟨rfl, rfl⟩ := hb
    rfl
  · rename_i b0 n0 sz'
    simp only [ontoB, Option.some.injEq, Prod.mk.injEq] at hb
    obtain ⟨rfl, rfl⟩ := hb
    split at hp
    · rename_i h1
      split at hp
      · rename_i cs el h2
        split at hp
        · rename_i h3
          simp only [ontoS, h1, h2, h3, hp]
        · exact hp.elim
      · exact hp.elim
    · exact hp.elim
  · exact hp.elim
omit hT hm hv in
theorem fromP_spec {h : Heap} {sz : Nat} {x : SV} {new : List SV} {k : Nat} (hp : fromP h sz x new) (hk : fromB x = some k) : fromS h sz x = some (new, k) := by
  unfold fromP at hp
  split at hp
  · simp only [fromB, Option.some.injEq] at hk
    subst hk
    split at hp
    · rename_i cs hcs
      simp only [fromS, hcs, hp]
    · exact hp.elim
  · exact hp.elim
omit hT hm hv in
theorem append2_cases {r i sz bytes : Nat} {e : TypeId} {s x : SV} {m m' : Me} {sv : SV} (h : eAppend2 r i sz bytes e s x m = some (sv, m')) :
    ∃ old n b new k mm, mm.h = m.h ∧ mm.nx = m.nx ∧ (AllP mm.vc → AllP m.vc ∧ ontoS m.h sz e s = some (old, n, b) ∧ fromS m.h sz x = some (new, k)) ∧ 0 < sz ∧ appended r i sz bytes e old new n k b mm = some (sv, m') := by
  unfold eAppend2 at h
  split at h
  · split at h
    · rename_i hb
      split at h
      · rename_i hk
        split at h
        · rename_i hpos
          exact ⟨_, _, _, _, _, _, Me.need_h _ _ _, Me.need_nx _ _ _, fun hq => by rw [Me.need_vc] at hq; exact ⟨hq.2, ontoP_spec hq.1.1 hb, fromP_spec hq.1.2 hk⟩, by simpa using hpos, h⟩
        · cases h
      · cases h
    · cases h
  · split at h
    · rename_i old n b hon
      split at h
      · rename_i new k hfr
        split at h
        · rename_i hpos
          exact ⟨_, _, _, _, _, _, rfl, rfl, fun hq => ⟨hq, hon, hfr⟩, by simpa using hpos, h⟩
        · cases h
      · cases h
    · cases h
theorem append_sound {r i : Nat} {c : Call} (ho : o.op = .call c) (hc : c.callee = .builtin .append) (hs : eAppend T r i c.argTypes.toList (c.args.toList.map ρ) m = some (sv, m')) :
    AllP m'.vc → Steps1 P g w0 F o ρ' w m' sv ∧ AllP m.vc := by
  intro hvc
  unfold eAppend at hs
  split at hs
  · rename_i t t' hts
    split at hs
    · rename_i htt
      rw [nbeq] at htt
      have htt' : t = t' := by simpa using htt
      subst htt'
      split at hs
      · rename_i s x hargs
        obtain ⟨a1, a2, hca, ha1, ha2⟩ : ∃ a1 a2, c.args = #[a1, a2] ∧ ρ a1 = s ∧ ρ a2 = x := by
          simp only [List.map_eq_cons_iff, List.map_eq_nil_iff] at hargs
          obtain ⟨a1, l, h3, h4, a2, l2, h5, h6, h7⟩ := hargs
          subst h7 h5
          exact ⟨a1, a2, by rw [← Array.toList_inj, h3], h4, h6⟩
        have hct : c.argTypes = #[t, t] := by rw [← Array.toList_inj, hts]
        have hr1 := hv a1 (by simp [ho, Op.operands, Call.operands, hca])
        have hr2 := hv a2 (by simp [ho, Op.operands, Call.operands, hca])
        rw [ha1] at hr1
        rw [ha2] at hr2
        have hexec : ∀ v w', (Builtin.append_ #[t, t] o.type #[ρ' a1, ρ' a2]).run P w = .ok v w' → (execOp ρ' o).run P w = .ok (.value v) w' := by
          intro v w' h
          simp [execOp, ho, resolve, hc, hca, hct, invoke, builtin, h]
        unfold eAppend0 at hs
        split at hs
        · rename_i hne
          unfold eAppend1 at hs
          split at hs
          · rename_i e he
            have hu := sliceOf_ok hT he
            split at hs
            · rename_i ti hi
              obtain ⟨inf, z, hp, hsz, hby, hz, hzc, hone, hzl⟩ := ty_ok hT hi
              obtain ⟨old, n, b, new, k, mm, hmh, hmn, hmo, hpos', hs⟩ := append2_cases hs
              unfold appended at hs
              split at hs
              · rename_i m1 hck
                obtain ⟨c1, c2, c3⟩ := check_spec hck
                split at hs
                rename_i cs m2 hrc
                obtain ⟨d1, d2, d3⟩ := recell_spec hrc
                simp only [Option.some.injEq, Prod.mk.injEq] at hs
                obtain ⟨rfl, rfl⟩ := hs
                rw [Me.new_vc] at hvc
                have hdv : (delRow b m2).vc = m2.vc := by cases b <;> simp [delRow, Me.del_vc]
                rw [hdv] at hvc
                obtain ⟨hcs, hv1⟩ := d1 hvc
                obtain ⟨hcb, hv0'⟩ := c1 hv1
                obtain ⟨hv0, hon, hfr⟩ := hmo hv0'
                subst hcs
                simp only [Bool.and_eq_true, Nat.ble_eq] at hcb
                obtain ⟨hb1, hb2⟩ := hcb
                have hm2 : MRel g w0 F m2 w := hm.same (by rw [d2, c2, hmh]) (by rw [d3, c3, hmn])
                have hhe : m2.h = m.h := by rw [d2, c2, hmh]
                obtain ⟨xs, hown, hxs, hx1, hrow, rr, kk, vt, hre, hrt⟩ := onto_spec hm hon hr1
                have hnx : m2.nx = m.nx := by rw [d3, c3, hmn]
                by_cases hk0 : k = 0
                · -- nothing is appended: the row is told anew
                  subst hk0
                  obtain ⟨a, cc, hxe⟩ := from_zero hfr hr2
                  have hnew : new = [] := from_nil hfr
                  subst hnew
                  obtain ⟨base, len, cap, hval, hlc⟩ : ∃ base len cap, ρ' a1 = .slice base len cap ∧ len ≤ cap := by
                    rcases hown.2 with ⟨hv, _⟩ | ⟨gg, cap, cur, hv, _, _, hle, _⟩
                    · exact ⟨none, 0, 0, hv, Nat.le_refl _⟩
                    · exact ⟨_, _, _, hv, hle⟩
                  have hext := g.new_ext (by rw [hm.n]; exact hm.even) rr kk vt
                  obtain ⟨e1, e2⟩ := hre (g.new rr kk vt) hext (upd_eq _ _ _) (upd_eq _ _ _) (upd_eq _ _ _) (if_pos rfl) (by simp [Gh.new, Gh.has])
                  refine ⟨⟨ρ' a1, w, .inl (hexec _ _ (by rw [hval, hxe]; exact run_append_none w t o.type e _ hu ⟨inf, hp, rfl⟩ base len cap a cc hlc)), g.new rr kk vt, hext, ?_, ?_⟩, hv0⟩
                  · rw [List.append_nil]
                    refine hm2.newAny b none ⟨rfl, rfl, rfl, Nat.le_refl _, fun _ _ _ => rfl⟩ rr kk vt (by simp) _ (fun ht => .inr ?_) e2
                    have : vt = false := by
                      have h : (g.new rr kk vt).v g.n = false := ht
                      rw [show (g.new rr kk vt).v g.n = vt from if_pos rfl] at h
                      exact h
                    obtain ⟨b', o', h1, h2, h3⟩ := hrt this
                    exact ⟨b', o', h1, by rw [hhe]; exact h2, h3⟩
                  · rw [Nat.add_zero, hnx, ← hm.n]; exact e1
                have hk' : 0 < k := by omega
                obtain ⟨ad, cc, news, hval, hnl, hnews, hn1, hnr⟩ := from_spec hm hfr hr2 hk'
                have hzs : z.cells.size = ti.size := by rw [← Array.length_toList, hzc, hzl]
                obtain ⟨gg, cap, w', hrun, hown', hgrow, hat, hlt⟩ := run_append_lies (P := P) w t o.type 0 e inf z ti.size ti.bytes hu hp hz hsz hby hzs hpos' (ρ' a1) n xs hown ad k cc news hnl hnews hn1 hk' (by unfold maxLen; omega) hb1 (Nat.zero_le _) _ rfl
                rw [← hval] at hrun
                rcases hown'.2 with ⟨h, _⟩ | ⟨g', cap', cur, hv', _, hg', hncap, hcapm, hcsz, htake⟩
                · simp at h
                simp only [Value.slice.injEq, Option.some.injEq, Addr.mk.injEq, and_true, true_and] at hv'
                obtain ⟨rfl, rfl⟩ := hv'
                have hall : VRs g (old ++ new) (xs ++ news) := hxs.append hnr
                have hnear : Near w w' (ρ' a1).ownBlock := ⟨hgrow.os, hgrow.tape, hgrow.output, hgrow.size, hgrow.block⟩
                have hmr := hm2.newRow b (ρ' a1).ownBlock hnear gg (fun q hq => by
                    rcases hrow with h1 | ⟨b', o', hb', ho', hwr', hob⟩
                    · rw [h1] at hq; cases hq
                    · refine ⟨b', o', hb', by rw [hhe]; exact ho', hwr', ?_⟩
                      rw [hob] at hq; cases hq; rfl) (by
                    rcases hat with h | h
                    · exact .inr h
                    · exact .inl (Nat.le_of_eq h.symm)) cur e hg' (old ++ new) (fun j sv hj => by
                      obtain ⟨u, h1, h2⟩ := hall.get hj
                      refine ⟨u, ?_, h2, ?_⟩
                      · rw [← htake] at h1
                        rw [List.getElem?_take] at h1
                        split at h1
                        · simpa using h1
                        · cases h1
                      · rcases List.mem_append.1 (List.mem_of_getElem? h1) with h | h
                        · exact hx1 u h
                        · exact hn1 u h)
                refine ⟨⟨_, w', .inl (hexec _ _ hrun), _, g.new_ext (by rw [hm.n]; exact hm.even) _ _, hmr, ?_⟩, hv0⟩
                simp only [VR]
                rw [hnx, ← hm.n]
                refine ⟨by simp [Gh.new, Gh.has], .inl ⟨cap, ?_, hncap, rfl, upd_eq _ _ _, if_pos rfl, ?_, hcapm⟩⟩
                · simp only [Gh.new, upd_eq]
                · simp only [Gh.new, upd_eq]; exact hcsz.symm
              · cases hs
            · cases hs
          · cases hs
        · rename_i hne
          split at hs
          · rename_i e he
            have hu := sliceOf_ok hT he
            split at hs
            · rename_i ti hi
              obtain ⟨inf, z, hp, hsz, hby, hz, hzc, hone, hzl⟩ := ty_ok hT hi
              obtain ⟨cc, hxe⟩ : ∃ cc, ρ' a2 = .slice none 0 cc := by
                unfold isEmptyS at hne
                split at hne
                · simp only [VR] at hr2; exact ⟨_, hr2⟩
                · cases hne
              split at hs
              · simp only [Option.some.injEq, Prod.mk.injEq] at hs
                obtain ⟨rfl, rfl⟩ := hs
                obtain ⟨base, len, cap, hval, hlc⟩ : ∃ base len cap, ρ' a1 = .slice base len cap ∧ len ≤ cap := by
                  simp only [VR] at hr1
                  rcases hr1.2 with ⟨c', h, hl, _⟩ | ⟨h0, a, c', h, _⟩
                  · exact ⟨_, _, _, h, hl⟩
                  · exact ⟨a, 0, c', h, Nat.zero_le _⟩
                exact ⟨⟨ρ' a1, w, .inl (hexec _ _ (by rw [hval, hxe]; exact run_append_none w t o.type e _ hu ⟨inf, hp, rfl⟩ base len cap none cc hlc)), Turns.same hm hr1⟩, hvc⟩
              · simp only [Option.some.injEq, Prod.mk.injEq] at hs
                obtain ⟨rfl, rfl⟩ := hs
                have hval : ρ' a1 = .slice none 0 0 := by simpa only [VR] using hr1
                exact ⟨⟨ρ' a1, w, .inl (hexec _ _ (by rw [hval, hxe]; exact run_append_none w t o.type e _ hu ⟨inf, hp, rfl⟩ none 0 0 none cc (Nat.le_refl _))), Turns.same hm hr1⟩, hvc⟩
              · cases hs
            · cases hs
          · cases hs
      · cases hs
    · split at hs
      · rename_i hst
        split at hs
        · rename_i s x hargs
          obtain ⟨a1, a2, hca, ha1, ha2⟩ : ∃ a1 a2, c.args = #[a1, a2] ∧ ρ a1 = s ∧ ρ a2 = x := by
            simp only [List.map_eq_cons_iff, List.map_eq_nil_iff] at hargs
            obtain ⟨a1, l, h3, h4, a2, l2, h5, h6, h7⟩ := hargs
            subst h7 h5
            exact ⟨a1, a2, by rw [← Array.toList_inj, h3], h4, h6⟩
          rw [← ha1, ← ha2] at hs
          exact appendStr_sound hT hm hv ho hc hca (by rw [← Array.toList_inj, hts]) hst hs hvc
        · cases hs
      · cases hs
  · cases hs
end

end
end Go.Sx
