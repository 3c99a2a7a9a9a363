/- The abstract evaluator: operations that turn memory, one by one. -/
import Derived.Test.YtjmcholbjjgelaaDoorSxEff
import Derived.Laws.MakeOwn
import Derived.Deep.AppendLies
import Derived.Lib.AppendStr
namespace Go.Sx
noncomputable section
set_option linter.unusedVariables false
open Go.RowKit

theorem oneV_eq (v : Value) (h : oneV v = true) : v.oneCell' = true := by cases v <;> simp_all [oneV, Value.oneCell']
theorem oneS_spec {g : Gh} {x : SV} {v : Value} (h : oneS x = true) (hr : VR g x v) : v.oneCell' = true := by
  cases x <;> simp only [oneS, Bool.false_eq_true] at h <;> simp only [VR] at hr
  · subst hr; exact oneV_eq _ h
  · rw [hr.2]; rfl
  · rcases hr.2 with ⟨c, h, _⟩ | ⟨_, a, c, h, _⟩ <;> rw [h] <;> rfl
  · obtain ⟨a, h, _⟩ := hr; rw [h]; rfl
  · rw [hr.2]; rfl
  · rw [hr.2]; rfl
  · obtain ⟨_, p, h, _⟩ := hr; rw [h]; rfl
  · obtain ⟨a, h, _⟩ := hr; rw [h]; rfl
theorem allOne_spec : ∀ {l : List SV}, allOne l = true → ∀ x ∈ l, oneS x = true
  | [], _, x, hx => by cases hx
  | y :: r, h, x, hx => by
    simp only [allOne] at h
    split at h
    · rename_i hy
      rcases List.mem_cons.1 hx with rfl | hx
      · exact hy
      · exact allOne_spec h x hx
    · cases h
theorem cells_of_one (v : Value) (h : v.oneCell' = true) : v.cells = #[v] := by cases v <;> first | rfl | (simp [Value.oneCell'] at h)
theorem cellsS_spec {g : Gh} {x : SV} {v : Value} {cs : List SV} (h : cellsS x = some cs) (hr : VR g x v) :
    VRs g cs v.cells.toList ∧ ∀ u ∈ v.cells.toList, u.oneCell' = true := by
  unfold cellsS at h
  split at h
  · rename_i ha
    simp only [Option.some.injEq] at h
    subst h
    have hall := allOne_spec ha
    have key : VRs g (flatS x) v.cells.toList := by
      cases x
      case pl u => simp only [VR] at hr; subst hr; simp only [flatS, plCells]; exact VRs.pls _
      case agg cs => simp only [VR] at hr; obtain ⟨a, rfl, h2⟩ := hr; exact h2
      all_goals
        have h1 := oneS_spec (hall _ (by simp [flatS])) hr
        rw [cells_of_one v h1]
        simp only [flatS, VRs]
        exact ⟨v, [], rfl, hr, rfl⟩
    refine ⟨key, fun u hu => ?_⟩
    obtain ⟨i, hi, rfl⟩ := List.mem_iff_getElem.1 hu
    have hlen := key.length
    have hi' : i < (flatS x).length := by omega
    obtain ⟨u', h1, h2⟩ := key.get (i := i) (List.getElem?_eq_getElem hi')
    rw [List.getElem?_eq_getElem hi] at h1
    cases h1
    exact oneS_spec (hall _ (List.getElem_mem hi')) h2
  · cases h

/-! ### hints -/
theorem check_spec {r i : Nat} {c : Bool} {m m' : Me} (h : check r i c m = some m') : (AllP m'.vc → c = true ∧ AllP m.vc) ∧ m'.h = m.h ∧ m'.nx = m.nx := by
  unfold check at h
  split at h
  · simp only [Option.some.injEq] at h
    subst h
    exact ⟨fun hp => by rw [Me.need_vc] at hp; exact hp, Me.need_h _ _ _, Me.need_nx _ _ _⟩
  · split at h
    · rename_i hc
      simp only [Option.some.injEq] at h
      subst h
      exact ⟨fun hp => ⟨rfl, hp⟩, rfl, rfl⟩
    · cases h
theorem recell_spec {r i : Nat} {cs cs' : List SV} {m m' : Me} (h : recell r i cs m = (cs', m')) : (AllP m'.vc → cs = cs' ∧ AllP m.vc) ∧ m'.h = m.h ∧ m'.nx = m.nx := by
  unfold recell at h
  split at h
  · simp only [Prod.mk.injEq] at h
    obtain ⟨rfl, rfl⟩ := h
    exact ⟨fun hp => by rw [Me.need_vc] at hp; exact hp, Me.need_h _ _ _, Me.need_nx _ _ _⟩
  · simp only [Prod.mk.injEq] at h
    obtain ⟨rfl, rfl⟩ := h
    exact ⟨fun hp => ⟨rfl, hp⟩, rfl, rfl⟩

theorem near_alloc (w : World) (o : Obj) : Near w (w.alloc o) none := ⟨rfl, rfl, rfl, by simp, fun k hk _ => Below.heap_alloc w o k hk⟩
theorem near_alloc_drew (w : World) (o : Obj) : Near w (w.drew.alloc o) none := ⟨rfl, rfl, rfl, by simp, fun k hk _ => Below.heap_alloc w.drew o k hk⟩

/-- A step of memory. -/
def Steps1 (P : Program) (g : Gh) (w0 : World) (F : Nat → Prop) (o : Oper) (ρ' : Operand → Value) (w : World) (m' : Me) (sv : SV) : Prop :=
  ∃ v w', ((execOp ρ' o).run P w = .ok (.value v) w' ∨ ((execOp ρ' o).run P w = .ok .skip w' ∧ v = undef)) ∧ Turns g w0 F m' sv v w'

section
variable {P : Program} {T : Tab} (hT : TabOk P T) {g : Gh} {w0 : World} {F : Nat → Prop} {m m' : Me} {w : World} (hm : MRel g w0 F m w) {ρ : Operand → SV} {ρ' : Operand → Value} {o : Oper} {sv : SV}
  (hv : ∀ x ∈ o.op.operands, VR g (ρ x) (ρ' x))
include hm

/-- a new block -/
theorem new_sound {cs : List SV} {vs : Array Value} {e : TypeId} (hcs : VRs g cs vs.toList) (h1 : ∀ u ∈ vs.toList, u.oneCell' = true) {len : Nat} :
    ∃ g', Ext g g' ∧ MRel g' w0 F (m.new (.cells cs true e)) (w.alloc (.cells vs e)) ∧ g'.σ m.nx = w.heap.size ∧ g'.ω m.nx = 0 ∧ g'.κ m.nx = vs.size ∧ g'.has m.nx ∧ g'.v m.nx = false := by
  have := hm.newRow none none (near_alloc w (.cells vs e)) w.heap.size (by simp) (.inl (Nat.le_refl _)) vs e (heap_alloc_new w _) cs (fun i sv hi => by
    obtain ⟨v, h2, h3⟩ := hcs.get hi
    exact ⟨v, by simpa using h2, h3, h1 v (List.mem_of_getElem? h2)⟩)
  refine ⟨_, g.new_ext (by rw [hm.n]; exact hm.even) _ _, this, ?_, ?_, ?_, by rw [← hm.n]; simp [Gh.new, Gh.has], by rw [← hm.n]; exact if_pos rfl⟩
  · rw [← hm.n]; exact upd_eq _ _ _
  · rw [← hm.n]; exact upd_eq _ _ _
  · rw [← hm.n]; exact upd_eq _ _ _

include hT in
theorem alloc_sound {t : TypeId} (ho : o.op = .alloc t) (hs : eAlloc T t m = some (sv, m')) : Steps1 P g w0 F o ρ' w m' sv ∧ m'.vc = m.vc := by
  unfold eAlloc zeroOf? at hs
  cases hi : T.ty.get t with
  | none => simp [hi] at hs
  | some ti =>
    simp only [hi, Option.some.injEq, Prod.mk.injEq] at hs
    obtain ⟨rfl, rfl⟩ := hs
    obtain ⟨inf, z, hp, _, _, hz, hzc, hone, _⟩ := ty_ok hT hi
    obtain ⟨g', he, hm', hσ, hω, hκ, hhas, hvt⟩ := new_sound (e := t) (cs := ti.zero.map .pl) (vs := z.cells) (len := 0) hm (by rw [hzc]; exact VRs.pls _) (fun u hu => oneV_eq u (List.all_eq_true.1 hone u (by rw [← hzc]; exact hu)))
    refine ⟨⟨.pointer (some ⟨w.heap.size, 0, none⟩), _, .inl ?_, g', he, hm', ?_⟩, Me.new_vc _ _⟩
    · simp [execOp, ho, Instr.alloc, zeroValue, typeInfo, hp, hz, newVar, newRow]
    · simp only [VR]; exact ⟨hhas, by rw [hσ, hω]⟩

include hv in
theorem box_sound {t : TypeId} {x : Operand} (ho : o.op = .box t x) (hs : eBox t (ρ x) m = some (sv, m')) : Steps1 P g w0 F o ρ' w m' sv ∧ m'.vc = m.vc := by
  have hx := hv x (by simp [ho, Op.operands])
  unfold eBox at hs
  split at hs
  · rename_i cs hc
    simp only [Option.some.injEq, Prod.mk.injEq] at hs
    obtain ⟨rfl, rfl⟩ := hs
    obtain ⟨h1, h2⟩ := cellsS_spec hc hx
    obtain ⟨g', he, hm', hσ, hω, hκ, hhas, hvt⟩ := new_sound (e := t) (cs := cs) (vs := (ρ' x).cells) (len := 0) hm h1 h2
    refine ⟨⟨.pointer (some ⟨w.heap.size, 0, none⟩), _, .inl ?_, g', he, hm', ?_⟩, Me.new_vc _ _⟩
    · simp [execOp, ho, Instr.box, newVar, newRow]
    · simp only [VR]; exact ⟨hhas, by rw [hσ, hω]⟩
  · cases hs
end


/-! ### rows that are made -/
theorem rep_length {α : Type} (z : List α) : ∀ n, (rep z n).length = n * z.length
  | 0 => by simp [rep]
  | n + 1 => by simp only [rep, List.length_append, rep_length z n, Nat.succ_mul]; omega
theorem rep_get {α : Type} (z : List α) : ∀ (n i : Nat), i < n * z.length → (rep z n)[i]? = z[i % z.length]?
  | 0, i, h => by simp at h
  | n + 1, i, h => by
    simp only [rep]
    by_cases hi : i < z.length
    · rw [List.getElem?_append_left hi, Nat.mod_eq_of_lt hi]
    · rw [List.getElem?_append_right (by omega), rep_get z n (i - z.length) (by rw [Nat.succ_mul] at h; omega)]
      rw [← Nat.mod_eq_sub_mod (by omega)]
theorem rep_map {α β : Type} (f : α → β) (z : List α) : ∀ n, rep (z.map f) n = (rep z n).map f
  | 0 => rfl
  | n + 1 => by simp [rep, rep_map f z n]
theorem made_eq (z : Array Value) (n sz : Nat) (hz : z.size = sz) : ((Array.range (n * sz)).map (z[· % z.size]!)).toList = rep z.toList n := by
  apply List.ext_getElem?
  intro i
  by_cases hi : i < n * sz
  · rw [rep_get _ _ _ (by simpa [hz] using hi)]
    have hpos : 0 < sz := by
      rcases Nat.eq_zero_or_pos sz with h | h
      · subst h; simp at hi
      · exact h
    have hlt : i % sz < z.size := by rw [hz]; exact Nat.mod_lt _ hpos
    simp only [Array.toList_map, List.getElem?_map, Array.toList_range, List.getElem?_range hi, Option.map_some, hz, Array.length_toList]
    rw [getElem!_pos z _ hlt]
    simp [hlt]
  · rw [List.getElem?_eq_none (by simpa using hi), List.getElem?_eq_none (by rw [rep_length]; simpa [hz] using hi)]

theorem splice_fold : ∀ (vs : List Value) (k off : Nat) (cs : Array Value), off + k + vs.length ≤ cs.size →
    ((vs.zipIdx k).foldl (fun cs (x : Value × Nat) => cs.setIfInBounds (off + x.2) x.1) cs).toList = cs.toList.take (off + k) ++ vs ++ cs.toList.drop (off + k + vs.length)
  | [], k, off, cs, h => by simp
  | v :: r, k, off, cs, h => by
    simp only [List.zipIdx_cons, List.foldl_cons]
    simp only [List.length_cons] at h
    rw [splice_fold r (k + 1) off _ (by simp; omega)]
    have hlt : off + k < cs.toList.length := by simp; omega
    simp only [Array.toList_setIfInBounds]
    have e1 : (cs.toList.set (off + k) v).take (off + (k + 1)) = cs.toList.take (off + k) ++ [v] := by
      rw [← Nat.add_assoc, List.take_succ_eq_append_getElem (by simpa using hlt)]
      simp [List.take_set_of_le]
    have e2 : (cs.toList.set (off + k) v).drop (off + (k + 1) + r.length) = cs.toList.drop (off + k + (r.length + 1)) := by
      rw [List.drop_set_of_lt (by omega)]
      congr 1
      omega
    rw [e1, e2]
    simp

theorem fill_run {g : Gh} {sz : Nat} : ∀ (ps : List (Nat × SV)) (vals : List (Nat × Value)) (l : List (Nat × List SV)) (cells : Array Value) (cs : List SV),
    ps.length = vals.length → (∀ (i : Nat) (p : Nat × SV) (q : Nat × Value), ps[i]? = some p → vals[i]? = some q → p.1 = q.1 ∧ VR g p.2 q.2) → partsS sz ps = some l → fitC sz cells.size l = true → VRs g cs cells.toList → (∀ u ∈ cells.toList, u.oneCell' = true) →
    ∃ cells', Instr.fill (fun i => some (i * sz, sz)) cells vals = some cells' ∧ VRs g (fillC cs l) cells'.toList ∧ (∀ u ∈ cells'.toList, u.oneCell' = true) ∧ cells'.size = cells.size
  | [], vals, l, cells, cs, hl, hr, hp, hf, hc, h1 => by
    cases vals with
    | nil => simp only [partsS, Option.some.injEq] at hp; subst hp; exact ⟨cells, rfl, hc, h1, rfl⟩
    | cons => simp at hl
  | (j, x) :: ps, vals, l, cells, cs, hl, hr, hp, hf, hc, h1 => by
    cases vals with
    | nil => simp at hl
    | cons q vals =>
      obtain ⟨j', v⟩ := q
      obtain ⟨hj, hx⟩ := hr 0 (j, x) (j', v) (by simp) (by simp)
      simp only at hj hx
      subst hj
      simp only [partsS] at hp
      split at hp
      · rename_i vs hvs
        split at hp
        · rename_i l' hl'
          simp only [Option.some.injEq] at hp
          subst hp
          simp only [fitC] at hf
          split at hf
          · rename_i hfit
            obtain ⟨k1, k2⟩ := cellsS_spec hvs hx
            simp only [Bool.and_eq_true, nbeq, beq_iff_eq, Nat.ble_eq] at hfit
            have hvl : v.cells.size = sz := by have := k1.length; simp at this; omega
            have hoff : j * sz + v.cells.size ≤ cells.size := by omega
            have hs := splice_fold v.cells.toList 0 (j * sz) cells (by simpa using hoff)
            have hzip : (v.cells.zipIdx.foldl (fun cs (c, j') => cs.setIfInBounds (j * sz + j') c) cells) = ((v.cells.toList.zipIdx 0).foldl (fun cs (x : Value × Nat) => cs.setIfInBounds (j * sz + x.2) x.1) cells) := by
              rw [← Array.foldl_toList]
              simp
            have hnew : VRs g (cs.take (j * sz) ++ vs ++ cs.drop (j * sz + vs.length)) (v.cells.zipIdx.foldl (fun cs (c, j') => cs.setIfInBounds (j * sz + j') c) cells).toList := by
              rw [hzip, hs]
              have : vs.length = v.cells.toList.length := k1.length.symm
              rw [this]
              exact ((hc.take _).append k1).append (hc.drop _)
            have hone : ∀ u ∈ (v.cells.zipIdx.foldl (fun cs (c, j') => cs.setIfInBounds (j * sz + j') c) cells).toList, u.oneCell' = true := by
              rw [hzip, hs]
              intro u hu
              simp only [List.mem_append] at hu
              rcases hu with (hu | hu) | hu
              · exact h1 u (List.mem_of_mem_take hu)
              · exact k2 u hu
              · exact h1 u (List.mem_of_mem_drop hu)
            have hsize : (v.cells.zipIdx.foldl (fun cs (c, j') => cs.setIfInBounds (j * sz + j') c) cells).size = cells.size := by
              rw [← Array.length_toList, hzip, hs]
              simp
              omega
            obtain ⟨cells', r1, r2, r3, r4⟩ := fill_run ps vals l' _ _ (by simpa using hl) (fun i p q h2 h3 => hr (i + 1) p q (by simpa using h2) (by simpa using h3)) hl' (by rw [hsize]; exact hf) hnew hone
            refine ⟨cells', ?_, r2, r3, by rw [r4, hsize]⟩
            simp only [Instr.fill]
            rw [if_neg (by simp [hvl]; omega)]
            exact r1
          · cases hf
        · cases hp
      · cases hp


theorem run_makeSlice_any {P : Program} (w : World) (t e : TypeId) (i : TypeInfo) (z : Value) (ht : P.underlying t = some (.slice e)) (hi : P.info? e = some i) (hz : i.zero = some z)
    (kl kc : IntKind) (l c : Int) (h0 : 0 ≤ l) (hlc : l ≤ c) (hbytes : (i.bytes : Int) * c ≤ 281474976710656) (h63 : c ≤ 9223372036854775807) :
    (Instr.makeSlice t (.int kl l) (.int kc c)).run P w = .ok (.slice (some ⟨w.heap.size, 0, none⟩) l.toNat c.toNat) (w.alloc (.cells (madeCells z.cells (c.toNat * i.size)) e)) :=
  run_make w t e i z ht hi hz kl kc l c h0 hlc hbytes h63
section
variable {P : Program} {T : Tab} (hT : TabOk P T) {g : Gh} {w0 : World} {F : Nat → Prop} {m m' : Me} {w : World} (hm : MRel g w0 F m w) {ρ : Operand → SV} {ρ' : Operand → Value} {o : Oper} {sv : SV}
  (hv : ∀ x ∈ o.op.operands, VR g (ρ x) (ρ' x))
include hT hm hv

theorem buildSlice_sound {t : TypeId} {len : Nat} {parts : Array (Nat × Operand)} (ho : o.op = .buildSlice t len parts)
    (hs : eBuildSlice T t len (parts.toList.map fun p => (p.1, ρ p.2)) m = some (sv, m')) : Steps1 P g w0 F o ρ' w m' sv ∧ m'.vc = m.vc := by
  unfold eBuildSlice at hs
  split at hs
  · rename_i e he
    have hu := sliceOf_ok hT he
    unfold buildAt at hs
    split at hs
    · rename_i ti hi
      obtain ⟨inf, z, hp, hsz, hby, hz, hzc, hone, hzl⟩ := ty_ok hT hi
      split at hs
      · rename_i l hl
        split at hs
        · rename_i hck
          simp only [Bool.and_eq_true, Nat.ble_eq] at hck
          obtain ⟨⟨hc1, hc2⟩, hfit⟩ := hck
          simp only [Option.some.injEq, Prod.mk.injEq] at hs
          obtain ⟨rfl, rfl⟩ := hs
          have hzs : z.cells.size = ti.size := by rw [← Array.length_toList, hzc, hzl]
          obtain ⟨cells', r1, r2, r3, r4⟩ := fill_run (g := g) (sz := ti.size) (parts.toList.map fun p => (p.1, ρ p.2)) (parts.toList.map fun p => (p.1, ρ' p.2)) l
            ((Array.range (len * ti.size)).map (z.cells[· % z.cells.size]!)) (rep (ti.zero.map .pl) len) (by simp) (fun i p q h1 h2 => by
              simp only [List.getElem?_map] at h1 h2
              cases hpi : parts.toList[i]? with
              | none => simp [hpi] at h1
              | some pr =>
                simp only [hpi, Option.map_some, Option.some.injEq] at h1 h2
                subst h1 h2
                refine ⟨rfl, hv pr.2 ?_⟩
                simp only [ho, Op.operands]
                simp only [List.mem_toArray, List.mem_map]
                exact ⟨pr, List.mem_of_getElem? hpi, rfl⟩) hl (by simpa using hfit) (by rw [made_eq _ _ _ hzs, hzc, rep_map]; exact VRs.pls _)
            (fun u hu => by
              rw [made_eq _ _ _ hzs, hzc] at hu
              obtain ⟨i, hi', rfl⟩ := List.mem_iff_getElem.1 hu
              have hlt : i < len * ti.zero.length := by rw [rep_length] at hi'; exact hi'
              have hh := rep_get ti.zero len i hlt
              rw [List.getElem?_eq_getElem hi'] at hh
              exact oneV_eq _ (List.all_eq_true.1 hone _ (List.mem_of_getElem? hh.symm)))
          obtain ⟨g', he', hm', hσ, hω, hκ, hhas, hvt⟩ := new_sound (e := e) (vs := cells') (len := 0) hm r2 r3
          refine ⟨⟨.slice (some ⟨w.heap.size, 0, none⟩) len len, _, .inl ?_, g', he', hm', ?_⟩, Me.new_vc _ _⟩
          · have hno : ¬ (2 ^ 24 < len * ti.size) := by omega
            have hpa : (parts.map fun (i, x) => (i, ρ' x)).toList = parts.toList.map fun p => (p.1, ρ' p.2) := by simp
            by_cases h0 : len * ti.size = 0
            · rw [h0] at r1
              have r1' : Instr.fill (fun i => some (i * ti.size, ti.size)) #[] (parts.toList.map fun p => (p.1, ρ' p.2)) = some cells' := by simpa [Array.range_zero'] using r1
              simp [execOp, ho, Instr.buildSlice, run_underlying hu, sizeOf, typeInfo, hp, hsz, h0, Array.range_zero', r1', newRow]
            · simp [execOp, ho, Instr.buildSlice, run_underlying hu, sizeOf, typeInfo, hp, hsz, hno, h0, zeroValue, hz, r1, newRow]
          · simp only [VR]
            refine ⟨hhas, .inl ⟨len, by rw [hσ, hω], Nat.le_refl _, rfl, hω, hvt, ?_, ?_⟩⟩
            · rw [hκ, r4]; simp
            · unfold maxLen; omega
        · cases hs
      · cases hs
    · cases hs
  · cases hs

theorem makeSlice_sound {r i : Nat} {t : TypeId} {l c : Operand} (ho : o.op = .makeSlice t l c) (hs : eMakeSlice T r i t (intOf? (ρ l)) (intOf? (ρ c)) m = some (sv, m')) :
    AllP m'.vc → Steps1 P g w0 F o ρ' w m' sv ∧ AllP m.vc := by
  intro hvc
  unfold eMakeSlice at hs
  split at hs
  · rename_i n hn
    split at hs
    · rename_i k hk
      split at hs
      · rename_i hnk
        have hnk' : n = k := by rw [nbeq] at hnk; simpa using hnk
        subst hnk'
        split at hs
        · rename_i e he
          have hu := sliceOf_ok hT he
          unfold makeAt at hs
          split at hs
          · rename_i ti hi
            obtain ⟨inf, z, hp, hsz, hby, hz, hzc, hone, hzl⟩ := ty_ok hT hi
            split at hs
            · rename_i m1 hck
              obtain ⟨c1, c2, c3⟩ := check_spec hck
              split at hs
              rename_i cs m2 hrc
              obtain ⟨d1, d2, d3⟩ := recell_spec hrc
              simp only [Option.some.injEq, Prod.mk.injEq] at hs
              obtain ⟨rfl, rfl⟩ := hs
              rw [Me.new_vc] at hvc
              obtain ⟨hcs, hv1⟩ := d1 hvc
              obtain ⟨hc, hv0⟩ := c1 hv1
              subst hcs
              simp only [Bool.and_eq_true, Nat.ble_eq] at hc
              have hc2 : n < 9223372036854775808 := by simpa using hc.2
              have hm2 : MRel g w0 F m2 w := hm.same (by rw [d2, c2]) (by rw [d3, c3])
              have hzs : z.cells.size = ti.size := by rw [← Array.length_toList, hzc, hzl]
              obtain ⟨kl, hkl⟩ := intOf_spec hn (hv l (by simp [ho, Op.operands]))
              obtain ⟨kc, hkc⟩ := intOf_spec hk (hv c (by simp [ho, Op.operands]))
              have hbb : (inf.bytes : Int) * (n : Int) ≤ 281474976710656 := by
                rw [hby]
                have h1 := hc.1
                have h2 : ((n * ti.bytes : Nat) : Int) ≤ 140737488355328 := by omega
                rw [Int.natCast_mul, Int.mul_comm] at h2
                omega
              have hrun := run_makeSlice_any (P := P) w t e inf z hu hp hz kl kc (n : Int) (n : Int) (by omega) (Int.le_refl _) hbb (by omega)
              have hcells : (madeCells z.cells ((n : Int).toNat * inf.size)).toList = rep ti.zero n := by
                rw [hsz]
                have := made_eq z.cells n ti.size hzs
                rw [hzc] at this
                exact this
              obtain ⟨g', he', hm', hσ, hω, hκ, hhas, hvt⟩ := new_sound (e := e) (cs := rep (ti.zero.map .pl) n) (vs := madeCells z.cells ((n : Int).toNat * inf.size)) (len := 0) hm2 (by rw [hcells, rep_map]; exact VRs.pls _)
                (fun u hu' => by
                  rw [hcells] at hu'
                  obtain ⟨j, hj, rfl⟩ := List.mem_iff_getElem.1 hu'
                  have hlt : j < n * ti.zero.length := by rw [rep_length] at hj; exact hj
                  have hh := rep_get ti.zero n j hlt
                  rw [List.getElem?_eq_getElem hj] at hh
                  exact oneV_eq _ (List.all_eq_true.1 hone _ (List.mem_of_getElem? hh.symm)))
              refine ⟨⟨.slice (some ⟨w.heap.size, 0, none⟩) n n, _, .inl ?_, g', he', hm', ?_⟩, hv0⟩
              · simp only [execOp, ho, hkl, hkc]
                rw [Sem.run_bind]
                have hrun' : (Instr.makeSlice t (.int kl (Int.ofNat n)) (.int kc (Int.ofNat n))).run P w = _ := hrun
                rw [hrun']
                rfl
              · simp only [VR]
                refine ⟨hhas, .inl ⟨n, by rw [hσ, hω], Nat.le_refl _, rfl, hω, hvt, ?_, ?_⟩⟩
                · rw [hκ, ← Array.length_toList, hcells, rep_length, hzl]
                · unfold maxLen; omega
            · cases hs
          · cases hs
        · cases hs
      · cases hs
    · cases hs
  · cases hs
theorem makeSliceH_sound {r i : Nat} {t : TypeId} {l c : Operand} (ho : o.op = .makeSlice t l c) (hs : eMakeSliceH T r i t (intOf? (ρ l)) (intOf? (ρ c)) m = some (sv, m')) :
    AllP m'.vc → Steps1 P g w0 F o ρ' w m' sv ∧ AllP m.vc := by
  intro hvc
  unfold eMakeSliceH at hs
  split at hs
  · rename_i n rest hh
    split at hs
    · rename_i e he
      have hmm : MRel g w0 F (m.need rest (intOf? (ρ l) = some (.ofNat n) ∧ intOf? (ρ c) = some (.ofNat n))) w := hm.same (Me.need_h _ _ _) (Me.need_nx _ _ _)
      have hq : AllP (m.need rest (intOf? (ρ l) = some (.ofNat n) ∧ intOf? (ρ c) = some (.ofNat n))).vc := by
        unfold makeAt at hs
        split at hs
        · split at hs
          · rename_i m1 hck
            obtain ⟨c1, _, _⟩ := check_spec hck
            split at hs
            rename_i cs m2 hrc
            obtain ⟨d1, _, _⟩ := recell_spec hrc
            simp only [Option.some.injEq, Prod.mk.injEq] at hs
            obtain ⟨_, rfl⟩ := hs
            rw [Me.new_vc] at hvc
            exact (c1 (d1 hvc).2).2
          · cases hs
        · cases hs
      have hq' := hq
      rw [Me.need_vc] at hq'
      obtain ⟨⟨h1, h2⟩, h3⟩ := hq'
      have hs2 : eMakeSlice T r i t (intOf? (ρ l)) (intOf? (ρ c)) (m.need rest (intOf? (ρ l) = some (.ofNat n) ∧ intOf? (ρ c) = some (.ofNat n))) = some (sv, m') := by
        clear hq hmm
        revert hs
        generalize m.need rest (intOf? (ρ l) = some (.ofNat n) ∧ intOf? (ρ c) = some (.ofNat n)) = mm
        intro hs
        unfold eMakeSlice
        rw [h1, h2]
        simp only
        rw [show Nat.beq n n = true by rw [nbeq]; simp, he]
        exact hs
      exact ⟨(makeSlice_sound hT hmm hv ho hs2 hvc).1, h3⟩
    · cases hs
  · exact makeSlice_sound hT hm hv ho hs hvc
end

end
end Go.Sx
