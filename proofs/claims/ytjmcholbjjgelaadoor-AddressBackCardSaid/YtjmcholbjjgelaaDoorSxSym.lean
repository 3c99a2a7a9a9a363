/- The abstract evaluator: rows and texts that are told by lists; laws for what runs owe. -/
import Derived.Test.YtjmcholbjjgelaaDoorSxNorm
namespace Go.Sx
noncomputable section
set_option linter.unusedVariables false

/-- a row's element -/
def bytesS.at (l : List UInt8) (k : Nat) : SV := .pl (.int .u8 (l.getD k 0).toNat)
def intsS (l : List Int) : List SV := l.map fun x => .pl (.int .i64 x)
def intsS.at (l : List Int) (k : Nat) : SV := .pl (.int .i64 (l.getD k 0))
def tabCells.at (k : IntKind) (zs : List Int) (i : Nat) : SV := .pl (.int k (zs.getD i 0))
def bs (l : List UInt8) : ByteArray := ⟨l.toArray⟩
def strsS (l : List (List UInt8)) : List SV := l.map fun x => .pl (.string (bs x))
def strsS.at (l : List (List UInt8)) (k : Nat) : SV := .pl (.string (bs (l.getD k [])))
/-- a bit of bytes, the highest of a byte first -/
def bitN (m : List UInt8) (k : Nat) : Nat := (m.getD (k / 8) 0).toNat / 2 ^ (7 - k % 8) % 2
def btAt (s : ByteArray) (k : Nat) : Int := (s.data.toList.getD k 0).toNat

/-! ### comparisons -/
theorem ltF_t (a b : Int) : (ltF a b = true) = (a < b) := by rw [ltF_eq]; simp
theorem ltF_f (a b : Int) : (ltF a b = false) = (b ≤ a) := by rw [ltF_eq]; simp
theorem leF_t (a b : Int) : (leF a b = true) = (a ≤ b) := by rw [leF_eq]; simp
theorem leF_f (a b : Int) : (leF a b = false) = (b < a) := by rw [leF_eq]; simp
theorem eqF_t (a b : Int) : (eqF a b = true) = (a = b) := by rw [eqF_eq]; simp
theorem eqF_f (a b : Int) : (eqF a b = false) = (a ≠ b) := by rw [eqF_eq]; simp
theorem neF_t (a b : Int) : ((!eqF a b) = true) = (a ≠ b) := by rw [eqF_eq]; simp
theorem neF_f (a b : Int) : ((!eqF a b) = false) = (a = b) := by rw [eqF_eq]; simp
theorem wrap64_id (x : Int) : (wrap64F x = x) = (-9223372036854775808 ≤ x ∧ x ≤ 9223372036854775807) := by
  rw [eq_iff_iff]
  constructor
  · intro h
    rw [← h, wrap64F_eq]
    simp only [IntKind.wrap, IntKind.bits, IntKind.signed]
    first | omega | (simp; omega)
  · rintro ⟨h1, h2⟩
    unfold wrap64F
    split
    · rename_i n
      split
      · rfl
      · rename_i h
        have h3 : ¬ n < 9223372036854775808 := fun hh => by
          have : Nat.blt n 9223372036854775808 = true := by simpa using hh
          rw [this] at h; cases h
        simp only [Int.ofNat_eq_natCast] at h2
        omega
    · rename_i n
      split
      · rfl
      · rename_i h
        have h3 : ¬ n < 9223372036854775808 := fun hh => by
          have : Nat.blt n 9223372036854775808 = true := by simpa using hh
          rw [this] at h; cases h
        omega
theorem wrap_i64 (x : Int) : (IntKind.wrap .i64 x = x) = (-9223372036854775808 ≤ x ∧ x ≤ 9223372036854775807) := by rw [← wrap64F_eq]; exact wrap64_id x
/-! ### elements -/
theorem elem_g {T : Tab} {e : TypeId} {sz b off len o : Nat} {i : Int} (hs : sizeOf? T e = some sz) (h0 : 0 ≤ i) (hk : i < len) (ho : off + i.toNat * sz = o) : elemAt T e b off len (some i) = some (.ptr b o) := by
  obtain ⟨k, rfl⟩ := Int.eq_ofNat_of_zero_le h0
  subst ho
  have h : idx? (k : Int) len = some k := by
    show (match Nat.blt k len with | true => some k | false => none) = some k
    have : Nat.blt k len = true := by rw [Nat.blt_eq]; omega
    rw [this]
  simp only [elemAt, h, hs, Int.toNat_natCast]
theorem part_one {T : Tab} {t : TypeId} {cs : List SV} {k : Nat} (h : isAgg? T t = some false) : partS T t cs k = cs[k]? := by
  rw [← listAt_eq]
  unfold partS
  rw [h]
theorem getD_get {α : Type} {l : List α} {k : Nat} {d : α} (h : k < l.length) : l[k]? = some (l.getD k d) := by
  rw [List.getD_eq_getElem?_getD, List.getElem?_eq_getElem h]; rfl
theorem part_ints {T : Tab} {t : TypeId} {l : List Int} {k : Nat} (h : isAgg? T t = some false) (hk : k < l.length) : partS T t (intsS l) k = some (.pl (.int .i64 (l.getD k 0))) := by
  rw [part_one h, intsS, List.getElem?_map, getD_get (d := 0) hk]; rfl
theorem part_bytes {T : Tab} {t : TypeId} {l : List UInt8} {k : Nat} (h : isAgg? T t = some false) (hk : k < l.length) : partS T t (bytesS l) k = some (.pl (.int .u8 (l.getD k 0).toNat)) := by
  rw [part_one h, bytesS, List.getElem?_map, getD_get (d := 0) hk]; rfl
theorem part_strs {T : Tab} {t : TypeId} {l : List (List UInt8)} {k : Nat} (h : isAgg? T t = some false) (hk : k < l.length) : partS T t (strsS l) k = some (.pl (.string (bs (l.getD k [])))) := by
  rw [part_one h, strsS, List.getElem?_map, getD_get (d := []) hk]; rfl
/-- a call that looks at no block: at any number -/
theorem plain_call {P : Program} {f : FuncId} {args : List Value} {v : Value} (h : CallE P f (args.map .pl) [] 128 (.pl v) [] 128) (nx : Nat) (h1 : Nat.ble 128 nx = true) (h2 : Nat.beq (nx % 2) 0 = true) : CallT P f (args.map .pl) [] nx (.pl v) [] nx := by
  have hk : rnOk [] nx = true := by simp [rnOk, h1, h2, noDup]
  have := CallE.ren h (R := rnOf [] nx) (nx := nx) ⟨rnOf_ok hk (fun b hb => (by cases hb)), (by simpa using h2), fun x hx => (by cases hx), fun x hx => (by cases hx), fun x hx => (by cases hx), rfl⟩
  rw [SV.renL_pls] at this
  exact this
/-! ### as it stands, at the numbers it was shown at -/
mutual
theorem SV.ren_id : ∀ (x : SV), x.ren (fun b => b) = x
  | .pl v => rfl
  | .ptr b off => rfl
  | .sl b off len own => rfl
  | .agg cs => by simp only [SV.ren, SV.renL_id cs]
  | .tup cs => by simp only [SV.ren, SV.renL_id cs]
  | .fn f cs => by simp only [SV.ren, SV.renL_id cs]
  | .bm f cs => by simp only [SV.ren, SV.renL_id cs]
  | .any => rfl
  | .yld b => rfl
  | .mp b => rfl
  | .dat b off len => rfl
theorem SV.renL_id : ∀ (x : List SV), SV.renL (fun b => b) x = x
  | [] => rfl
  | x :: r => by simp only [SV.renL, SV.ren_id x, SV.renL_id r]
end
theorem AObj.ren_id (o : AObj) : o.ren (fun b => b) = o := by cases o <;> simp only [AObj.ren, SV.renL_id]
theorem map_id' {α : Type} {f : α → α} (h : ∀ x, f x = x) (l : List α) : l.map f = l := by
  induction l with
  | nil => rfl
  | cons x r ih => rw [List.map_cons, h x, ih]
theorem renB_id (x : Nat × AObj) : renB (fun b => b) x = x := by simp only [renB, AObj.ren_id]
theorem renSl_id (x : Nat × SV) : renSl (fun b => b) x = x := by simp only [renSl, SV.ren_id]
theorem renU_id (x : Nat × Option AObj) : renU (fun b => b) x = x := by
  obtain ⟨b, o⟩ := x
  cases o <;> simp [renU, AObj.ren_id]
/-- keys below, nothing but flat blocks, changes at these keys or at new ones -/
def hereOk (bl : List (Nat × AObj)) (N : Nat) (ups : List (Nat × Option AObj)) (N' : Nat) : Bool :=
  Nat.beq (N % 2) 0 && Nat.ble 128 N && Nat.ble N N' && bl.all (fun x => Nat.blt x.1 N && (match x.2 with | .lrec _ _ _ _ _ _ _ => false | _ => true)) &&
    ups.all (fun x => ((bl.map Prod.fst).contains x.1 || Nat.ble N x.1) && (match x.2 with | some (.lrec _ _ _ _ _ _ _) => false | _ => true)) && wrAll ups
theorem hereOk_spec {bl : List (Nat × AObj)} {N : Nat} {ups : List (Nat × Option AObj)} {N' : Nat} (h : hereOk bl N ups N' = true) : RTold (fun b => b) bl N N ups N' ∧ N ≤ N' := by
  simp only [hereOk, Bool.and_eq_true, List.all_eq_true, Nat.ble_eq, nbeq, beq_iff_eq, Nat.blt_eq, Bool.or_eq_true, List.contains_iff_mem] at h
  obtain ⟨⟨⟨⟨⟨h1, h2⟩, h3⟩, h4⟩, h5⟩, h6⟩ := h
  refine ⟨⟨⟨h1, fun _ _ => rfl, fun _ => rfl, fun _ hb => hb, fun _ _ _ _ e => e, fun b hb => ?_⟩, h1, fun x hx => ?_, fun x hx => (h5 x hx).1, fun x hx o ho => ?_, h6⟩, h3⟩
  · obtain ⟨x, hx, rfl⟩ := List.mem_map.1 hb
    exact (h4 x hx).1
  · have := (h4 x hx).2
    obtain ⟨b, o⟩ := x
    cases o <;> simp_all [AObj.flat]
  · have := (h5 x hx).2
    rw [ho] at this
    cases o <;> simp_all [AObj.flat]
theorem LoopE.here {P : Program} {c : Code} {nt : Nat} {rd : Option (Option Nat)} {ss : List (Nat × SV)} {bl : List (Nat × AObj)} {N : Nat} {e : Exit} {ss' : List (Nat × SV)} {ups : List (Nat × Option AObj)} {N' : Nat}
    (h : LoopE P c nt rd ss bl N e ss' ups N') (hrd : plainRd rd = true) (hk : hereOk bl N ups N' = true) : LoopT P c nt rd ss bl N e ss' ups N' := by
  obtain ⟨h1, h2⟩ := hereOk_spec hk
  have := LoopE.ren h hrd h1
  rw [map_id' renSl_id, map_id' renB_id, map_id' renSl_id, map_id' renU_id, show N + (N' - N) = N' by omega] at this
  exact this
theorem CallE.here {P : Program} {f : FuncId} {args : List SV} {bl : List (Nat × AObj)} {N : Nat} {sv : SV} {ups : List (Nat × Option AObj)} {N' : Nat}
    (h : CallE P f args bl N sv ups N') (hk : hereOk bl N ups N' = true) : CallT P f args bl N sv ups N' := by
  obtain ⟨h1, h2⟩ := hereOk_spec hk
  have := CallE.ren h h1
  rw [SV.renL_id, map_id' renB_id, SV.ren_id, map_id' renU_id, show N + (N' - N) = N' by omega] at this
  exact this
/-- what is told at the numbers 128, 130, .. may be told at these -/
def atOk (bs : List Nat) (nx : Nat) (bl : List (Nat × AObj)) (N : Nat) (ups : List (Nat × Option AObj)) (N' : Nat) : Bool :=
  Nat.beq N (128 + 2 * bs.length) && rnOk bs nx && Nat.ble N N' && bl.all (fun x => (Nat.beq (x.1 % 2) 1 && Nat.blt x.1 128 || Nat.beq (x.1 % 2) 0 && Nat.ble 128 x.1 && Nat.blt x.1 N) && (match x.2 with | .lrec _ _ _ _ _ _ _ => false | _ => true)) &&
    ups.all (fun x => ((bl.map Prod.fst).contains x.1 || Nat.ble N x.1) && (match x.2 with | some (.lrec _ _ _ _ _ _ _) => false | _ => true)) && wrAll ups
theorem atOk_spec {bs : List Nat} {nx : Nat} {bl : List (Nat × AObj)} {N : Nat} {ups : List (Nat × Option AObj)} {N' : Nat} (h : atOk bs nx bl N ups N' = true) : RTold (rnOf bs nx) bl N nx ups N' ∧ N ≤ N' := by
  simp only [atOk, Bool.and_eq_true, List.all_eq_true, Nat.ble_eq, nbeq, beq_iff_eq, Nat.blt_eq, Bool.or_eq_true, List.contains_iff_mem] at h
  obtain ⟨⟨⟨⟨⟨rfl, h2⟩, h3⟩, h4⟩, h5⟩, h6⟩ := h
  have hev : nx % 2 = 0 := by
    simp only [rnOk, Bool.and_eq_true, nbeq, beq_iff_eq] at h2
    exact h2.1.1.2
  refine ⟨⟨rnOf_ok h2 (fun b hb => ?_), hev, fun x hx => ?_, fun x hx => (h5 x hx).1, fun x hx o ho => ?_, h6⟩, h3⟩
  · obtain ⟨x, hx, rfl⟩ := List.mem_map.1 hb
    rcases (h4 x hx).1 with ⟨h, h'⟩ | ⟨⟨h, h'⟩, h''⟩
    · exact .inl ⟨h, h'⟩
    · exact .inr ⟨h, h', h''⟩
  · have := (h4 x hx).2
    obtain ⟨b, o⟩ := x
    cases o <;> simp_all [AObj.flat]
  · have := (h5 x hx).2
    rw [ho] at this
    cases o <;> simp_all [AObj.flat]
theorem CallE.at {P : Program} {f : FuncId} {args args' : List SV} {bl bl' : List (Nat × AObj)} {N : Nat} {sv sv' : SV} {ups ups' : List (Nat × Option AObj)} {N' nx' : Nat}
    (h : CallE P f args bl N sv ups N') (bs : List Nat) (nx : Nat) (hk : atOk bs nx bl N ups N' = true) (e1 : SV.renL (rnOf bs nx) args = args') (e2 : bl.map (renB (rnOf bs nx)) = bl') (e3 : sv.ren (rnOf bs nx) = sv')
    (e4 : ups.map (renU (rnOf bs nx)) = ups') (e5 : nx + (N' - N) = nx') : CallT P f args' bl' nx sv' ups' nx' := by
  obtain ⟨h1, h2⟩ := atOk_spec hk
  have := CallE.ren h h1
  rw [e1, e2, e3, e4, e5] at this
  exact this
theorem LoopE.at {P : Program} {c : Code} {nt : Nat} {rd : Option (Option Nat)} {ss ss' ssA ssB : List (Nat × SV)} {bl bl' : List (Nat × AObj)} {N : Nat} {e : Exit} {ups ups' : List (Nat × Option AObj)} {N' nx' : Nat}
    (h : LoopE P c nt rd ss bl N e ss' ups N') (hrd : plainRd rd = true) (bs : List Nat) (nx : Nat) (hk : atOk bs nx bl N ups N' = true) (e1 : ss.map (renSl (rnOf bs nx)) = ssA) (e2 : bl.map (renB (rnOf bs nx)) = bl') (e3 : ss'.map (renSl (rnOf bs nx)) = ssB)
    (e4 : ups.map (renU (rnOf bs nx)) = ups') (e5 : nx + (N' - N) = nx') : LoopT P c nt rd ssA bl' nx e ssB ups' nx' := by
  obtain ⟨h1, h2⟩ := atOk_spec hk
  have := LoopE.ren h hrd h1
  rw [e1, e2, e3, e4, e5] at this
  exact this
/-- less may be told of an argument -/
theorem CallT.args {P : Program} {f : FuncId} {args args' : List SV} {bl : List (Nat × AObj)} {N : Nat} {sv : SV} {ups : List (Nat × Option AObj)} {N' : Nat} (h : CallT P f args bl N sv ups N')
    (hw : ∀ g vs, VRs g args' vs → VRs g args vs) : CallT P f args' bl N sv ups N' := fun g w0 F m w vs hm hn hbl hargs => h g w0 F m w vs hm hn hbl (hw g vs hargs)
/-- a slice with so much room: of some capacity -/
theorem room_cap {g : Gh} {b off len k : Nat} {v : Value} (h : VR g (.sl b off len (.room k)) v) (hk : 0 < k) : ∃ c, k ≤ c ∧ len ≤ c ∧ VR g (.sl b off len (.cap c)) v := by
  simp only [VR] at h ⊢
  obtain ⟨hb, ⟨c, h1, h2, h3⟩ | ⟨h0, a, c, h1, h2⟩⟩ := h
  · exact ⟨c, h3, h2, hb, .inl ⟨c, h1, h2, rfl⟩⟩
  · simp only [looseOk] at h2; omega
theorem renL_plain {R : Nat → Nat} {α : Type} (f : α → Value) (l : List α) : SV.renL R (l.map fun x => .pl (f x)) = l.map fun x => .pl (f x) := by
  rw [SV.renL_map, List.map_map]
  exact List.map_congr_left fun _ _ => rfl
theorem renL_ints (R : Nat → Nat) (l : List Int) : SV.renL R (intsS l) = intsS l := renL_plain _ l
theorem renL_bytes (R : Nat → Nat) (l : List UInt8) : SV.renL R (bytesS l) = bytesS l := renL_plain _ l
theorem renL_strs (R : Nat → Nat) (l : List (List UInt8)) : SV.renL R (strsS l) = strsS l := renL_plain _ l
/-! ### texts -/
theorem bs_size (a : List UInt8) : (bs a).size = a.length := rfl
theorem bs_append (a b : List UInt8) : bs a ++ bs b = bs (a ++ b) := by
  apply ByteArray.ext
  rw [ByteArray.data_append]
  simp [bs]
theorem bs_inj {a b : List UInt8} : bs a = bs b ↔ a = b := by
  constructor
  · intro h
    have := congrArg (fun x => x.data.toList) h
    simpa [bs] using this
  · rintro rfl; rfl
theorem bs_toList (a : List UInt8) : (bs a).toList = a := by rw [ByteArray.toList_eq]; simp [bs]
theorem bs_data (a : List UInt8) : (bs a).data.toList = a := by simp [bs]
theorem strAt_bs {l : List UInt8} {i : Int} (h0 : 0 ≤ i) (h : i < l.length) : strAt (bs l) i = some (.pl (.int .u8 (l.getD i.toNat 0).toNat)) := by
  obtain ⟨k, rfl⟩ := Int.eq_ofNat_of_zero_le h0
  show (match listAt (bs l).data.toList k with | some b => some (SV.pl (Value.int .u8 b.toNat)) | none => none) = _
  rw [bs_data, listAt_eq, getD_get (d := 0) (show k < l.length by omega)]
  rfl
theorem btAt_bs (l : List UInt8) (k : Nat) : btAt (bs l) k = ((l.getD k 0).toNat : Int) := by unfold btAt; rw [bs_data]
/-! ### masks, shifts -/
theorem ofInt_toNat (k : Nat) (h : k < 18446744073709551616) : (BitVec.ofInt IntKind.i64.bits (k : Int)).toNat = k := by
  rw [BitVec.toNat_ofInt]
  show ((k : Int) % ((2 ^ 64 : Nat) : Int)).toNat = k
  omega
theorem mask_and (k j : Nat) (h : k < 18446744073709551616) (m : Nat) (hm : m < 18446744073709551616) (hj : k &&& m = j) : (BitVec.ofInt IntKind.i64.bits (k : Int) &&& BitVec.ofInt IntKind.i64.bits (m : Int)).toNat = j := by
  rw [BitVec.toNat_and, ofInt_toNat k h, ofInt_toNat m hm, hj]
theorem mask_or (k j : Nat) (h : k < 18446744073709551616) (m : Nat) (hm : m < 18446744073709551616) (hj : k ||| m = j) : (BitVec.ofInt IntKind.i64.bits (k : Int) ||| BitVec.ofInt IntKind.i64.bits (m : Int)).toNat = j := by
  rw [BitVec.toNat_or, ofInt_toNat k h, ofInt_toNat m hm, hj]
theorem shr_nat (k : IntKind) (a b : Nat) (h : b ≤ k.bits) : shV .shr k (a : Int) (b : Int) = ((a / 2 ^ b : Nat) : Int) := by
  show Int.fdiv (a : Int) (2 ^ (min (b : Int).toNat k.bits)) = _
  rw [Int.toNat_natCast, Nat.min_eq_left h, Int.fdiv_eq_ediv_of_nonneg _ (by exact_mod_cast Nat.zero_le _)]
  norm_cast
theorem wrap_u64 (x : Int) : (IntKind.wrap .u64 x = x) = (0 ≤ x ∧ x ≤ 18446744073709551615) := by
  rw [eq_iff_iff]
  simp only [IntKind.wrap, IntKind.bits, IntKind.signed]
  simp
  omega
theorem wrap_u8 (x : Int) : (IntKind.wrap .u8 x = x) = (0 ≤ x ∧ x ≤ 255) := by
  rw [eq_iff_iff]
  simp only [IntKind.wrap, IntKind.bits, IntKind.signed]
  simp
  omega
theorem wrap_i32 (x : Int) : (IntKind.wrap .i32 x = x) = (-2147483648 ≤ x ∧ x ≤ 2147483647) := by
  rw [eq_iff_iff]
  simp only [IntKind.wrap, IntKind.bits, IntKind.signed]
  simp
  omega
theorem encode_low (r : Nat) (h : r < 128) : Utf8.encode (r : Int) = bs [UInt8.ofNat r] := by
  unfold Utf8.encode
  have hv : Utf8.valid (r : Int) = true := by
    unfold Utf8.valid
    have h1 : decide (0 ≤ (r : Int)) = true := by simp
    have h2 : decide ((r : Int) < 0xD800) = true := by rw [decide_eq_true_eq]; omega
    rw [h1, h2]; rfl
  simp only [hv, if_true, Int.toNat_natCast]
  rw [if_pos (by omega)]
  rfl
theorem bitN_lt (m : List UInt8) (k : Nat) : bitN m k < 2 := Nat.mod_lt _ (by omega)
theorem u8_lt (x : UInt8) : x.toNat < 256 := x.toNat_lt
theorem renL_tab (R : Nat → Nat) (k : IntKind) (l : List Int) : SV.renL R (tabCells k l) = tabCells k l := renL_plain _ l
theorem prefix_take {w s : List UInt8} : w <+: s ↔ w.length ≤ s.length ∧ s.take w.length = w := by
  rw [List.prefix_iff_eq_take]
  constructor
  · intro h
    refine ⟨?_, h.symm⟩
    have := congrArg List.length h
    rw [List.length_take] at this
    omega
  · rintro ⟨_, h⟩; exact h.symm
theorem cut_pre {s : List UInt8} {n : Nat} (h : n ≤ s.length) : cutStrI (bs s) none (some (n : Int)) = some (.pl (.string (bs (s.take n)))) := by
  have h1 : boundI (some (n : Int)) (bs s).size (bs s).size = some n := by
    show (match Nat.ble n (bs s).size with | true => some n | false => none) = some n
    rw [show Nat.ble n (bs s).size = true by rw [Nat.ble_eq]; exact h]
  unfold cutStrI
  rw [h1]
  have h2 : (bs s).extract 0 n = bs (s.take n) := by
    apply ByteArray.ext
    rw [ByteArray.data_extract]
    simp [bs]
  show some (SV.pl (Value.string ((bs s).extract 0 n))) = _
  rw [h2]
theorem beq_toList_t {a b : List UInt8} : (((bs a).toList == (bs b).toList) = true) = (a = b) := by rw [bs_toList, bs_toList]; simp
theorem beq_toList_f {a b : List UInt8} : (((bs a).toList == (bs b).toList) = false) = (a ≠ b) := by rw [bs_toList, bs_toList]; simp
theorem ite_min (a b : Nat) : (if (a : Int) < (b : Int) then (a : Int) else (b : Int)) = ((min b a : Nat) : Int) := by split <;> omega
end
end Go.Sx
