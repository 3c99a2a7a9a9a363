/- praxinoscopelaw04.AddressGets returns true: for every call, without conditions but the row's own (the listed tables hold what the program's text lays in them). By runs of an abstract evaluator that is proved sound for the machine. -/
import Derived.Test.YtjmcholbjjgelaaDoorStart
import Derived.Test.YtjmcholbjjgelaaDoorGets8
import Derived.Test.YtjmcholbjjgelaaDoorTie
import Derived.Test.YtjmcholbjjgelaaDoorCards
namespace Go.Proofs.YtjmcholbjjgelaaDoor
open Go.ChangeShapes Go.WideShapes Go.ChangeAt Go.RowKit Go.Sx
set_option linter.unusedVariables false
set_option maxRecDepth 100000
theorem laidOut : laidOutB Tryd.prog = true := by kernel_rfl
theorem gets_walk {W : World} (h : laidMetH Tryd.prog lvars W) {a : Option Addr} {len cap : Nat} {zs : List Int} (hz : zs.length = len) (hl : len ≤ cap) (hm : cap ≤ maxLen) (hw : ∀ n ∈ zs, (Lit.int .u8 n).wf = true)
    (hr : ∀ g, RowAt g W (spotOf a len) (zs.map fun n => .pl (.int .u8 n))) (hs : 0 < len → ∃ x, a = some x ∧ x.spot = none) {b : Int} (hb : (Lit.int .i64 b).wf = true) : Calls Tryd.prog 3 #[.slice a len cap, .int .i64 b] W fun e w' => e = .returned (.bool true) ∧ Below W.heap.size W w' := by
  have hzl : (toU8 zs).length = len := by unfold toU8; rw [List.length_map, hz]
  have hcells : bytesS (toU8 zs) = zs.map fun n => .pl (.int .u8 n) := bytesS_toU8 fun n hn => bounds_u8 (hw n hn)
  obtain ⟨b1, b2⟩ := bounds_i64 hb
  obtain ⟨n, hs', m', h1, h2⟩ := Tryd.gets_run (toU8 zs) b b1 b2
  rw [hzl] at h1
  have hrel := startA (start_hh h) (ps := [spotOf a len]) (ls := [bytesS (toU8 zs)]) rfl (fun j p cs hp hc => by
    match j with
    | 0 =>
      simp only [List.getElem?_cons_zero, Option.some.injEq] at hp hc
      subst hp hc
      rw [hcells]
      exact hr _
    | j + 1 => simp at hp) hs'
  refine (top Tryd.tabOk.1 Tryd.I3_ok.told Tryd.tabOk.2 (by kernel_rfl) h1 h2 hrel (vs := [.slice a len cap, .int .i64 b]) ?_).mono fun e w' he => ?_
  · simp only [VRs]
    exact ⟨_, _, rfl, arg_sl (j := 0) rfl hs hl, _, _, rfl, by simp only [VR], rfl⟩
  · obtain ⟨v, rfl, ⟨g', _, hv⟩, hb⟩ := he
    simp only [VR] at hv
    exact ⟨by rw [hv], hb⟩

theorem gets_lifted (os : Os) (started : os.Started) (H : Type) (enc : TypeId × Value → H) :
    ReturnsInHanded {} Tryd.checked os 3 .any (fun w args => (Rows.addressGetsSpec.pre enc Tryd.prog Tryd.f3 [] false w args ∧ laidMetH Tryd.prog lvars w) ∧ sizedMet enc Tryd.prog Tryd.f3 (OpenSpec.ofChange Rows.addressGetsSpec) false w args)
      (Rows.addressGetsSpec.post enc Tryd.prog Tryd.f3 false true false false) := by
  refine returnsInHanded_of_change_and (C := Tryd.checked) (X := fun w _ => laidMetH Tryd.prog lvars w) (fun _ _ _ hh h => h.of_heap hh) own started (by kernel_rfl) Tryd.func3
    (ChangeSpec.witness_shaped (enc := enc) (C := Tryd.checked) (os := os) (X := fun w _ => laidMetH Tryd.prog lvars w) false (World.doorLaid Tryd.prog 400 os) #[.slice none 0 0, .int .i64 0] 8 rfl (World.shaped_of_RefB (by kernel_rfl) (by kernel_rfl)) (by kernel_rfl) (by kernel_rfl) (by kernel_rfl) (door_met os _)) ?_
  intro W base args ds gs before hval0 hW _ _ hL _
  have hval : ∀ (j : Nat) t v, Tryd.f3.params[j]? = some t → args[j]? = some v → Value.okWide Tryd.prog W .any base t v := hval0
  have hW' := hW
  obtain ⟨p, q, hA0, hV, rfl, hfz, hnd⟩ := hW
  have hA : DataW.TrodAll enc Tryd.prog W 0 (fun _ => true) true Tryd.f3.params.toList args.toList ds p := hA0
  rw [Tryd.params3] at hA hval
  obtain ⟨v0, vs0, d0, ds0, p0, q0, hargs, rfl, rfl, h0, r0⟩ := trodAll_cons hA
  obtain ⟨v1, vs1, d1, ds1, p1, q1, rfl, rfl, rfl, h1, r1⟩ := trodAll_cons r0
  obtain ⟨rfl, rfl, rfl⟩ := trodAll_nil r1
  obtain rfl : args = #[v0, v1] := by cases args; simp_all
  obtain ⟨rfl, rfl⟩ := trodVars_none hV
  have b0 : ∀ x ∈ p0, x.block < W.heap.size := (trodAll_mk1 h0).lt
  obtain ⟨a0, len0, cap0, zs0, rfl, hz0, hl0, hm0, hw0, hr0, hs0⟩ := open_slice Tryd.underlying22 Tryd.underlying5 (by kernel_rfl) (hval 0 22 v0 rfl rfl) h0
  obtain ⟨a1, rfl, rfl, rfl, w1⟩ := open_int Tryd.underlying3 (hval 1 3 v1 rfl rfl) h1
  clear hA0 hval0
  simp only [List.append_nil] at hW'
  refine (gets_walk hL hz0 hl0 hm0 hw0 hr0 hs0 w1).mono fun e W' ⟨he, hg⟩ => ?_
  subst he
  refine ⟨_, rfl, _, _, _, [], (p0 ++ (([] : List MemPlace) ++ ([] : List MemPlace))), [], hW', ?_, ?_, ?_, hg.frame _, fun h => by cases h⟩
  · exact trodAll_cons_mk (shut_bool Tryd.underlying4 true) trodAll_mk0
  · exact trodAll_cons_mk (Below.trod laidOut (by kernel_rfl) (of_decide_eq_true (by kernel_rfl)) h0 hg b0) (trodAll_cons_mk (shut_int Tryd.underlying3 w1) (trodAll_mk0))
  · rfl

theorem gets_row : Rows.AddressGetsSaid :=
  OpenClaim.holds_of_wide 3 Tryd.f3 rfl rfl rfl rfl rfl rfl rfl ⟨rfl, rfl, rfl, rfl, rfl⟩ rfl rfl rfl rfl rfl (by kernel_rfl) Tryd.func3 (by kernel_rfl)
    (of_decide_eq_true (by kernel_rfl)) (by unfold Func.isWrapper; first | (rw [if_pos (by decide +kernel)]; kernel_rfl) | (rw [if_neg (by decide +kernel)]; exact ⟨rfl, rfl⟩))
    (fun os started H enc _ => gets_lifted os started H enc)

/-- THE STATEMENT. -/
theorem gets_card : Rows.AddressGetsCardSaid :=
  Claim7.holds_tied_plain_at .later [] [.data, .data, .data] true Rows.addressGetsCard.stood.harness false
    gets_row (fun _ h => by cases h) (by kernel_rfl) (fun _ h => by cases h) addressGets_row_tie rfl ⟨rfl, rfl⟩ (by kernel_rfl) rfl
    (fun f fn hf hfn => by
      obtain rfl : f = 3 := Option.some.inj ((show Tryd.prog.funcNamed _ = some 3 by kernel_rfl).symm.trans hf) |>.symm
      obtain rfl : fn = Tryd.f3 := (Option.some.inj (Tryd.func3.symm.trans hfn)).symm
      refine ⟨by kernel_rfl, fun j t ht => ?_⟩
      have hall : (Tryd.f3.params.all fun u => !Tryd.prog.wantsStandIn u) = true := by kernel_rfl
      have hm := Array.mem_of_getElem? ht
      rw [Array.all_eq_true_iff_forall_mem] at hall
      have hw : Tryd.prog.wantsStandIn t = false := by simpa using hall t hm
      exact hw)
    (by kernel_rfl)
#print axioms gets_card
end Go.Proofs.YtjmcholbjjgelaaDoor
