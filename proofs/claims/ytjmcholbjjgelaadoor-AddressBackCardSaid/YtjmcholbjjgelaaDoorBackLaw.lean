/- praxinoscopelaw04.AddressBack returns true: for every call, without conditions but the row's own (the listed tables hold what the program's text lays in them). By runs of an abstract evaluator that is proved sound for the machine. -/
import Derived.Test.YtjmcholbjjgelaaDoorStart
import Derived.Test.YtjmcholbjjgelaaDoorBack2
import Derived.Test.YtjmcholbjjgelaaDoorTie
import Derived.Test.YtjmcholbjjgelaaDoorCards
namespace Go.Proofs.YtjmcholbjjgelaaDoor
open Go.ChangeShapes Go.WideShapes Go.ChangeAt Go.RowKit Go.Sx
set_option linter.unusedVariables false
set_option maxRecDepth 100000
theorem laidOut : laidOutB Tryd.prog = true := by kernel_rfl
theorem back_walk {W : World} (h : laidMetH Tryd.prog lvars W) {b : Int} (hb : (Lit.int .i64 b).wf = true) {a : Option Addr} {len cap : Nat} {zs : List Int} (hz : zs.length = len) (hl : len ≤ cap) (hm : cap ≤ maxLen) (hw : ∀ n ∈ zs, (Lit.int .i64 n).wf = true)
    (hr : ∀ g, RowAt g W (spotOf a len) (zs.map fun n => .pl (.int .i64 n))) (hs : 0 < len → ∃ x, a = some x ∧ x.spot = none) : Calls Tryd.prog 7 #[.int .i64 b, .slice a len cap] W fun e w' => e = .returned (.bool true) ∧ Below W.heap.size W w' := by
  subst hz
  obtain ⟨n, hs', m', h1, h2⟩ := Tryd.back_run zs b
  have hrel := startA (start_hh h) (ps := [spotOf a zs.length]) (ls := [intsS zs]) rfl (fun j p cs hp hc => by
    match j with
    | 0 =>
      simp only [List.getElem?_cons_zero, Option.some.injEq] at hp hc
      subst hp hc
      exact hr _
    | j + 1 => simp at hp) hs'
  refine (top Tryd.tabOk.1 Tryd.I3_ok.told Tryd.tabOk.2 (by kernel_rfl) h1 h2 hrel (vs := [.int .i64 b, .slice a zs.length cap]) ?_).mono fun e w' he => ?_
  · simp only [VRs]
    exact ⟨_, _, rfl, by simp only [VR], _, _, rfl, arg_sl (j := 0) rfl hs hl, rfl⟩
  · obtain ⟨v, rfl, ⟨g', _, hv⟩, hb⟩ := he
    simp only [VR] at hv
    exact ⟨by rw [hv], hb⟩

theorem back_lifted (os : Os) (started : os.Started) (H : Type) (enc : TypeId × Value → H) :
    ReturnsInHanded {} Tryd.checked os 7 .any (fun w args => (Rows.addressBackSpec.pre enc Tryd.prog Tryd.f7 [] false w args ∧ laidMetH Tryd.prog lvars w) ∧ sizedMet enc Tryd.prog Tryd.f7 (OpenSpec.ofChange Rows.addressBackSpec) false w args)
      (Rows.addressBackSpec.post enc Tryd.prog Tryd.f7 false true false false) := by
  refine returnsInHanded_of_change_and (C := Tryd.checked) (X := fun w _ => laidMetH Tryd.prog lvars w) (fun _ _ _ hh h => h.of_heap hh) own started (by kernel_rfl) Tryd.func7
    (ChangeSpec.witness_shaped (enc := enc) (C := Tryd.checked) (os := os) (X := fun w _ => laidMetH Tryd.prog lvars w) false (World.doorLaid Tryd.prog 400 os) #[.int .i64 0, .slice none 0 0] 8 rfl (World.shaped_of_RefB (by kernel_rfl) (by kernel_rfl)) (by kernel_rfl) (by kernel_rfl) (by kernel_rfl) (door_met os _)) ?_
  intro W base args ds gs before hval0 hW _ _ hL _
  have hval : ∀ (j : Nat) t v, Tryd.f7.params[j]? = some t → args[j]? = some v → Value.okWide Tryd.prog W .any base t v := hval0
  have hW' := hW
  obtain ⟨p, q, hA0, hV, rfl, hfz, hnd⟩ := hW
  have hA : DataW.TrodAll enc Tryd.prog W 0 (fun _ => true) true Tryd.f7.params.toList args.toList ds p := hA0
  rw [Tryd.params7] at hA hval
  obtain ⟨v0, vs0, d0, ds0, p0, q0, hargs, rfl, rfl, h0, r0⟩ := trodAll_cons hA
  obtain ⟨v1, vs1, d1, ds1, p1, q1, rfl, rfl, rfl, h1, r1⟩ := trodAll_cons r0
  obtain ⟨rfl, rfl, rfl⟩ := trodAll_nil r1
  obtain rfl : args = #[v0, v1] := by cases args; simp_all
  obtain ⟨rfl, rfl⟩ := trodVars_none hV
  obtain ⟨a0, rfl, rfl, rfl, w0⟩ := open_int Tryd.underlying3 (hval 0 3 v0 rfl rfl) h0
  have b1 : ∀ x ∈ p1, x.block < W.heap.size := (trodAll_mk1 h1).lt
  obtain ⟨a1, len1, cap1, zs1, rfl, hz1, hl1, hm1, hw1, hr1, hs1⟩ := open_slice Tryd.underlying40 Tryd.underlying3 (by kernel_rfl) (hval 1 40 v1 rfl rfl) h1
  clear hA0 hval0
  simp only [List.append_nil] at hW'
  refine (back_walk hL w0 hz1 hl1 hm1 hw1 hr1 hs1).mono fun e W' ⟨he, hg⟩ => ?_
  subst he
  refine ⟨_, rfl, _, _, _, [], (([] : List MemPlace) ++ (p1 ++ ([] : List MemPlace))), [], hW', ?_, ?_, ?_, hg.frame _, fun h => by cases h⟩
  · exact trodAll_cons_mk (shut_bool Tryd.underlying4 true) trodAll_mk0
  · exact trodAll_cons_mk (shut_int Tryd.underlying3 w0) (trodAll_cons_mk (Below.trod laidOut (by kernel_rfl) (of_decide_eq_true (by kernel_rfl)) h1 hg b1) (trodAll_mk0))
  · rfl

theorem back_row : Rows.AddressBackSaid :=
  OpenClaim.holds_of_wide 7 Tryd.f7 rfl rfl rfl rfl rfl rfl rfl ⟨rfl, rfl, rfl, rfl, rfl⟩ rfl rfl rfl rfl rfl (by kernel_rfl) Tryd.func7 (by kernel_rfl)
    (of_decide_eq_true (by kernel_rfl)) (by unfold Func.isWrapper; first | (rw [if_pos (by decide +kernel)]; kernel_rfl) | (rw [if_neg (by decide +kernel)]; exact ⟨rfl, rfl⟩))
    (fun os started H enc _ => back_lifted os started H enc)

/-- THE STATEMENT. -/
theorem back_card : Rows.AddressBackCardSaid :=
  Claim7.holds_tied_plain_at .later [] [.data, .data, .data] true Rows.addressBackCard.stood.harness false
    back_row (fun _ h => by cases h) (by kernel_rfl) (fun _ h => by cases h) addressBack_row_tie rfl ⟨rfl, rfl⟩ (by kernel_rfl) rfl
    (fun f fn hf hfn => by
      obtain rfl : f = 7 := Option.some.inj ((show Tryd.prog.funcNamed _ = some 7 by kernel_rfl).symm.trans hf) |>.symm
      obtain rfl : fn = Tryd.f7 := (Option.some.inj (Tryd.func7.symm.trans hfn)).symm
      refine ⟨by kernel_rfl, fun j t ht => ?_⟩
      have hall : (Tryd.f7.params.all fun u => !Tryd.prog.wantsStandIn u) = true := by kernel_rfl
      have hm := Array.mem_of_getElem? ht
      rw [Array.all_eq_true_iff_forall_mem] at hall
      have hw : Tryd.prog.wantsStandIn t = false := by simpa using hall t hm
      exact hw)
    (by kernel_rfl)
#print axioms back_card
end Go.Proofs.YtjmcholbjjgelaaDoor
