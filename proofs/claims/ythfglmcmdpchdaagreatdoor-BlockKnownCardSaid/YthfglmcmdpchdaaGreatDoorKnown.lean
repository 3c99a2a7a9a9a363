/- praxinoscopelaw12.BlockKnown returns true: for every call, without conditions but the row's own (the listed tables hold what the program's text lays in them). By a run of an abstract evaluator that is proved sound for the machine. -/
import Derived.Test.YthfglmcmdpchdaaGreatDoorStart
import Derived.Test.YthfglmcmdpchdaaGreatDoorTie
import Derived.Test.YthfglmcmdpchdaaGreatDoorCards
namespace Go.Proofs.YthfglmcmdpchdaaGreatDoor
open Go.ChangeShapes Go.WideShapes Go.ChangeAt Go.RowKit Go.Sx
set_option linter.unusedVariables false
set_option maxRecDepth 100000

theorem known_run : capFin [] (callS Tryz.prog Tryz.tab Tryz.I4 400 8 [] (meOf Tryz.tabs)) = some (.pl (.bool true), []) := by kernel_rfl

theorem known_walk {W : World} (h : laidMetH Tryz.prog lvars W) : Calls Tryz.prog 8 #[] W fun e w' => e = .returned (.bool true) ∧ Below W.heap.size W w' := by
  obtain ⟨m', h1, h2, _⟩ := capFin_spec known_run
  refine (top Tryz.tabOk.1 Tryz.I4_ok Tryz.tabOk.2 (by kernel_rfl) h1 h2 (start h) (vs := []) (by simp [VRs])).mono fun e w' he => ?_
  obtain ⟨v, rfl, ⟨g', _, hv⟩, hb⟩ := he
  simp only [VR] at hv
  exact ⟨by rw [hv], hb⟩

theorem known_lifted (os : Os) (started : os.Started) (H : Type) (enc : TypeId × Value → H) :
    ReturnsInHanded {} Tryz.checked os 8 .any (fun w args => (Rows.blockKnownSpec.pre enc Tryz.prog Tryz.f8 [] false w args ∧ laidMetH Tryz.prog lvars w) ∧ sizedMet enc Tryz.prog Tryz.f8 (OpenSpec.ofChange Rows.blockKnownSpec) false w args)
      (Rows.blockKnownSpec.post enc Tryz.prog Tryz.f8 false true false false) := by
  refine returnsInHanded_of_change_and (C := Tryz.checked) (X := fun w _ => laidMetH Tryz.prog lvars w) (fun _ _ _ hh h => h.of_heap hh) own started (by kernel_rfl) Tryz.func8
    (ChangeSpec.witness_shaped (enc := enc) (C := Tryz.checked) (os := os) (X := fun w _ => laidMetH Tryz.prog lvars w) false (door os) #[] 8 rfl (World.shaped_of_RefB (by kernel_rfl) (by kernel_rfl)) (by kernel_rfl) (by kernel_rfl) (by kernel_rfl) (door_met os _)) ?_
  intro W base args ds gs before hval0 hW _ _ hL _
  have hW' := hW
  obtain ⟨p, q, hA0, hV, rfl, hfz, hnd⟩ := hW
  have hA : DataW.TrodAll enc Tryz.prog W 0 (fun _ => true) true Tryz.f8.params.toList args.toList ds p := hA0
  rw [Tryz.params8] at hA
  obtain ⟨rfl, rfl, rfl⟩ := trodAll_none hA
  obtain ⟨rfl, rfl⟩ := trodVars_none hV
  clear hA0
  simp only [List.append_nil] at hW'
  refine (known_walk hL).mono fun e W' ⟨he, hg⟩ => ?_
  subst he
  refine ⟨_, rfl, _, _, _, [], [], [], hW', ?_, ?_, ?_, hg.frame _, fun h => by cases h⟩
  · exact trodAll_mk1 (shut_bool Tryz.underlying4 true)
  · exact trodAll_mk0
  · rfl

theorem known_row : Rows.BlockKnownSaid :=
  OpenClaim.holds_of_wide 8 Tryz.f8 rfl rfl rfl rfl rfl rfl rfl ⟨rfl, rfl, rfl, rfl, rfl⟩ rfl rfl rfl rfl rfl (by kernel_rfl) Tryz.func8 (by kernel_rfl)
    (of_decide_eq_true (by kernel_rfl)) (by unfold Func.isWrapper; first | (rw [if_pos (by decide +kernel)]; kernel_rfl) | (rw [if_neg (by decide +kernel)]; exact ⟨rfl, rfl⟩))
    (fun os started H enc _ => known_lifted os started H enc)

/-- THE STATEMENT. -/
theorem known_card : Rows.BlockKnownCardSaid :=
  Claim7.holds_tied_plain_at .later [] [.data, .data, .data, .sentinel, .sentinel, .listed, .data] true Rows.blockKnownCard.stood.harness true
    known_row (fun _ h => by cases h) (by kernel_rfl) (fun _ h => by cases h) blockKnown_row_tie rfl ⟨rfl, rfl⟩ (by kernel_rfl) rfl
    (fun f fn hf hfn => by
      obtain rfl : f = 8 := Option.some.inj ((show Tryz.prog.funcNamed _ = some 8 by kernel_rfl).symm.trans hf) |>.symm
      obtain rfl : fn = Tryz.f8 := (Option.some.inj (Tryz.func8.symm.trans hfn)).symm
      exact ⟨by kernel_rfl, fun j t ht => by
        rw [Tryz.params8] at ht
        simp at ht⟩)
    (by kernel_rfl)
#print axioms known_card
end Go.Proofs.YthfglmcmdpchdaaGreatDoor
