/- Closed runs of this seat's program, done once: address.Put at each difference, the law's own code at each code. -/
import Derived.Test.YtjmcholbjjgelaaDoorCaps
namespace Go.Proofs
open Go.Sx Go.RowKit
set_option maxRecDepth 100000
noncomputable def Tryd.c15_0 : Capsule := { k := 15, args := [.int .i64 0], bs := [], sv := .pl (.tuple #[.string ⟨#[48, 48, 48, 48, 48, 48, 48, 49, 49, 49, 49]⟩, .int .i64 0]), os := [] }
theorem Tryd.c15_0_ok : IntrOk Tryd.prog (capI Tryd.tabs Tryd.c15_0) := cap_ok Tryd.tabOk Tryd.I3_ok (n := 300) (by kernel_rfl) (by kernel_rfl) (by kernel_rfl)
noncomputable def Tryd.c16_0 : Capsule := { k := 16, args := [.string ⟨#[48, 48, 48, 48, 48, 48, 48, 49, 49, 49, 49]⟩], bs := [], sv := .pl (.bool true), os := [] }
theorem Tryd.c16_0_ok : IntrOk Tryd.prog (capI [] Tryd.c16_0) := cap_ok Tryd.tabOk (noI_ok _) (n := 300) (by kernel_rfl) (by kernel_rfl) (by kernel_rfl)
noncomputable def Tryd.c15_1 : Capsule := { k := 15, args := [.int .i64 1], bs := [], sv := .pl (.tuple #[.string ⟨#[49]⟩, .int .i64 0]), os := [] }
theorem Tryd.c15_1_ok : IntrOk Tryd.prog (capI Tryd.tabs Tryd.c15_1) := cap_ok Tryd.tabOk Tryd.I3_ok (n := 300) (by kernel_rfl) (by kernel_rfl) (by kernel_rfl)
noncomputable def Tryd.c16_1 : Capsule := { k := 16, args := [.string ⟨#[49]⟩], bs := [], sv := .pl (.bool true), os := [] }
theorem Tryd.c16_1_ok : IntrOk Tryd.prog (capI [] Tryd.c16_1) := cap_ok Tryd.tabOk (noI_ok _) (n := 300) (by kernel_rfl) (by kernel_rfl) (by kernel_rfl)
noncomputable def Tryd.c15_2 : Capsule := { k := 15, args := [.int .i64 2], bs := [], sv := .pl (.tuple #[.string ⟨#[48, 49, 49]⟩, .int .i64 0]), os := [] }
theorem Tryd.c15_2_ok : IntrOk Tryd.prog (capI Tryd.tabs Tryd.c15_2) := cap_ok Tryd.tabOk Tryd.I3_ok (n := 300) (by kernel_rfl) (by kernel_rfl) (by kernel_rfl)
noncomputable def Tryd.c16_2 : Capsule := { k := 16, args := [.string ⟨#[48, 49, 49]⟩], bs := [], sv := .pl (.bool true), os := [] }
theorem Tryd.c16_2_ok : IntrOk Tryd.prog (capI [] Tryd.c16_2) := cap_ok Tryd.tabOk (noI_ok _) (n := 300) (by kernel_rfl) (by kernel_rfl) (by kernel_rfl)
noncomputable def Tryd.c15_3 : Capsule := { k := 15, args := [.int .i64 3], bs := [], sv := .pl (.tuple #[.string ⟨#[48, 49, 48]⟩, .int .i64 0]), os := [] }
theorem Tryd.c15_3_ok : IntrOk Tryd.prog (capI Tryd.tabs Tryd.c15_3) := cap_ok Tryd.tabOk Tryd.I3_ok (n := 300) (by kernel_rfl) (by kernel_rfl) (by kernel_rfl)
noncomputable def Tryd.c16_3 : Capsule := { k := 16, args := [.string ⟨#[48, 49, 48]⟩], bs := [], sv := .pl (.bool true), os := [] }
theorem Tryd.c16_3_ok : IntrOk Tryd.prog (capI [] Tryd.c16_3) := cap_ok Tryd.tabOk (noI_ok _) (n := 300) (by kernel_rfl) (by kernel_rfl) (by kernel_rfl)
noncomputable def Tryd.c15_4 : Capsule := { k := 15, args := [.int .i64 4], bs := [], sv := .pl (.tuple #[.string ⟨#[48, 48, 49, 49]⟩, .int .i64 0]), os := [] }
theorem Tryd.c15_4_ok : IntrOk Tryd.prog (capI Tryd.tabs Tryd.c15_4) := cap_ok Tryd.tabOk Tryd.I3_ok (n := 300) (by kernel_rfl) (by kernel_rfl) (by kernel_rfl)
noncomputable def Tryd.c16_4 : Capsule := { k := 16, args := [.string ⟨#[48, 48, 49, 49]⟩], bs := [], sv := .pl (.bool true), os := [] }
theorem Tryd.c16_4_ok : IntrOk Tryd.prog (capI [] Tryd.c16_4) := cap_ok Tryd.tabOk (noI_ok _) (n := 300) (by kernel_rfl) (by kernel_rfl) (by kernel_rfl)
noncomputable def Tryd.c15_5 : Capsule := { k := 15, args := [.int .i64 5], bs := [], sv := .pl (.tuple #[.string ⟨#[48, 48, 49, 48]⟩, .int .i64 0]), os := [] }
theorem Tryd.c15_5_ok : IntrOk Tryd.prog (capI Tryd.tabs Tryd.c15_5) := cap_ok Tryd.tabOk Tryd.I3_ok (n := 300) (by kernel_rfl) (by kernel_rfl) (by kernel_rfl)
noncomputable def Tryd.c16_5 : Capsule := { k := 16, args := [.string ⟨#[48, 48, 49, 48]⟩], bs := [], sv := .pl (.bool true), os := [] }
theorem Tryd.c16_5_ok : IntrOk Tryd.prog (capI [] Tryd.c16_5) := cap_ok Tryd.tabOk (noI_ok _) (n := 300) (by kernel_rfl) (by kernel_rfl) (by kernel_rfl)
noncomputable def Tryd.c15_6 : Capsule := { k := 15, args := [.int .i64 6], bs := [], sv := .pl (.tuple #[.string ⟨#[48, 48, 48, 49, 49]⟩, .int .i64 0]), os := [] }
theorem Tryd.c15_6_ok : IntrOk Tryd.prog (capI Tryd.tabs Tryd.c15_6) := cap_ok Tryd.tabOk Tryd.I3_ok (n := 300) (by kernel_rfl) (by kernel_rfl) (by kernel_rfl)
noncomputable def Tryd.c16_6 : Capsule := { k := 16, args := [.string ⟨#[48, 48, 48, 49, 49]⟩], bs := [], sv := .pl (.bool true), os := [] }
theorem Tryd.c16_6_ok : IntrOk Tryd.prog (capI [] Tryd.c16_6) := cap_ok Tryd.tabOk (noI_ok _) (n := 300) (by kernel_rfl) (by kernel_rfl) (by kernel_rfl)
noncomputable def Tryd.c15_7 : Capsule := { k := 15, args := [.int .i64 7], bs := [], sv := .pl (.tuple #[.string ⟨#[48, 48, 48, 49, 48]⟩, .int .i64 0]), os := [] }
theorem Tryd.c15_7_ok : IntrOk Tryd.prog (capI Tryd.tabs Tryd.c15_7) := cap_ok Tryd.tabOk Tryd.I3_ok (n := 300) (by kernel_rfl) (by kernel_rfl) (by kernel_rfl)
noncomputable def Tryd.c16_7 : Capsule := { k := 16, args := [.string ⟨#[48, 48, 48, 49, 48]⟩], bs := [], sv := .pl (.bool true), os := [] }
theorem Tryd.c16_7_ok : IntrOk Tryd.prog (capI [] Tryd.c16_7) := cap_ok Tryd.tabOk (noI_ok _) (n := 300) (by kernel_rfl) (by kernel_rfl) (by kernel_rfl)
noncomputable def Tryd.c15_8 : Capsule := { k := 15, args := [.int .i64 8], bs := [], sv := .pl (.tuple #[.string ⟨#[48, 48, 48, 48, 49, 49, 49]⟩, .int .i64 0]), os := [] }
theorem Tryd.c15_8_ok : IntrOk Tryd.prog (capI Tryd.tabs Tryd.c15_8) := cap_ok Tryd.tabOk Tryd.I3_ok (n := 300) (by kernel_rfl) (by kernel_rfl) (by kernel_rfl)
noncomputable def Tryd.c16_8 : Capsule := { k := 16, args := [.string ⟨#[48, 48, 48, 48, 49, 49, 49]⟩], bs := [], sv := .pl (.bool true), os := [] }
theorem Tryd.c16_8_ok : IntrOk Tryd.prog (capI [] Tryd.c16_8) := cap_ok Tryd.tabOk (noI_ok _) (n := 300) (by kernel_rfl) (by kernel_rfl) (by kernel_rfl)
noncomputable def Tryd.c15_9 : Capsule := { k := 15, args := [.int .i64 9], bs := [], sv := .pl (.tuple #[.string ⟨#[48, 48, 48, 48, 49, 49, 48]⟩, .int .i64 0]), os := [] }
theorem Tryd.c15_9_ok : IntrOk Tryd.prog (capI Tryd.tabs Tryd.c15_9) := cap_ok Tryd.tabOk Tryd.I3_ok (n := 300) (by kernel_rfl) (by kernel_rfl) (by kernel_rfl)
noncomputable def Tryd.c16_9 : Capsule := { k := 16, args := [.string ⟨#[48, 48, 48, 48, 49, 49, 48]⟩], bs := [], sv := .pl (.bool true), os := [] }
theorem Tryd.c16_9_ok : IntrOk Tryd.prog (capI [] Tryd.c16_9) := cap_ok Tryd.tabOk (noI_ok _) (n := 300) (by kernel_rfl) (by kernel_rfl) (by kernel_rfl)
noncomputable def Tryd.c15_10 : Capsule := { k := 15, args := [.int .i64 10], bs := [], sv := .pl (.tuple #[.string ⟨#[48, 48, 48, 48, 49, 48, 49, 49]⟩, .int .i64 0]), os := [] }
theorem Tryd.c15_10_ok : IntrOk Tryd.prog (capI Tryd.tabs Tryd.c15_10) := cap_ok Tryd.tabOk Tryd.I3_ok (n := 300) (by kernel_rfl) (by kernel_rfl) (by kernel_rfl)
noncomputable def Tryd.c16_10 : Capsule := { k := 16, args := [.string ⟨#[48, 48, 48, 48, 49, 48, 49, 49]⟩], bs := [], sv := .pl (.bool true), os := [] }
theorem Tryd.c16_10_ok : IntrOk Tryd.prog (capI [] Tryd.c16_10) := cap_ok Tryd.tabOk (noI_ok _) (n := 300) (by kernel_rfl) (by kernel_rfl) (by kernel_rfl)
noncomputable def Tryd.c15_11 : Capsule := { k := 15, args := [.int .i64 11], bs := [], sv := .pl (.tuple #[.string ⟨#[48, 48, 48, 48, 49, 48, 49, 48]⟩, .int .i64 0]), os := [] }
theorem Tryd.c15_11_ok : IntrOk Tryd.prog (capI Tryd.tabs Tryd.c15_11) := cap_ok Tryd.tabOk Tryd.I3_ok (n := 300) (by kernel_rfl) (by kernel_rfl) (by kernel_rfl)
noncomputable def Tryd.c16_11 : Capsule := { k := 16, args := [.string ⟨#[48, 48, 48, 48, 49, 48, 49, 48]⟩], bs := [], sv := .pl (.bool true), os := [] }
theorem Tryd.c16_11_ok : IntrOk Tryd.prog (capI [] Tryd.c16_11) := cap_ok Tryd.tabOk (noI_ok _) (n := 300) (by kernel_rfl) (by kernel_rfl) (by kernel_rfl)
noncomputable def Tryd.c15_12 : Capsule := { k := 15, args := [.int .i64 12], bs := [], sv := .pl (.tuple #[.string ⟨#[48, 48, 48, 48, 49, 48, 48, 49]⟩, .int .i64 0]), os := [] }
theorem Tryd.c15_12_ok : IntrOk Tryd.prog (capI Tryd.tabs Tryd.c15_12) := cap_ok Tryd.tabOk Tryd.I3_ok (n := 300) (by kernel_rfl) (by kernel_rfl) (by kernel_rfl)
noncomputable def Tryd.c16_12 : Capsule := { k := 16, args := [.string ⟨#[48, 48, 48, 48, 49, 48, 48, 49]⟩], bs := [], sv := .pl (.bool true), os := [] }
theorem Tryd.c16_12_ok : IntrOk Tryd.prog (capI [] Tryd.c16_12) := cap_ok Tryd.tabOk (noI_ok _) (n := 300) (by kernel_rfl) (by kernel_rfl) (by kernel_rfl)
noncomputable def Tryd.c15_13 : Capsule := { k := 15, args := [.int .i64 13], bs := [], sv := .pl (.tuple #[.string ⟨#[48, 48, 48, 48, 49, 48, 48, 48]⟩, .int .i64 0]), os := [] }
theorem Tryd.c15_13_ok : IntrOk Tryd.prog (capI Tryd.tabs Tryd.c15_13) := cap_ok Tryd.tabOk Tryd.I3_ok (n := 300) (by kernel_rfl) (by kernel_rfl) (by kernel_rfl)
noncomputable def Tryd.c16_13 : Capsule := { k := 16, args := [.string ⟨#[48, 48, 48, 48, 49, 48, 48, 48]⟩], bs := [], sv := .pl (.bool true), os := [] }
theorem Tryd.c16_13_ok : IntrOk Tryd.prog (capI [] Tryd.c16_13) := cap_ok Tryd.tabOk (noI_ok _) (n := 300) (by kernel_rfl) (by kernel_rfl) (by kernel_rfl)
noncomputable def Tryd.c15_14 : Capsule := { k := 15, args := [.int .i64 14], bs := [], sv := .pl (.tuple #[.string ⟨#[48, 48, 48, 48, 48, 49, 49, 49]⟩, .int .i64 0]), os := [] }
theorem Tryd.c15_14_ok : IntrOk Tryd.prog (capI Tryd.tabs Tryd.c15_14) := cap_ok Tryd.tabOk Tryd.I3_ok (n := 300) (by kernel_rfl) (by kernel_rfl) (by kernel_rfl)
noncomputable def Tryd.c16_14 : Capsule := { k := 16, args := [.string ⟨#[48, 48, 48, 48, 48, 49, 49, 49]⟩], bs := [], sv := .pl (.bool true), os := [] }
theorem Tryd.c16_14_ok : IntrOk Tryd.prog (capI [] Tryd.c16_14) := cap_ok Tryd.tabOk (noI_ok _) (n := 300) (by kernel_rfl) (by kernel_rfl) (by kernel_rfl)
noncomputable def Tryd.c15_15 : Capsule := { k := 15, args := [.int .i64 15], bs := [], sv := .pl (.tuple #[.string ⟨#[48, 48, 48, 48, 48, 49, 49, 48]⟩, .int .i64 0]), os := [] }
theorem Tryd.c15_15_ok : IntrOk Tryd.prog (capI Tryd.tabs Tryd.c15_15) := cap_ok Tryd.tabOk Tryd.I3_ok (n := 300) (by kernel_rfl) (by kernel_rfl) (by kernel_rfl)
noncomputable def Tryd.c16_15 : Capsule := { k := 16, args := [.string ⟨#[48, 48, 48, 48, 48, 49, 49, 48]⟩], bs := [], sv := .pl (.bool true), os := [] }
theorem Tryd.c16_15_ok : IntrOk Tryd.prog (capI [] Tryd.c16_15) := cap_ok Tryd.tabOk (noI_ok _) (n := 300) (by kernel_rfl) (by kernel_rfl) (by kernel_rfl)
noncomputable def Tryd.c15_16 : Capsule := { k := 15, args := [.int .i64 16], bs := [], sv := .pl (.tuple #[.string ⟨#[48, 48, 48, 48, 48, 49, 48, 49, 49, 49]⟩, .int .i64 0]), os := [] }
theorem Tryd.c15_16_ok : IntrOk Tryd.prog (capI Tryd.tabs Tryd.c15_16) := cap_ok Tryd.tabOk Tryd.I3_ok (n := 300) (by kernel_rfl) (by kernel_rfl) (by kernel_rfl)
noncomputable def Tryd.c16_16 : Capsule := { k := 16, args := [.string ⟨#[48, 48, 48, 48, 48, 49, 48, 49, 49, 49]⟩], bs := [], sv := .pl (.bool true), os := [] }
theorem Tryd.c16_16_ok : IntrOk Tryd.prog (capI [] Tryd.c16_16) := cap_ok Tryd.tabOk (noI_ok _) (n := 300) (by kernel_rfl) (by kernel_rfl) (by kernel_rfl)
noncomputable def Tryd.c15_17 : Capsule := { k := 15, args := [.int .i64 17], bs := [], sv := .pl (.tuple #[.string ⟨#[48, 48, 48, 48, 48, 49, 48, 49, 49, 48]⟩, .int .i64 0]), os := [] }
theorem Tryd.c15_17_ok : IntrOk Tryd.prog (capI Tryd.tabs Tryd.c15_17) := cap_ok Tryd.tabOk Tryd.I3_ok (n := 300) (by kernel_rfl) (by kernel_rfl) (by kernel_rfl)
noncomputable def Tryd.c16_17 : Capsule := { k := 16, args := [.string ⟨#[48, 48, 48, 48, 48, 49, 48, 49, 49, 48]⟩], bs := [], sv := .pl (.bool true), os := [] }
theorem Tryd.c16_17_ok : IntrOk Tryd.prog (capI [] Tryd.c16_17) := cap_ok Tryd.tabOk (noI_ok _) (n := 300) (by kernel_rfl) (by kernel_rfl) (by kernel_rfl)
noncomputable def Tryd.c15_18 : Capsule := { k := 15, args := [.int .i64 18], bs := [], sv := .pl (.tuple #[.string ⟨#[48, 48, 48, 48, 48, 49, 48, 49, 48, 49]⟩, .int .i64 0]), os := [] }
theorem Tryd.c15_18_ok : IntrOk Tryd.prog (capI Tryd.tabs Tryd.c15_18) := cap_ok Tryd.tabOk Tryd.I3_ok (n := 300) (by kernel_rfl) (by kernel_rfl) (by kernel_rfl)
noncomputable def Tryd.c16_18 : Capsule := { k := 16, args := [.string ⟨#[48, 48, 48, 48, 48, 49, 48, 49, 48, 49]⟩], bs := [], sv := .pl (.bool true), os := [] }
theorem Tryd.c16_18_ok : IntrOk Tryd.prog (capI [] Tryd.c16_18) := cap_ok Tryd.tabOk (noI_ok _) (n := 300) (by kernel_rfl) (by kernel_rfl) (by kernel_rfl)
noncomputable def Tryd.c15_19 : Capsule := { k := 15, args := [.int .i64 19], bs := [], sv := .pl (.tuple #[.string ⟨#[48, 48, 48, 48, 48, 49, 48, 49, 48, 48]⟩, .int .i64 0]), os := [] }
theorem Tryd.c15_19_ok : IntrOk Tryd.prog (capI Tryd.tabs Tryd.c15_19) := cap_ok Tryd.tabOk Tryd.I3_ok (n := 300) (by kernel_rfl) (by kernel_rfl) (by kernel_rfl)
noncomputable def Tryd.c16_19 : Capsule := { k := 16, args := [.string ⟨#[48, 48, 48, 48, 48, 49, 48, 49, 48, 48]⟩], bs := [], sv := .pl (.bool true), os := [] }
theorem Tryd.c16_19_ok : IntrOk Tryd.prog (capI [] Tryd.c16_19) := cap_ok Tryd.tabOk (noI_ok _) (n := 300) (by kernel_rfl) (by kernel_rfl) (by kernel_rfl)
noncomputable def Tryd.c15_20 : Capsule := { k := 15, args := [.int .i64 20], bs := [], sv := .pl (.tuple #[.string ⟨#[48, 48, 48, 48, 48, 49, 48, 48, 49, 49]⟩, .int .i64 0]), os := [] }
theorem Tryd.c15_20_ok : IntrOk Tryd.prog (capI Tryd.tabs Tryd.c15_20) := cap_ok Tryd.tabOk Tryd.I3_ok (n := 300) (by kernel_rfl) (by kernel_rfl) (by kernel_rfl)
noncomputable def Tryd.c16_20 : Capsule := { k := 16, args := [.string ⟨#[48, 48, 48, 48, 48, 49, 48, 48, 49, 49]⟩], bs := [], sv := .pl (.bool true), os := [] }
theorem Tryd.c16_20_ok : IntrOk Tryd.prog (capI [] Tryd.c16_20) := cap_ok Tryd.tabOk (noI_ok _) (n := 300) (by kernel_rfl) (by kernel_rfl) (by kernel_rfl)
noncomputable def Tryd.c15_21 : Capsule := { k := 15, args := [.int .i64 21], bs := [], sv := .pl (.tuple #[.string ⟨#[48, 48, 48, 48, 48, 49, 48, 48, 49, 48]⟩, .int .i64 0]), os := [] }
theorem Tryd.c15_21_ok : IntrOk Tryd.prog (capI Tryd.tabs Tryd.c15_21) := cap_ok Tryd.tabOk Tryd.I3_ok (n := 300) (by kernel_rfl) (by kernel_rfl) (by kernel_rfl)
noncomputable def Tryd.c16_21 : Capsule := { k := 16, args := [.string ⟨#[48, 48, 48, 48, 48, 49, 48, 48, 49, 48]⟩], bs := [], sv := .pl (.bool true), os := [] }
theorem Tryd.c16_21_ok : IntrOk Tryd.prog (capI [] Tryd.c16_21) := cap_ok Tryd.tabOk (noI_ok _) (n := 300) (by kernel_rfl) (by kernel_rfl) (by kernel_rfl)
noncomputable def Tryd.c15_22 : Capsule := { k := 15, args := [.int .i64 22], bs := [], sv := .pl (.tuple #[.string ⟨#[48, 48, 48, 48, 48, 49, 48, 48, 48, 49, 49]⟩, .int .i64 0]), os := [] }
theorem Tryd.c15_22_ok : IntrOk Tryd.prog (capI Tryd.tabs Tryd.c15_22) := cap_ok Tryd.tabOk Tryd.I3_ok (n := 300) (by kernel_rfl) (by kernel_rfl) (by kernel_rfl)
noncomputable def Tryd.c16_22 : Capsule := { k := 16, args := [.string ⟨#[48, 48, 48, 48, 48, 49, 48, 48, 48, 49, 49]⟩], bs := [], sv := .pl (.bool true), os := [] }
theorem Tryd.c16_22_ok : IntrOk Tryd.prog (capI [] Tryd.c16_22) := cap_ok Tryd.tabOk (noI_ok _) (n := 300) (by kernel_rfl) (by kernel_rfl) (by kernel_rfl)
noncomputable def Tryd.c15_23 : Capsule := { k := 15, args := [.int .i64 23], bs := [], sv := .pl (.tuple #[.string ⟨#[48, 48, 48, 48, 48, 49, 48, 48, 48, 49, 48]⟩, .int .i64 0]), os := [] }
theorem Tryd.c15_23_ok : IntrOk Tryd.prog (capI Tryd.tabs Tryd.c15_23) := cap_ok Tryd.tabOk Tryd.I3_ok (n := 300) (by kernel_rfl) (by kernel_rfl) (by kernel_rfl)
noncomputable def Tryd.c16_23 : Capsule := { k := 16, args := [.string ⟨#[48, 48, 48, 48, 48, 49, 48, 48, 48, 49, 48]⟩], bs := [], sv := .pl (.bool true), os := [] }
theorem Tryd.c16_23_ok : IntrOk Tryd.prog (capI [] Tryd.c16_23) := cap_ok Tryd.tabOk (noI_ok _) (n := 300) (by kernel_rfl) (by kernel_rfl) (by kernel_rfl)
noncomputable def Tryd.c15_24 : Capsule := { k := 15, args := [.int .i64 24], bs := [], sv := .pl (.tuple #[.string ⟨#[48, 48, 48, 48, 48, 49, 48, 48, 48, 48, 49]⟩, .int .i64 0]), os := [] }
theorem Tryd.c15_24_ok : IntrOk Tryd.prog (capI Tryd.tabs Tryd.c15_24) := cap_ok Tryd.tabOk Tryd.I3_ok (n := 300) (by kernel_rfl) (by kernel_rfl) (by kernel_rfl)
noncomputable def Tryd.c16_24 : Capsule := { k := 16, args := [.string ⟨#[48, 48, 48, 48, 48, 49, 48, 48, 48, 48, 49]⟩], bs := [], sv := .pl (.bool true), os := [] }
theorem Tryd.c16_24_ok : IntrOk Tryd.prog (capI [] Tryd.c16_24) := cap_ok Tryd.tabOk (noI_ok _) (n := 300) (by kernel_rfl) (by kernel_rfl) (by kernel_rfl)
noncomputable def Tryd.c15_25 : Capsule := { k := 15, args := [.int .i64 25], bs := [], sv := .pl (.tuple #[.string ⟨#[48, 48, 48, 48, 48, 49, 48, 48, 48, 48, 48]⟩, .int .i64 0]), os := [] }
theorem Tryd.c15_25_ok : IntrOk Tryd.prog (capI Tryd.tabs Tryd.c15_25) := cap_ok Tryd.tabOk Tryd.I3_ok (n := 300) (by kernel_rfl) (by kernel_rfl) (by kernel_rfl)
noncomputable def Tryd.c16_25 : Capsule := { k := 16, args := [.string ⟨#[48, 48, 48, 48, 48, 49, 48, 48, 48, 48, 48]⟩], bs := [], sv := .pl (.bool true), os := [] }
theorem Tryd.c16_25_ok : IntrOk Tryd.prog (capI [] Tryd.c16_25) := cap_ok Tryd.tabOk (noI_ok _) (n := 300) (by kernel_rfl) (by kernel_rfl) (by kernel_rfl)
noncomputable def Tryd.c15_26 : Capsule := { k := 15, args := [.int .i64 26], bs := [], sv := .pl (.tuple #[.string ⟨#[48, 48, 48, 48, 48, 48, 49, 49, 49, 49, 49]⟩, .int .i64 0]), os := [] }
theorem Tryd.c15_26_ok : IntrOk Tryd.prog (capI Tryd.tabs Tryd.c15_26) := cap_ok Tryd.tabOk Tryd.I3_ok (n := 300) (by kernel_rfl) (by kernel_rfl) (by kernel_rfl)
noncomputable def Tryd.c16_26 : Capsule := { k := 16, args := [.string ⟨#[48, 48, 48, 48, 48, 48, 49, 49, 49, 49, 49]⟩], bs := [], sv := .pl (.bool true), os := [] }
theorem Tryd.c16_26_ok : IntrOk Tryd.prog (capI [] Tryd.c16_26) := cap_ok Tryd.tabOk (noI_ok _) (n := 300) (by kernel_rfl) (by kernel_rfl) (by kernel_rfl)
noncomputable def Tryd.c15_27 : Capsule := { k := 15, args := [.int .i64 27], bs := [], sv := .pl (.tuple #[.string ⟨#[48, 48, 48, 48, 48, 48, 49, 49, 49, 49, 48]⟩, .int .i64 0]), os := [] }
theorem Tryd.c15_27_ok : IntrOk Tryd.prog (capI Tryd.tabs Tryd.c15_27) := cap_ok Tryd.tabOk Tryd.I3_ok (n := 300) (by kernel_rfl) (by kernel_rfl) (by kernel_rfl)
noncomputable def Tryd.c16_27 : Capsule := { k := 16, args := [.string ⟨#[48, 48, 48, 48, 48, 48, 49, 49, 49, 49, 48]⟩], bs := [], sv := .pl (.bool true), os := [] }
theorem Tryd.c16_27_ok : IntrOk Tryd.prog (capI [] Tryd.c16_27) := cap_ok Tryd.tabOk (noI_ok _) (n := 300) (by kernel_rfl) (by kernel_rfl) (by kernel_rfl)
noncomputable def Tryd.c15_28 : Capsule := { k := 15, args := [.int .i64 28], bs := [], sv := .pl (.tuple #[.string ⟨#[48, 48, 48, 48, 48, 48, 49, 49, 49, 48, 49]⟩, .int .i64 0]), os := [] }
theorem Tryd.c15_28_ok : IntrOk Tryd.prog (capI Tryd.tabs Tryd.c15_28) := cap_ok Tryd.tabOk Tryd.I3_ok (n := 300) (by kernel_rfl) (by kernel_rfl) (by kernel_rfl)
noncomputable def Tryd.c16_28 : Capsule := { k := 16, args := [.string ⟨#[48, 48, 48, 48, 48, 48, 49, 49, 49, 48, 49]⟩], bs := [], sv := .pl (.bool true), os := [] }
theorem Tryd.c16_28_ok : IntrOk Tryd.prog (capI [] Tryd.c16_28) := cap_ok Tryd.tabOk (noI_ok _) (n := 300) (by kernel_rfl) (by kernel_rfl) (by kernel_rfl)
noncomputable def Tryd.c15_29 : Capsule := { k := 15, args := [.int .i64 29], bs := [], sv := .pl (.tuple #[.string ⟨#[48, 48, 48, 48, 48, 48, 49, 49, 49, 48, 48]⟩, .int .i64 0]), os := [] }
theorem Tryd.c15_29_ok : IntrOk Tryd.prog (capI Tryd.tabs Tryd.c15_29) := cap_ok Tryd.tabOk Tryd.I3_ok (n := 300) (by kernel_rfl) (by kernel_rfl) (by kernel_rfl)
noncomputable def Tryd.c16_29 : Capsule := { k := 16, args := [.string ⟨#[48, 48, 48, 48, 48, 48, 49, 49, 49, 48, 48]⟩], bs := [], sv := .pl (.bool true), os := [] }
theorem Tryd.c16_29_ok : IntrOk Tryd.prog (capI [] Tryd.c16_29) := cap_ok Tryd.tabOk (noI_ok _) (n := 300) (by kernel_rfl) (by kernel_rfl) (by kernel_rfl)
noncomputable def Tryd.c15_30 : Capsule := { k := 15, args := [.int .i64 30], bs := [], sv := .pl (.tuple #[.string ⟨#[48, 48, 48, 48, 48, 48, 49, 49, 48, 49, 49]⟩, .int .i64 0]), os := [] }
theorem Tryd.c15_30_ok : IntrOk Tryd.prog (capI Tryd.tabs Tryd.c15_30) := cap_ok Tryd.tabOk Tryd.I3_ok (n := 300) (by kernel_rfl) (by kernel_rfl) (by kernel_rfl)
noncomputable def Tryd.c16_30 : Capsule := { k := 16, args := [.string ⟨#[48, 48, 48, 48, 48, 48, 49, 49, 48, 49, 49]⟩], bs := [], sv := .pl (.bool true), os := [] }
theorem Tryd.c16_30_ok : IntrOk Tryd.prog (capI [] Tryd.c16_30) := cap_ok Tryd.tabOk (noI_ok _) (n := 300) (by kernel_rfl) (by kernel_rfl) (by kernel_rfl)
noncomputable def Tryd.c15_31 : Capsule := { k := 15, args := [.int .i64 31], bs := [], sv := .pl (.tuple #[.string ⟨#[48, 48, 48, 48, 48, 48, 49, 49, 48, 49, 48]⟩, .int .i64 0]), os := [] }
theorem Tryd.c15_31_ok : IntrOk Tryd.prog (capI Tryd.tabs Tryd.c15_31) := cap_ok Tryd.tabOk Tryd.I3_ok (n := 300) (by kernel_rfl) (by kernel_rfl) (by kernel_rfl)
noncomputable def Tryd.c16_31 : Capsule := { k := 16, args := [.string ⟨#[48, 48, 48, 48, 48, 48, 49, 49, 48, 49, 48]⟩], bs := [], sv := .pl (.bool true), os := [] }
theorem Tryd.c16_31_ok : IntrOk Tryd.prog (capI [] Tryd.c16_31) := cap_ok Tryd.tabOk (noI_ok _) (n := 300) (by kernel_rfl) (by kernel_rfl) (by kernel_rfl)
noncomputable def Tryd.c15_32 : Capsule := { k := 15, args := [.int .i64 32], bs := [], sv := .pl (.tuple #[.string ⟨#[48, 48, 48, 48, 48, 48, 49, 49, 48, 48, 49]⟩, .int .i64 0]), os := [] }
theorem Tryd.c15_32_ok : IntrOk Tryd.prog (capI Tryd.tabs Tryd.c15_32) := cap_ok Tryd.tabOk Tryd.I3_ok (n := 300) (by kernel_rfl) (by kernel_rfl) (by kernel_rfl)
noncomputable def Tryd.c16_32 : Capsule := { k := 16, args := [.string ⟨#[48, 48, 48, 48, 48, 48, 49, 49, 48, 48, 49]⟩], bs := [], sv := .pl (.bool true), os := [] }
theorem Tryd.c16_32_ok : IntrOk Tryd.prog (capI [] Tryd.c16_32) := cap_ok Tryd.tabOk (noI_ok _) (n := 300) (by kernel_rfl) (by kernel_rfl) (by kernel_rfl)
noncomputable def Tryd.c15_33 : Capsule := { k := 15, args := [.int .i64 33], bs := [], sv := .pl (.tuple #[.string ⟨#[48, 48, 48, 48, 48, 48, 49, 49, 48, 48, 48]⟩, .int .i64 0]), os := [] }
theorem Tryd.c15_33_ok : IntrOk Tryd.prog (capI Tryd.tabs Tryd.c15_33) := cap_ok Tryd.tabOk Tryd.I3_ok (n := 300) (by kernel_rfl) (by kernel_rfl) (by kernel_rfl)
noncomputable def Tryd.c16_33 : Capsule := { k := 16, args := [.string ⟨#[48, 48, 48, 48, 48, 48, 49, 49, 48, 48, 48]⟩], bs := [], sv := .pl (.bool true), os := [] }
theorem Tryd.c16_33_ok : IntrOk Tryd.prog (capI [] Tryd.c16_33) := cap_ok Tryd.tabOk (noI_ok _) (n := 300) (by kernel_rfl) (by kernel_rfl) (by kernel_rfl)
noncomputable def Tryd.c15 : List Capsule := [Tryd.c15_0, Tryd.c15_1, Tryd.c15_2, Tryd.c15_3, Tryd.c15_4, Tryd.c15_5, Tryd.c15_6, Tryd.c15_7, Tryd.c15_8, Tryd.c15_9, Tryd.c15_10, Tryd.c15_11, Tryd.c15_12, Tryd.c15_13, Tryd.c15_14, Tryd.c15_15, Tryd.c15_16, Tryd.c15_17, Tryd.c15_18, Tryd.c15_19, Tryd.c15_20, Tryd.c15_21, Tryd.c15_22, Tryd.c15_23, Tryd.c15_24, Tryd.c15_25, Tryd.c15_26, Tryd.c15_27, Tryd.c15_28, Tryd.c15_29, Tryd.c15_30, Tryd.c15_31, Tryd.c15_32, Tryd.c15_33]
theorem Tryd.c15_ok : IntrOk Tryd.prog (capsI Tryd.tabs 15 Tryd.c15) := capsI_ok fun c hc => by
  simp only [Tryd.c15, List.mem_cons, List.not_mem_nil, or_false] at hc
  rcases hc with rfl | rfl | rfl | rfl | rfl | rfl | rfl | rfl | rfl | rfl | rfl | rfl | rfl | rfl | rfl | rfl | rfl | rfl | rfl | rfl | rfl | rfl | rfl | rfl | rfl | rfl | rfl | rfl | rfl | rfl | rfl | rfl | rfl | rfl
  · exact Tryd.c15_0_ok
  · exact Tryd.c15_1_ok
  · exact Tryd.c15_2_ok
  · exact Tryd.c15_3_ok
  · exact Tryd.c15_4_ok
  · exact Tryd.c15_5_ok
  · exact Tryd.c15_6_ok
  · exact Tryd.c15_7_ok
  · exact Tryd.c15_8_ok
  · exact Tryd.c15_9_ok
  · exact Tryd.c15_10_ok
  · exact Tryd.c15_11_ok
  · exact Tryd.c15_12_ok
  · exact Tryd.c15_13_ok
  · exact Tryd.c15_14_ok
  · exact Tryd.c15_15_ok
  · exact Tryd.c15_16_ok
  · exact Tryd.c15_17_ok
  · exact Tryd.c15_18_ok
  · exact Tryd.c15_19_ok
  · exact Tryd.c15_20_ok
  · exact Tryd.c15_21_ok
  · exact Tryd.c15_22_ok
  · exact Tryd.c15_23_ok
  · exact Tryd.c15_24_ok
  · exact Tryd.c15_25_ok
  · exact Tryd.c15_26_ok
  · exact Tryd.c15_27_ok
  · exact Tryd.c15_28_ok
  · exact Tryd.c15_29_ok
  · exact Tryd.c15_30_ok
  · exact Tryd.c15_31_ok
  · exact Tryd.c15_32_ok
  · exact Tryd.c15_33_ok
noncomputable def Tryd.c16 : List Capsule := [Tryd.c16_0, Tryd.c16_1, Tryd.c16_2, Tryd.c16_3, Tryd.c16_4, Tryd.c16_5, Tryd.c16_6, Tryd.c16_7, Tryd.c16_8, Tryd.c16_9, Tryd.c16_10, Tryd.c16_11, Tryd.c16_12, Tryd.c16_13, Tryd.c16_14, Tryd.c16_15, Tryd.c16_16, Tryd.c16_17, Tryd.c16_18, Tryd.c16_19, Tryd.c16_20, Tryd.c16_21, Tryd.c16_22, Tryd.c16_23, Tryd.c16_24, Tryd.c16_25, Tryd.c16_26, Tryd.c16_27, Tryd.c16_28, Tryd.c16_29, Tryd.c16_30, Tryd.c16_31, Tryd.c16_32, Tryd.c16_33]
theorem Tryd.c16_ok : IntrOk Tryd.prog (capsI [] 16 Tryd.c16) := capsI_ok fun c hc => by
  simp only [Tryd.c16, List.mem_cons, List.not_mem_nil, or_false] at hc
  rcases hc with rfl | rfl | rfl | rfl | rfl | rfl | rfl | rfl | rfl | rfl | rfl | rfl | rfl | rfl | rfl | rfl | rfl | rfl | rfl | rfl | rfl | rfl | rfl | rfl | rfl | rfl | rfl | rfl | rfl | rfl | rfl | rfl | rfl | rfl
  · exact Tryd.c16_0_ok
  · exact Tryd.c16_1_ok
  · exact Tryd.c16_2_ok
  · exact Tryd.c16_3_ok
  · exact Tryd.c16_4_ok
  · exact Tryd.c16_5_ok
  · exact Tryd.c16_6_ok
  · exact Tryd.c16_7_ok
  · exact Tryd.c16_8_ok
  · exact Tryd.c16_9_ok
  · exact Tryd.c16_10_ok
  · exact Tryd.c16_11_ok
  · exact Tryd.c16_12_ok
  · exact Tryd.c16_13_ok
  · exact Tryd.c16_14_ok
  · exact Tryd.c16_15_ok
  · exact Tryd.c16_16_ok
  · exact Tryd.c16_17_ok
  · exact Tryd.c16_18_ok
  · exact Tryd.c16_19_ok
  · exact Tryd.c16_20_ok
  · exact Tryd.c16_21_ok
  · exact Tryd.c16_22_ok
  · exact Tryd.c16_23_ok
  · exact Tryd.c16_24_ok
  · exact Tryd.c16_25_ok
  · exact Tryd.c16_26_ok
  · exact Tryd.c16_27_ok
  · exact Tryd.c16_28_ok
  · exact Tryd.c16_29_ok
  · exact Tryd.c16_30_ok
  · exact Tryd.c16_31_ok
  · exact Tryd.c16_32_ok
  · exact Tryd.c16_33_ok
noncomputable def Tryd.I4 : Intr := orI Tryd.I3 (orI (capsI Tryd.tabs 15 Tryd.c15) (capsI [] 16 Tryd.c16))
theorem Tryd.I4_ok : IntrOk Tryd.prog Tryd.I4 := Tryd.I3_ok.or (Tryd.c15_ok.or Tryd.c16_ok)
end Go.Proofs
