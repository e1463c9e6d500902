/- slices.SortFunc on one element: nothing is done, nothing is asked. -/
import Derived.Test.YtkjplffpihfliaaGreatDoorArena
import Derived.Test.YtkjplffpihfliaaGreatDoorShLen
namespace Go.Proofs.YtkjplffpihfliaaGreatDoor
open Go.RowKit Go.Proofs.YtkjplffpihfliaaGreatDoorW.PrintWords PAll

set_option maxRecDepth 100000 in
theorem ins1_E (w : World) (a : Option Addr) (cap : Nat) (f : Value) : Calls Tryz.prog 169 #[.slice a 1 cap, .int .i64 0, .int .i64 1, f] w fun e w' => e = .returned (.tuple #[]) ∧ w' = w := by
  go_enter Tryz.func169, Tryz.ntmps169
  go_wp2
  go_loopg [8] 0 (fun kq v8 w' => v8 = .int .i64 1 ∧ w = w')
  case atStart => exact ⟨rfl, rfl⟩
  case round =>
    obtain ⟨rfl, rfl⟩ := hrel
    go_wp2
    first | (refine bodyPost_ret (results_none rfl _ _ _) rfl ?_) | go_end0
    exact ⟨rfl, rfl⟩
set_option maxRecDepth 100000 in
theorem ins1_S (w : World) (a : Option Addr) (cap : Nat) (f : Value) : Calls Tryz.prog 193 #[.slice a 1 cap, .int .i64 0, .int .i64 1, f] w fun e w' => e = .returned (.tuple #[]) ∧ w' = w := by
  go_enter Tryz.func193, Tryz.ntmps193
  go_wp2
  go_loopg [8] 0 (fun kq v8 w' => v8 = .int .i64 1 ∧ w = w')
  case atStart => exact ⟨rfl, rfl⟩
  case round =>
    obtain ⟨rfl, rfl⟩ := hrel
    go_wp2
    first | (refine bodyPost_ret (results_none rfl _ _ _) rfl ?_) | go_end0
    exact ⟨rfl, rfl⟩
set_option maxRecDepth 100000 in
set_option maxHeartbeats 1000000 in
theorem pdq1_E (w : World) (a : Option Addr) (cap : Nat) (k : Int) (f : Value) : Calls Tryz.prog 129 #[.slice a 1 cap, .int .i64 0, .int .i64 1, .int .i64 k, f] w fun e w' => e = .returned (.tuple #[]) ∧ w' = w := by
  have h := ins1_E w a cap f
  go_enter Tryz.func129, Tryz.ntmps129
  go_wp2
  go_loopg [1, 2, 3] 0 (fun kq v1 v2 v3 w' => v1 = .int .i64 0 ∧ v2 = .int .i64 1 ∧ v3 = .int .i64 k ∧ w = w')
  case atStart => exact ⟨rfl, rfl, rfl, rfl⟩
  case round =>
    obtain ⟨rfl, rfl, rfl, rfl⟩ := hrel
    go_wp2_with (go_at_call 169; refine h.mono ?_; rintro e w ⟨rfl, rfl⟩)
    first | (refine bodyPost_ret (results_none rfl _ _ _) rfl ?_) | go_end0
    exact ⟨rfl, rfl⟩
set_option maxRecDepth 100000 in
set_option maxHeartbeats 1000000 in
theorem pdq1_S (w : World) (a : Option Addr) (cap : Nat) (k : Int) (f : Value) : Calls Tryz.prog 167 #[.slice a 1 cap, .int .i64 0, .int .i64 1, .int .i64 k, f] w fun e w' => e = .returned (.tuple #[]) ∧ w' = w := by
  have h := ins1_S w a cap f
  go_enter Tryz.func167, Tryz.ntmps167
  go_wp2
  go_loopg [1, 2, 3] 0 (fun kq v1 v2 v3 w' => v1 = .int .i64 0 ∧ v2 = .int .i64 1 ∧ v3 = .int .i64 k ∧ w = w')
  case atStart => exact ⟨rfl, rfl, rfl, rfl⟩
  case round =>
    obtain ⟨rfl, rfl, rfl, rfl⟩ := hrel
    go_wp2_with (go_at_call 193; refine h.mono ?_; rintro e w ⟨rfl, rfl⟩)
    first | (refine bodyPost_ret (results_none rfl _ _ _) rfl ?_) | go_end0
    exact ⟨rfl, rfl⟩
set_option maxRecDepth 100000 in
theorem sort1_E (w : World) (a : Option Addr) (cap : Nat) (f : Value) : Calls Tryz.prog 78 #[.slice a 1 cap, f] w fun e w' => e = .returned (.tuple #[]) ∧ w' = w := by
  have h := fun k => pdq1_E w a cap k f
  have hl := Tryz.bits_Len 1 w (by decide) (by decide)
  go_enter Tryz.func78, Tryz.ntmps78
  go_wp2_with (first | (go_at_call 130; refine hl.mono ?_; rintro e w ⟨rfl, rfl⟩) | (go_at_call 129; refine (h _).mono ?_; rintro e w ⟨rfl, rfl⟩))
  go_end0
  exact ⟨rfl, rfl⟩
set_option maxRecDepth 100000 in
theorem sort1_S (w : World) (a : Option Addr) (cap : Nat) (f : Value) : Calls Tryz.prog 125 #[.slice a 1 cap, f] w fun e w' => e = .returned (.tuple #[]) ∧ w' = w := by
  have h := fun k => pdq1_S w a cap k f
  have hl := Tryz.bits_Len 1 w (by decide) (by decide)
  go_enter Tryz.func125, Tryz.ntmps125
  go_wp2_with (first | (go_at_call 130; refine hl.mono ?_; rintro e w ⟨rfl, rfl⟩) | (go_at_call 167; refine (h _).mono ?_; rintro e w ⟨rfl, rfl⟩))
  go_end0
  exact ⟨rfl, rfl⟩
end Go.Proofs.YtkjplffpihfliaaGreatDoor
