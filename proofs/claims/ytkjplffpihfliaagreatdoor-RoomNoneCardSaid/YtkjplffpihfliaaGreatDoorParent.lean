/- The contracts of strings.LastIndex of a slash and of room.parent. -/
import Derived.Test.YtkjplffpihfliaaGreatDoorValid
import Derived.Shelf.Path.Small
namespace Go.Proofs.YtkjplffpihfliaaGreatDoor
open Go.RowKit Go.Proofs.YtkjplffpihfliaaGreatDoorW.PrintWords PAll

def renP45 : Go.Shelf.Ren := ⟨fun | 45 => 122 | _ => 0, fun | 3 => 3 | 4 => 4 | 5 => 5 | 9 => 9 | _ => 0, fun _ => 0⟩
theorem laysP45 : Go.Proofs.Lays.p45 Tryz.prog renP45 := {
  mixed := by kernel_rfl
  f45 := Tryz.func122.trans (congrArg some (by kernel_rfl))
  t3 := Tryz.underlying3
  a3 := Tryz.isAgg3
  z3 := Tryz.sizeOf3
  v3 := Tryz.zeroValue3
  t4 := Tryz.underlying4
  a4 := Tryz.isAgg4
  z4 := Tryz.sizeOf4
  v4 := Tryz.zeroValue4
  t5 := Tryz.underlying5
  a5 := Tryz.isAgg5
  z5 := Tryz.sizeOf5
  v5 := Tryz.zeroValue5
  t9 := Tryz.underlying9
  a9 := Tryz.isAgg9
  z9 := Tryz.sizeOf9
  v9 := Tryz.zeroValue9 }
/-- The place of the last slash, or -1. -/
def lastSlash (s : ByteArray) : Int := Lib.Pa.lastIndexByte s.data.toList 47
theorem lastByte_any (s : ByteArray) (w : World) (hs : s.size ≤ 100000) : Calls Tryz.prog 122 #[.string s, .int .u8 47] w fun e w' => e = .returned (.int .i64 (lastSlash s)) ∧ w' = w :=
  Any.bytealg_LastIndexByteString laysP45 s 47 w (by omega)

theorem lastIdx_range (l : List UInt8) (c : UInt8) : ∀ k : Nat, -1 ≤ Lib.Pa.lastIdx l c k ∧ Lib.Pa.lastIdx l c k < k
  | 0 => ⟨Int.le_refl _, by show (-1 : Int) < 0; decide⟩
  | k + 1 => by
    have h := lastIdx_range l c k
    unfold Lib.Pa.lastIdx
    split
    · constructor <;> omega
    · constructor <;> omega
theorem lastSlash_range (s : ByteArray) : -1 ≤ lastSlash s ∧ lastSlash s < s.size := by
  have h := lastIdx_range s.data.toList 47 s.data.toList.length
  have e : s.data.toList.length = s.size := by simp
  rw [e] at h
  unfold lastSlash Lib.Pa.lastIndexByte
  rw [e]
  exact h
set_option maxRecDepth 100000 in
theorem lastIndex_any (s : ByteArray) (w : World) (hs : s.size ≤ 100000) : Calls Tryz.prog 65 #[.string s, .string slash] w fun e w' => e = .returned (.int .i64 (lastSlash s)) ∧ w' = w := by
  have h := lastByte_any s w hs
  go_enter Tryz.func65, Tryz.ntmps65
  go_wp2_with (go_at_call 122; refine h.mono ?_; rintro e w ⟨rfl, rfl⟩)
  go_ret
  exact ⟨rfl, rfl⟩
/-- The path of the directory in which something lies. -/
def parentOf (s : ByteArray) : ByteArray := s.extract 0 (lastSlash s).toNat
set_option maxRecDepth 100000 in
theorem parent_any (s : ByteArray) (w : World) (hs : s.size ≤ 100000) : Calls Tryz.prog 60 #[.string s] w fun e w' => e = .returned (.string (parentOf s)) ∧ w' = w := by
  have h := lastIndex_any s w hs
  obtain ⟨h1, h2⟩ := lastSlash_range s
  obtain ⟨x, hx⟩ : ∃ x, x = lastSlash s := ⟨_, rfl⟩
  have HX : Aside0 (parentOf s = s.extract 0 x.toNat) := ⟨by unfold parentOf; rw [← hx]⟩
  rw [← hx] at h h1 h2
  clear hx
  go_enter Tryz.func60, Tryz.ntmps60
  go_wp2_with (go_at_call 65; refine h.mono ?_; rintro e w ⟨rfl, rfl⟩)
  go_ret
  exact ⟨by rw [HX.out, show (max 0 x).toNat = x.toNat by omega]; rfl, rfl⟩
end Go.Proofs.YtkjplffpihfliaaGreatDoor
