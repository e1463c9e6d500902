/- The contract of bytes.Clone. -/
import Derived.Test.YtkjplffpihfliaaGreatDoorBuf
import Derived.WalkSpells
namespace Go.Proofs.YtkjplffpihfliaaGreatDoor
open Go.RowKit Go.Proofs.YtkjplffpihfliaaGreatDoorW.PrintWords PAll

theorem buf_empty {W : World} {base : Nat} (hb : base ≤ W.heap.size) : Buf (W.alloc (.cells #[] 5)) base (.slice (some ⟨W.heap.size, 0, none⟩) 0 0) [] :=
  buf_of_own (World.ownsRow_made W #[] 0 hb (by decide) rfl)
theorem C_none {w : World} {n : Nat} {xs : List Int} (h : Kd.C (Kd.int .u8) w none n xs) : xs = [] := by
  have h' : ReadsOf (Value.int .u8) 0 w none n xs := Kd.reads_of_C h
  cases xs with
  | nil => rfl
  | cons x l =>
    obtain ⟨ad, e, _⟩ := h'.2.2 (by rw [← h'.1]; simp)
    cases e

theorem clone_any (w : World) (A : Option Addr) (c : Nat) (xs : List Int) (h : Kd.C (Kd.int .u8) w A xs.length xs) (hl : xs.length ≤ 140737488355328) :
    Calls Tryz.prog 48 #[.slice A xs.length c] w fun e w' => ∃ v', e = .returned v' ∧ Buf w' w.heap.size v' xs ∧ Below w.heap.size w w' := by
  cases A with
  | none =>
    obtain rfl := C_none h
    have hq := Lib.run_eql_slice_nil (P := Tryz.prog) w 31 5 none 0 c 0 0 Tryz.underlying31
    go_enter Tryz.func48, Tryz.ntmps48
    go_wp2
    go_ret
    exact ⟨_, rfl, Kd.R_nil _ _ _ _ _, Below.refl _ _⟩
  | some a =>
    have hq := Lib.run_eql_slice_nil (P := Tryz.prog) w 31 5 (some a) xs.length c 0 0 Tryz.underlying31
    go_enter Tryz.func48, Tryz.ntmps48
    go_wp2_with (at_builtin; refine buf_appendN (w0 := w) rfl (.tmp 5) (.tmp 6) rfl _ [] xs (some a) xs.length c rfl rfl rfl (buf_empty (Nat.le_refl _)) (C_old h (below_alloc (Below.refl _ _) _)) (below_alloc (Below.refl _ _) _) ?hl ?_; (case hl => simp; omega); intro v1 w1 hb hB _)
    go_ret
    exact ⟨_, rfl, hb, hB⟩
end Go.Proofs.YtkjplffpihfliaaGreatDoor
