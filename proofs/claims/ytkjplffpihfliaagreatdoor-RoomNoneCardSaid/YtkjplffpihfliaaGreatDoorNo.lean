/- What the operations do on nil, and on what no function has returned: nothing. -/
import Derived.Test.YtkjplffpihfliaaGreatDoorArena
namespace Go.Proofs.YtkjplffpihfliaaGreatDoor
open Go.RowKit Go.Proofs.YtkjplffpihfliaaGreatDoorW.PrintWords PAll

/-- A pointer to no real Row. -/
def NoRow (w : World) (p : Option Addr) : Prop := ∀ W, Below w.heap.size w W → Calls Tryz.prog 46 #[.pointer p] W fun e w' => e = .returned (.bool false) ∧ w' = W
/-- A pointer to no real Arena. -/
def NoArena (w : World) (p : Option Addr) : Prop := ∀ W, Below w.heap.size w W → Calls Tryz.prog 66 #[.pointer p] W fun e w' => e = .returned (.bool false) ∧ w' = W
/-- A pointer to no real Tree. -/
def NoTree (w : World) (p : Option Addr) : Prop := ∀ W, Below w.heap.size w W → Calls Tryz.prog 49 #[.pointer p] W fun e w' => e = .returned (.bool false) ∧ w' = W
theorem noRow_none (w : World) : NoRow w none := fun W _ => row_real_none W
theorem noArena_none (w : World) : NoArena w none := fun W _ => arena_real_none W
theorem noTree_none (w : World) : NoTree w none := fun W _ => tree_real_none W
theorem noRow_zero {w : World} {g : Nat} (h : w.cell? ⟨g, 0, none⟩ = some (.bool false)) : NoRow w (some ⟨g, 0, none⟩) := fun W hB => by
  have c0 : W.cell? ⟨g, 0, none⟩ = some (.bool false) := (hB.cell (World.block_lt_of_cell? _ _ h)).trans h
  clear h hB
  go_enter Tryz.func46, Tryz.ntmps46
  go_wp2
  go_ret
  exact ⟨rfl, rfl⟩
theorem noTree_zero {w : World} {g : Nat} (h : w.cell? ⟨g, 0, none⟩ = some (.bool false)) : NoTree w (some ⟨g, 0, none⟩) := fun W hB => by
  have c0 : W.cell? ⟨g, 0, none⟩ = some (.bool false) := (hB.cell (World.block_lt_of_cell? _ _ h)).trans h
  clear h hB
  go_enter Tryz.func49, Tryz.ntmps49
  go_wp2
  go_ret
  exact ⟨rfl, rfl⟩
theorem noArena_zero {w : World} {g : Nat} (h : w.cell? ⟨g, 1, none⟩ = some (.int .i64 0)) : NoArena w (some ⟨g, 0, none⟩) := fun W hB => by
  have c0 : W.cell? ⟨g, 1, none⟩ = some (.int .i64 0) := (hB.cell (World.block_lt_of_cell? _ _ h)).trans h
  clear h hB
  go_enter Tryz.func66, Tryz.ntmps66
  go_wp2
  go_ret
  exact ⟨rfl, rfl⟩
theorem rowInsert_no (w : World) (p : Option Addr) (i : Int) (A : Option Addr) (n : Nat) (c : Nat) (h : NoRow w p) : Calls Tryz.prog 11 #[.pointer p, .int .i64 i, .slice A n c] w fun e w' => e = .returned (.int .i64 1) ∧ Below w.heap.size w w' := by
  have HN := Aside0.mk h
  clear h
  go_enter Tryz.func11, Tryz.ntmps11
  go_wp2_with (go_at_call 46; refine (HN.out _ (Below.refl _ _)).mono ?_; rintro e w9 ⟨rfl, hw⟩; cases hw)
  go_ret
  exact ⟨rfl, Below.refl _ _⟩
theorem rowRemove_no (w : World) (p : Option Addr) (i : Int) (h : NoRow w p) : Calls Tryz.prog 19 #[.pointer p, .int .i64 i] w fun e w' => e = .returned (.int .i64 1) ∧ Below w.heap.size w w' := by
  have HN := Aside0.mk h
  clear h
  go_enter Tryz.func19, Tryz.ntmps19
  go_wp2_with (go_at_call 46; refine (HN.out _ (Below.refl _ _)).mono ?_; rintro e w9 ⟨rfl, hw⟩; cases hw)
  go_ret
  exact ⟨rfl, Below.refl _ _⟩
theorem rowLen_no (w : World) (p : Option Addr)  (h : NoRow w p) : Calls Tryz.prog 17 #[.pointer p] w fun e w' => e = .returned (.int .i64 0) ∧ Below w.heap.size w w' := by
  have HN := Aside0.mk h
  clear h
  go_enter Tryz.func17, Tryz.ntmps17
  go_wp2_with (go_at_call 46; refine (HN.out _ (Below.refl _ _)).mono ?_; rintro e w9 ⟨rfl, hw⟩; cases hw)
  go_ret
  exact ⟨rfl, Below.refl _ _⟩
theorem rowCells_no (w : World) (p : Option Addr)  (h : NoRow w p) : Calls Tryz.prog 31 #[.pointer p] w fun e w' => e = .returned (.slice none 0 0) ∧ Below w.heap.size w w' := by
  have HN := Aside0.mk h
  clear h
  go_enter Tryz.func31, Tryz.ntmps31
  go_wp2_with (go_at_call 46; refine (HN.out _ (Below.refl _ _)).mono ?_; rintro e w9 ⟨rfl, hw⟩; cases hw)
  go_ret
  exact ⟨rfl, Below.refl _ _⟩
theorem rowImage_no (w : World) (p : Option Addr)  (h : NoRow w p) : Calls Tryz.prog 15 #[.pointer p] w fun e w' => e = .returned (.slice none 0 0) ∧ Below w.heap.size w w' := by
  have HN := Aside0.mk h
  clear h
  go_enter Tryz.func15, Tryz.ntmps15
  go_wp2_with (go_at_call 46; refine (HN.out _ (Below.refl _ _)).mono ?_; rintro e w9 ⟨rfl, hw⟩; cases hw)
  go_ret
  exact ⟨rfl, Below.refl _ _⟩
theorem arenaPut_no (w : World) (p : Option Addr) (s : ByteArray) (A : Option Addr) (n : Nat) (c : Nat) (h : NoArena w p) : Calls Tryz.prog 32 #[.pointer p, .string s, .slice A n c] w fun e w' => e = .returned (.int .i64 1) ∧ Below w.heap.size w w' := by
  have HN := Aside0.mk h
  clear h
  go_enter Tryz.func32, Tryz.ntmps32
  go_wp2_with (go_at_call 66; refine (HN.out _ (Below.refl _ _)).mono ?_; rintro e w9 ⟨rfl, hw⟩; cases hw)
  go_ret
  exact ⟨rfl, Below.refl _ _⟩
theorem arenaDrop_no (w : World) (p : Option Addr) (s : ByteArray) (h : NoArena w p) : Calls Tryz.prog 33 #[.pointer p, .string s] w fun e w' => e = .returned (.int .i64 1) ∧ Below w.heap.size w w' := by
  have HN := Aside0.mk h
  clear h
  go_enter Tryz.func33, Tryz.ntmps33
  go_wp2_with (go_at_call 66; refine (HN.out _ (Below.refl _ _)).mono ?_; rintro e w9 ⟨rfl, hw⟩; cases hw)
  go_ret
  exact ⟨rfl, Below.refl _ _⟩
theorem arenaGet_no (w : World) (p : Option Addr) (s : ByteArray) (h : NoArena w p) : Calls Tryz.prog 29 #[.pointer p, .string s] w fun e w' => e = .returned (.tuple #[.slice none 0 0, .int .i64 3]) ∧ Below w.heap.size w w' := by
  have HN := Aside0.mk h
  clear h
  go_enter Tryz.func29, Tryz.ntmps29
  go_wp2_with (go_at_call 66; refine (HN.out _ (Below.refl _ _)).mono ?_; rintro e w9 ⟨rfl, hw⟩; cases hw)
  go_ret2
  exact ⟨rfl, Below.refl _ _⟩
theorem arenaPlaces_no (w : World) (p : Option Addr)  (h : NoArena w p) : Calls Tryz.prog 34 #[.pointer p] w fun e w' => e = .returned (.slice none 0 0) ∧ Below w.heap.size w w' := by
  have HN := Aside0.mk h
  clear h
  go_enter Tryz.func34, Tryz.ntmps34
  go_wp2_with (go_at_call 66; refine (HN.out _ (below_alloc (Below.refl _ _) _)).mono ?_; rintro e w9 ⟨rfl, hw⟩; cases hw)
  go_ret
  exact ⟨rfl, below_alloc (Below.refl _ _) _⟩
theorem arenaBytes_no (w : World) (p : Option Addr)  (h : NoArena w p) : Calls Tryz.prog 35 #[.pointer p] w fun e w' => e = .returned (.slice none 0 0) ∧ Below w.heap.size w w' := by
  have HN := Aside0.mk h
  clear h
  go_enter Tryz.func35, Tryz.ntmps35
  go_wp2_with (go_at_call 66; refine (HN.out _ (Below.refl _ _)).mono ?_; rintro e w9 ⟨rfl, hw⟩; cases hw)
  go_ret
  exact ⟨rfl, Below.refl _ _⟩
theorem treeMake_no (w : World) (p : Option Addr) (s : ByteArray) (h : NoTree w p) : Calls Tryz.prog 14 #[.pointer p, .string s] w fun e w' => e = .returned (.int .i64 1) ∧ Below w.heap.size w w' := by
  have HN := Aside0.mk h
  clear h
  go_enter Tryz.func14, Tryz.ntmps14
  go_wp2_with (go_at_call 49; refine (HN.out _ (Below.refl _ _)).mono ?_; rintro e w9 ⟨rfl, hw⟩; cases hw)
  go_ret
  exact ⟨rfl, Below.refl _ _⟩
theorem treeWrite_no (w : World) (p : Option Addr) (s : ByteArray) (A : Option Addr) (n : Nat) (c : Nat) (h : NoTree w p) : Calls Tryz.prog 12 #[.pointer p, .string s, .slice A n c] w fun e w' => e = .returned (.int .i64 1) ∧ Below w.heap.size w w' := by
  have HN := Aside0.mk h
  clear h
  go_enter Tryz.func12, Tryz.ntmps12
  go_wp2_with (go_at_call 49; refine (HN.out _ (Below.refl _ _)).mono ?_; rintro e w9 ⟨rfl, hw⟩; cases hw)
  go_ret
  exact ⟨rfl, Below.refl _ _⟩
theorem treeRemove_no (w : World) (p : Option Addr) (s : ByteArray) (h : NoTree w p) : Calls Tryz.prog 20 #[.pointer p, .string s] w fun e w' => e = .returned (.int .i64 1) ∧ Below w.heap.size w w' := by
  have HN := Aside0.mk h
  clear h
  go_enter Tryz.func20, Tryz.ntmps20
  go_wp2_with (go_at_call 49; refine (HN.out _ (Below.refl _ _)).mono ?_; rintro e w9 ⟨rfl, hw⟩; cases hw)
  go_ret
  exact ⟨rfl, Below.refl _ _⟩
theorem treeMove_no (w : World) (p : Option Addr) (s : ByteArray) (s' : ByteArray) (h : NoTree w p) : Calls Tryz.prog 27 #[.pointer p, .string s, .string s'] w fun e w' => e = .returned (.int .i64 1) ∧ Below w.heap.size w w' := by
  have HN := Aside0.mk h
  clear h
  go_enter Tryz.func27, Tryz.ntmps27
  go_wp2_with (go_at_call 49; refine (HN.out _ (below_alloc (below_alloc (below_alloc (Below.refl _ _) _) _) _)).mono ?_; rintro e w9 ⟨rfl, hw⟩; cases hw)
  go_ret
  exact ⟨rfl, below_alloc (below_alloc (below_alloc (Below.refl _ _) _) _) _⟩
theorem treeRead_no (w : World) (p : Option Addr) (s : ByteArray) (h : NoTree w p) : Calls Tryz.prog 26 #[.pointer p, .string s] w fun e w' => e = .returned (.tuple #[.slice none 0 0, .int .i64 3]) ∧ Below w.heap.size w w' := by
  have HN := Aside0.mk h
  clear h
  go_enter Tryz.func26, Tryz.ntmps26
  go_wp2_with (go_at_call 49; refine (HN.out _ (Below.refl _ _)).mono ?_; rintro e w9 ⟨rfl, hw⟩; cases hw)
  go_ret2
  exact ⟨rfl, Below.refl _ _⟩
theorem treeWipe_no (w : World) (p : Option Addr) (s : ByteArray) (h : NoTree w p) : Calls Tryz.prog 30 #[.pointer p, .string s] w fun e w' => e = .returned (.tuple #[.int .i64 0, .int .i64 1]) ∧ Below w.heap.size w w' := by
  have HN := Aside0.mk h
  clear h
  go_enter Tryz.func30, Tryz.ntmps30
  go_wp2_with (go_at_call 49; refine (HN.out _ (below_alloc (Below.refl _ _) _)).mono ?_; rintro e w9 ⟨rfl, hw⟩; cases hw)
  go_ret2
  exact ⟨rfl, below_alloc (Below.refl _ _) _⟩
theorem treeLen_no (w : World) (p : Option Addr)  (h : NoTree w p) : Calls Tryz.prog 18 #[.pointer p] w fun e w' => e = .returned (.int .i64 0) ∧ Below w.heap.size w w' := by
  have HN := Aside0.mk h
  clear h
  go_enter Tryz.func18, Tryz.ntmps18
  go_wp2_with (go_at_call 49; refine (HN.out _ (Below.refl _ _)).mono ?_; rintro e w9 ⟨rfl, hw⟩; cases hw)
  go_ret
  exact ⟨rfl, Below.refl _ _⟩
theorem treeImage_no (w : World) (p : Option Addr)  (h : NoTree w p) : Calls Tryz.prog 16 #[.pointer p] w fun e w' => e = .returned (.slice none 0 0) ∧ Below w.heap.size w w' := by
  have HN := Aside0.mk h
  clear h
  go_enter Tryz.func16, Tryz.ntmps16
  go_wp2_with (go_at_call 49; refine (HN.out _ (Below.refl _ _)).mono ?_; rintro e w9 ⟨rfl, hw⟩; cases hw)
  go_ret
  exact ⟨rfl, Below.refl _ _⟩
theorem rowAt_no (w : World) (p : Option Addr) (i : Int) (h : NoRow w p) : Calls Tryz.prog 21 #[.pointer p, .int .i64 i] w fun e w' => e = .returned (.tuple #[.slice none 0 0, .int .i64 3]) ∧ Below w.heap.size w w' := by
  have hlen := rowLen_no w p h
  clear h
  by_cases hi : i < 0
  · go_enter Tryz.func21, Tryz.ntmps21
    go_wp2_with (go_at_call 17; refine hlen.mono ?_; rintro e w9 ⟨rfl, hw⟩)
    go_ret2
    exact ⟨rfl, Below.refl _ _⟩
  · have hi' : 0 ≤ i := by omega
    go_enter Tryz.func21, Tryz.ntmps21
    go_wp2_with (go_at_call 17; refine hlen.mono ?_; rintro e w9 ⟨rfl, hw⟩)
    go_ret2
    exact ⟨rfl, hw⟩
theorem treeList_no (w : World) (p : Option Addr) (s : ByteArray) (h : NoTree w p) : Calls Tryz.prog 28 #[.pointer p, .string s] w fun e w' => e = .returned (.tuple #[.slice none 0 0, .int .i64 (if s.toList.isEmpty then 0 else 3)]) ∧ Below w.heap.size w w' := by
  have HN := Aside0.mk h
  clear h
  obtain ⟨r, hr⟩ : ∃ r : Int, r = (if s.toList.isEmpty then 0 else 3) := ⟨_, rfl⟩
  rw [← hr]
  cases hs : s.toList.isEmpty with
  | true =>
    rw [hs] at hr
    have HR : Aside0 (r = 0) := ⟨by simpa using hr⟩
    clear hr
    go_enter Tryz.func28, Tryz.ntmps28
    go_wp2_with (go_at_call 49; refine (HN.out _ (below_alloc (Below.refl _ _) _)).mono ?_; rintro e w9 ⟨rfl, hw⟩; cases hw)
    all_goals (go_ret2; rw [HR.out]; exact ⟨rfl, below_alloc (Below.refl _ _) _⟩)
  | false =>
    rw [hs] at hr
    have HR : Aside0 (r = 3) := ⟨by simpa using hr⟩
    clear hr
    go_enter Tryz.func28, Tryz.ntmps28
    go_wp2_with (go_at_call 49; refine (HN.out _ (below_alloc (Below.refl _ _) _)).mono ?_; rintro e w9 ⟨rfl, hw⟩; cases hw)
    all_goals (go_ret2; rw [HR.out]; exact ⟨rfl, below_alloc (Below.refl _ _) _⟩)
end Go.Proofs.YtkjplffpihfliaaGreatDoor
