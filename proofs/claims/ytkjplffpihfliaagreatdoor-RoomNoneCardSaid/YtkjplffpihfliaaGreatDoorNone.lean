/- RoomNone: what it does on nil and zero values; behind alive. -/
import Derived.Test.YtkjplffpihfliaaGreatDoorNo
import Derived.Test.YtkjplffpihfliaaGreatDoorAlive
namespace Go.Proofs.YtkjplffpihfliaaGreatDoor
open Go.RowKit Go.Proofs.YtkjplffpihfliaaGreatDoorW.PrintWords PAll

theorem NoRow.later {w W : World} {p : Option Addr} (h : NoRow w p) (hB : Below w.heap.size w W) : NoRow W p := fun W' hB' => h W' (below_then hB hB.size hB')
theorem NoArena.later {w W : World} {p : Option Addr} (h : NoArena w p) (hB : Below w.heap.size w W) : NoArena W p := fun W' hB' => h W' (below_then hB hB.size hB')
theorem NoTree.later {w W : World} {p : Option Addr} (h : NoTree w p) (hB : Below w.heap.size w W) : NoTree W p := fun W' hB' => h W' (below_then hB hB.size hB')
set_option maxRecDepth 100000 in
set_option maxHeartbeats 4000000 in
theorem none_false (w : World) (s : ByteArray) (A : Option Addr) (n c : Nat) (i r : Int) (hr : (if s.toList.isEmpty then 0 else 3) = r) (hal0 : ∀ W, Below w.heap.size w W → Calls Tryz.prog 22 #[] W fun e w' => e = .returned (.bool true) ∧ Below W.heap.size W w') :
    Calls Tryz.prog 6 #[.string s, .slice A n c, .int .i64 i, .bool false] w fun e w' => e = .returned (.bool true) ∧ Below w.heap.size w w' := by
  obtain ⟨w1, hw1⟩ : ∃ w1, w1 = w := ⟨_, rfl⟩
  have hB1 : Below w.heap.size w w1 := by rw [hw1]; exact Below.refl _ _
  have hpr : NoRow w1 none := noRow_none w1
  have hpa : NoArena w1 none := noArena_none w1
  have hpt : NoTree w1 none := noTree_none w1
  have K0 : ∀ W, Below w1.heap.size w1 W → Calls Tryz.prog 21 #[.pointer none, .int .i64 i] W fun e w' => e = .returned (.tuple #[.slice none 0 0, .int .i64 3]) ∧ Below w1.heap.size w1 w' := fun W hB => (rowAt_no W none i (hpr.later hB)).mono (by rintro e w' ⟨h1, h2⟩; exact ⟨h1, below_then hB hB.size h2⟩)
  have K1 : ∀ W, Below w1.heap.size w1 W → Calls Tryz.prog 29 #[.pointer none, .string s] W fun e w' => e = .returned (.tuple #[.slice none 0 0, .int .i64 3]) ∧ Below w1.heap.size w1 w' := fun W hB => (arenaGet_no W none s (hpa.later hB)).mono (by rintro e w' ⟨h1, h2⟩; exact ⟨h1, below_then hB hB.size h2⟩)
  have K2 : ∀ W, Below w1.heap.size w1 W → Calls Tryz.prog 26 #[.pointer none, .string s] W fun e w' => e = .returned (.tuple #[.slice none 0 0, .int .i64 3]) ∧ Below w1.heap.size w1 w' := fun W hB => (treeRead_no W none s (hpt.later hB)).mono (by rintro e w' ⟨h1, h2⟩; exact ⟨h1, below_then hB hB.size h2⟩)
  have K3 : ∀ W, Below w1.heap.size w1 W → Calls Tryz.prog 28 #[.pointer none, .string s] W fun e w' => e = .returned (.tuple #[.slice none 0 0, .int .i64 r]) ∧ Below w1.heap.size w1 w' := fun W hB => (treeList_no W none s (hpt.later hB)).mono (by rintro e w' ⟨h1, h2⟩; exact ⟨h1.trans (by rw [hr]), below_then hB hB.size h2⟩)
  have K4 : ∀ W, Below w1.heap.size w1 W → Calls Tryz.prog 30 #[.pointer none, .string s] W fun e w' => e = .returned (.tuple #[.int .i64 0, .int .i64 1]) ∧ Below w1.heap.size w1 w' := fun W hB => (treeWipe_no W none s (hpt.later hB)).mono (by rintro e w' ⟨h1, h2⟩; exact ⟨h1, below_then hB hB.size h2⟩)
  have K5 : ∀ W, Below w1.heap.size w1 W → Calls Tryz.prog 11 #[.pointer none, .int .i64 i, .slice A n c] W fun e w' => e = .returned (.int .i64 1) ∧ Below w1.heap.size w1 w' := fun W hB => (rowInsert_no W none i A n c (hpr.later hB)).mono (by rintro e w' ⟨h1, h2⟩; exact ⟨h1, below_then hB hB.size h2⟩)
  have K6 : ∀ W, Below w1.heap.size w1 W → Calls Tryz.prog 19 #[.pointer none, .int .i64 i] W fun e w' => e = .returned (.int .i64 1) ∧ Below w1.heap.size w1 w' := fun W hB => (rowRemove_no W none i (hpr.later hB)).mono (by rintro e w' ⟨h1, h2⟩; exact ⟨h1, below_then hB hB.size h2⟩)
  have K7 : ∀ W, Below w1.heap.size w1 W → Calls Tryz.prog 17 #[.pointer none] W fun e w' => e = .returned (.int .i64 0) ∧ Below w1.heap.size w1 w' := fun W hB => (rowLen_no W none  (hpr.later hB)).mono (by rintro e w' ⟨h1, h2⟩; exact ⟨h1, below_then hB hB.size h2⟩)
  have K8 : ∀ W, Below w1.heap.size w1 W → Calls Tryz.prog 31 #[.pointer none] W fun e w' => e = .returned (.slice none 0 0) ∧ Below w1.heap.size w1 w' := fun W hB => (rowCells_no W none  (hpr.later hB)).mono (by rintro e w' ⟨h1, h2⟩; exact ⟨h1, below_then hB hB.size h2⟩)
  have K9 : ∀ W, Below w1.heap.size w1 W → Calls Tryz.prog 15 #[.pointer none] W fun e w' => e = .returned (.slice none 0 0) ∧ Below w1.heap.size w1 w' := fun W hB => (rowImage_no W none  (hpr.later hB)).mono (by rintro e w' ⟨h1, h2⟩; exact ⟨h1, below_then hB hB.size h2⟩)
  have K10 : ∀ W, Below w1.heap.size w1 W → Calls Tryz.prog 32 #[.pointer none, .string s, .slice A n c] W fun e w' => e = .returned (.int .i64 1) ∧ Below w1.heap.size w1 w' := fun W hB => (arenaPut_no W none s A n c (hpa.later hB)).mono (by rintro e w' ⟨h1, h2⟩; exact ⟨h1, below_then hB hB.size h2⟩)
  have K11 : ∀ W, Below w1.heap.size w1 W → Calls Tryz.prog 33 #[.pointer none, .string s] W fun e w' => e = .returned (.int .i64 1) ∧ Below w1.heap.size w1 w' := fun W hB => (arenaDrop_no W none s (hpa.later hB)).mono (by rintro e w' ⟨h1, h2⟩; exact ⟨h1, below_then hB hB.size h2⟩)
  have K12 : ∀ W, Below w1.heap.size w1 W → Calls Tryz.prog 34 #[.pointer none] W fun e w' => e = .returned (.slice none 0 0) ∧ Below w1.heap.size w1 w' := fun W hB => (arenaPlaces_no W none  (hpa.later hB)).mono (by rintro e w' ⟨h1, h2⟩; exact ⟨h1, below_then hB hB.size h2⟩)
  have K13 : ∀ W, Below w1.heap.size w1 W → Calls Tryz.prog 35 #[.pointer none] W fun e w' => e = .returned (.slice none 0 0) ∧ Below w1.heap.size w1 w' := fun W hB => (arenaBytes_no W none  (hpa.later hB)).mono (by rintro e w' ⟨h1, h2⟩; exact ⟨h1, below_then hB hB.size h2⟩)
  have K14 : ∀ W, Below w1.heap.size w1 W → Calls Tryz.prog 14 #[.pointer none, .string s] W fun e w' => e = .returned (.int .i64 1) ∧ Below w1.heap.size w1 w' := fun W hB => (treeMake_no W none s (hpt.later hB)).mono (by rintro e w' ⟨h1, h2⟩; exact ⟨h1, below_then hB hB.size h2⟩)
  have K15 : ∀ W, Below w1.heap.size w1 W → Calls Tryz.prog 12 #[.pointer none, .string s, .slice A n c] W fun e w' => e = .returned (.int .i64 1) ∧ Below w1.heap.size w1 w' := fun W hB => (treeWrite_no W none s A n c (hpt.later hB)).mono (by rintro e w' ⟨h1, h2⟩; exact ⟨h1, below_then hB hB.size h2⟩)
  have K16 : ∀ W, Below w1.heap.size w1 W → Calls Tryz.prog 20 #[.pointer none, .string s] W fun e w' => e = .returned (.int .i64 1) ∧ Below w1.heap.size w1 w' := fun W hB => (treeRemove_no W none s (hpt.later hB)).mono (by rintro e w' ⟨h1, h2⟩; exact ⟨h1, below_then hB hB.size h2⟩)
  have K17 : ∀ W, Below w1.heap.size w1 W → Calls Tryz.prog 27 #[.pointer none, .string s, .string s] W fun e w' => e = .returned (.int .i64 1) ∧ Below w1.heap.size w1 w' := fun W hB => (treeMove_no W none s s (hpt.later hB)).mono (by rintro e w' ⟨h1, h2⟩; exact ⟨h1, below_then hB hB.size h2⟩)
  have K18 : ∀ W, Below w1.heap.size w1 W → Calls Tryz.prog 18 #[.pointer none] W fun e w' => e = .returned (.int .i64 0) ∧ Below w1.heap.size w1 w' := fun W hB => (treeLen_no W none  (hpt.later hB)).mono (by rintro e w' ⟨h1, h2⟩; exact ⟨h1, below_then hB hB.size h2⟩)
  have K19 : ∀ W, Below w1.heap.size w1 W → Calls Tryz.prog 16 #[.pointer none] W fun e w' => e = .returned (.slice none 0 0) ∧ Below w1.heap.size w1 w' := fun W hB => (treeImage_no W none  (hpt.later hB)).mono (by rintro e w' ⟨h1, h2⟩; exact ⟨h1, below_then hB hB.size h2⟩)
  have hal : ∀ W, Below w1.heap.size w1 W → Calls Tryz.prog 22 #[] W fun e w' => e = .returned (.bool true) ∧ Below w1.heap.size w1 w' := fun W hB => (hal0 W (below_then hB1 hB1.size hB)).mono (by rintro e w' ⟨h1, h2⟩; exact ⟨h1, below_then hB hB.size h2⟩)
  have HB1 := Aside0.mk hB1
  have hB0 : Below w1.heap.size w1 w1 := Below.refl _ _
  cases hs : s.toList.isEmpty with
  | true =>
    rw [hs] at hr
    have hr0 : r = 0 := by simpa using hr.symm
    subst hr0
    clear hal0 hpr hpa hpt hB1 hr
    go_enter Tryz.func6, Tryz.ntmps6
    go_upto_region 6 with (fail)
    rw [← hw1]
    clear hw1
    go_wp2_with (first | (go_at_call 21; refine (K0 _ (by assumption)).mono ?_; rintro e w9 ⟨rfl, hB9⟩) | (go_at_call 29; refine (K1 _ (by assumption)).mono ?_; rintro e w9 ⟨rfl, hB9⟩) | (go_at_call 26; refine (K2 _ (by assumption)).mono ?_; rintro e w9 ⟨rfl, hB9⟩) | (go_at_call 28; refine (K3 _ (by assumption)).mono ?_; rintro e w9 ⟨rfl, hB9⟩) | (go_at_call 30; refine (K4 _ (by assumption)).mono ?_; rintro e w9 ⟨rfl, hB9⟩) | (go_at_call 11; refine (K5 _ (by assumption)).mono ?_; rintro e w9 ⟨rfl, hB9⟩) | (go_at_call 19; refine (K6 _ (by assumption)).mono ?_; rintro e w9 ⟨rfl, hB9⟩) | (go_at_call 17; refine (K7 _ (by assumption)).mono ?_; rintro e w9 ⟨rfl, hB9⟩) | (go_at_call 31; refine (K8 _ (by assumption)).mono ?_; rintro e w9 ⟨rfl, hB9⟩) | (go_at_call 15; refine (K9 _ (by assumption)).mono ?_; rintro e w9 ⟨rfl, hB9⟩) | (go_at_call 32; refine (K10 _ (by assumption)).mono ?_; rintro e w9 ⟨rfl, hB9⟩) | (go_at_call 33; refine (K11 _ (by assumption)).mono ?_; rintro e w9 ⟨rfl, hB9⟩) | (go_at_call 34; refine (K12 _ (by assumption)).mono ?_; rintro e w9 ⟨rfl, hB9⟩) | (go_at_call 35; refine (K13 _ (by assumption)).mono ?_; rintro e w9 ⟨rfl, hB9⟩) | (go_at_call 14; refine (K14 _ (by assumption)).mono ?_; rintro e w9 ⟨rfl, hB9⟩) | (go_at_call 12; refine (K15 _ (by assumption)).mono ?_; rintro e w9 ⟨rfl, hB9⟩) | (go_at_call 20; refine (K16 _ (by assumption)).mono ?_; rintro e w9 ⟨rfl, hB9⟩) | (go_at_call 27; refine (K17 _ (by assumption)).mono ?_; rintro e w9 ⟨rfl, hB9⟩) | (go_at_call 18; refine (K18 _ (by assumption)).mono ?_; rintro e w9 ⟨rfl, hB9⟩) | (go_at_call 16; refine (K19 _ (by assumption)).mono ?_; rintro e w9 ⟨rfl, hB9⟩) | (go_at_call 22; refine (hal _ (by assumption)).mono ?_; rintro e w9 ⟨rfl, hB9⟩))
    go_ret
    refine ⟨rfl, below_then HB1.out HB1.out.size (by assumption)⟩
  | false =>
    rw [hs] at hr
    have hr0 : r = 3 := by simpa using hr.symm
    subst hr0
    clear hal0 hpr hpa hpt hB1 hr
    go_enter Tryz.func6, Tryz.ntmps6
    go_upto_region 6 with (fail)
    rw [← hw1]
    clear hw1
    go_wp2_with (first | (go_at_call 21; refine (K0 _ (by assumption)).mono ?_; rintro e w9 ⟨rfl, hB9⟩) | (go_at_call 29; refine (K1 _ (by assumption)).mono ?_; rintro e w9 ⟨rfl, hB9⟩) | (go_at_call 26; refine (K2 _ (by assumption)).mono ?_; rintro e w9 ⟨rfl, hB9⟩) | (go_at_call 28; refine (K3 _ (by assumption)).mono ?_; rintro e w9 ⟨rfl, hB9⟩) | (go_at_call 30; refine (K4 _ (by assumption)).mono ?_; rintro e w9 ⟨rfl, hB9⟩) | (go_at_call 11; refine (K5 _ (by assumption)).mono ?_; rintro e w9 ⟨rfl, hB9⟩) | (go_at_call 19; refine (K6 _ (by assumption)).mono ?_; rintro e w9 ⟨rfl, hB9⟩) | (go_at_call 17; refine (K7 _ (by assumption)).mono ?_; rintro e w9 ⟨rfl, hB9⟩) | (go_at_call 31; refine (K8 _ (by assumption)).mono ?_; rintro e w9 ⟨rfl, hB9⟩) | (go_at_call 15; refine (K9 _ (by assumption)).mono ?_; rintro e w9 ⟨rfl, hB9⟩) | (go_at_call 32; refine (K10 _ (by assumption)).mono ?_; rintro e w9 ⟨rfl, hB9⟩) | (go_at_call 33; refine (K11 _ (by assumption)).mono ?_; rintro e w9 ⟨rfl, hB9⟩) | (go_at_call 34; refine (K12 _ (by assumption)).mono ?_; rintro e w9 ⟨rfl, hB9⟩) | (go_at_call 35; refine (K13 _ (by assumption)).mono ?_; rintro e w9 ⟨rfl, hB9⟩) | (go_at_call 14; refine (K14 _ (by assumption)).mono ?_; rintro e w9 ⟨rfl, hB9⟩) | (go_at_call 12; refine (K15 _ (by assumption)).mono ?_; rintro e w9 ⟨rfl, hB9⟩) | (go_at_call 20; refine (K16 _ (by assumption)).mono ?_; rintro e w9 ⟨rfl, hB9⟩) | (go_at_call 27; refine (K17 _ (by assumption)).mono ?_; rintro e w9 ⟨rfl, hB9⟩) | (go_at_call 18; refine (K18 _ (by assumption)).mono ?_; rintro e w9 ⟨rfl, hB9⟩) | (go_at_call 16; refine (K19 _ (by assumption)).mono ?_; rintro e w9 ⟨rfl, hB9⟩) | (go_at_call 22; refine (hal _ (by assumption)).mono ?_; rintro e w9 ⟨rfl, hB9⟩))
    go_ret
    refine ⟨rfl, below_then HB1.out HB1.out.size (by assumption)⟩
set_option maxRecDepth 100000 in
set_option maxHeartbeats 4000000 in
theorem none_true (w : World) (s : ByteArray) (A : Option Addr) (n c : Nat) (i r : Int) (hr : (if s.toList.isEmpty then 0 else 3) = r) (hal0 : ∀ W, Below w.heap.size w W → Calls Tryz.prog 22 #[] W fun e w' => e = .returned (.bool true) ∧ Below W.heap.size W w') :
    Calls Tryz.prog 6 #[.string s, .slice A n c, .int .i64 i, .bool true] w fun e w' => e = .returned (.bool true) ∧ Below w.heap.size w w' := by
  obtain ⟨w1, hw1⟩ : ∃ w1, w1 = ((w.alloc (.cells #[.bool false, .slice none 0 0] tRow)).alloc (.cells #[.int .u64 0, .int .i64 0, .map none] tArena)).alloc (.cells #[.bool false, .int .u64 0, .map none] tTree) := ⟨_, rfl⟩
  have hB1 : Below w.heap.size w w1 := by rw [hw1]; exact below_alloc (below_alloc (below_alloc (Below.refl _ _) _) _) _
  have q1 : w1.heap[w.heap.size]? = some (.cells #[.bool false, .slice none 0 0] tRow (0, 0)) := by
    rw [hw1, Deep.blk_alloc_lt _ _ _ (by simp; omega), Deep.blk_alloc_lt _ _ _ (by simp)]
    exact heap_alloc_new w _
  have q2 : w1.heap[w.heap.size + 1]? = some (.cells #[.int .u64 0, .int .i64 0, .map none] tArena (0, 0)) := by
    rw [hw1, Deep.blk_alloc_lt _ _ _ (by simp)]
    have := heap_alloc_new (w.alloc (.cells #[.bool false, .slice none 0 0] tRow)) (.cells #[.int .u64 0, .int .i64 0, .map none] tArena)
    simpa using this
  have q3 : w1.heap[w.heap.size + 2]? = some (.cells #[.bool false, .int .u64 0, .map none] tTree (0, 0)) := by
    rw [hw1]
    have := heap_alloc_new ((w.alloc (.cells #[.bool false, .slice none 0 0] tRow)).alloc (.cells #[.int .u64 0, .int .i64 0, .map none] tArena)) (.cells #[.bool false, .int .u64 0, .map none] tTree)
    simpa using this
  have hpr : NoRow w1 (some ⟨w.heap.size, 0, none⟩) := noRow_zero (by rw [blk_cell q1]; rfl)
  have hpa : NoArena w1 (some ⟨w.heap.size + 1, 0, none⟩) := noArena_zero (by rw [blk_cell q2]; rfl)
  have hpt : NoTree w1 (some ⟨w.heap.size + 2, 0, none⟩) := noTree_zero (by rw [blk_cell q3]; rfl)
  clear q1 q2 q3
  have K0 : ∀ W, Below w1.heap.size w1 W → Calls Tryz.prog 21 #[.pointer (some ⟨w.heap.size, 0, none⟩), .int .i64 i] W fun e w' => e = .returned (.tuple #[.slice none 0 0, .int .i64 3]) ∧ Below w1.heap.size w1 w' := fun W hB => (rowAt_no W (some ⟨w.heap.size, 0, none⟩) i (hpr.later hB)).mono (by rintro e w' ⟨h1, h2⟩; exact ⟨h1, below_then hB hB.size h2⟩)
  have K1 : ∀ W, Below w1.heap.size w1 W → Calls Tryz.prog 29 #[.pointer (some ⟨w.heap.size + 1, 0, none⟩), .string s] W fun e w' => e = .returned (.tuple #[.slice none 0 0, .int .i64 3]) ∧ Below w1.heap.size w1 w' := fun W hB => (arenaGet_no W (some ⟨w.heap.size + 1, 0, none⟩) s (hpa.later hB)).mono (by rintro e w' ⟨h1, h2⟩; exact ⟨h1, below_then hB hB.size h2⟩)
  have K2 : ∀ W, Below w1.heap.size w1 W → Calls Tryz.prog 26 #[.pointer (some ⟨w.heap.size + 2, 0, none⟩), .string s] W fun e w' => e = .returned (.tuple #[.slice none 0 0, .int .i64 3]) ∧ Below w1.heap.size w1 w' := fun W hB => (treeRead_no W (some ⟨w.heap.size + 2, 0, none⟩) s (hpt.later hB)).mono (by rintro e w' ⟨h1, h2⟩; exact ⟨h1, below_then hB hB.size h2⟩)
  have K3 : ∀ W, Below w1.heap.size w1 W → Calls Tryz.prog 28 #[.pointer (some ⟨w.heap.size + 2, 0, none⟩), .string s] W fun e w' => e = .returned (.tuple #[.slice none 0 0, .int .i64 r]) ∧ Below w1.heap.size w1 w' := fun W hB => (treeList_no W (some ⟨w.heap.size + 2, 0, none⟩) s (hpt.later hB)).mono (by rintro e w' ⟨h1, h2⟩; exact ⟨h1.trans (by rw [hr]), below_then hB hB.size h2⟩)
  have K4 : ∀ W, Below w1.heap.size w1 W → Calls Tryz.prog 30 #[.pointer (some ⟨w.heap.size + 2, 0, none⟩), .string s] W fun e w' => e = .returned (.tuple #[.int .i64 0, .int .i64 1]) ∧ Below w1.heap.size w1 w' := fun W hB => (treeWipe_no W (some ⟨w.heap.size + 2, 0, none⟩) s (hpt.later hB)).mono (by rintro e w' ⟨h1, h2⟩; exact ⟨h1, below_then hB hB.size h2⟩)
  have K5 : ∀ W, Below w1.heap.size w1 W → Calls Tryz.prog 11 #[.pointer (some ⟨w.heap.size, 0, none⟩), .int .i64 i, .slice A n c] W fun e w' => e = .returned (.int .i64 1) ∧ Below w1.heap.size w1 w' := fun W hB => (rowInsert_no W (some ⟨w.heap.size, 0, none⟩) i A n c (hpr.later hB)).mono (by rintro e w' ⟨h1, h2⟩; exact ⟨h1, below_then hB hB.size h2⟩)
  have K6 : ∀ W, Below w1.heap.size w1 W → Calls Tryz.prog 19 #[.pointer (some ⟨w.heap.size, 0, none⟩), .int .i64 i] W fun e w' => e = .returned (.int .i64 1) ∧ Below w1.heap.size w1 w' := fun W hB => (rowRemove_no W (some ⟨w.heap.size, 0, none⟩) i (hpr.later hB)).mono (by rintro e w' ⟨h1, h2⟩; exact ⟨h1, below_then hB hB.size h2⟩)
  have K7 : ∀ W, Below w1.heap.size w1 W → Calls Tryz.prog 17 #[.pointer (some ⟨w.heap.size, 0, none⟩)] W fun e w' => e = .returned (.int .i64 0) ∧ Below w1.heap.size w1 w' := fun W hB => (rowLen_no W (some ⟨w.heap.size, 0, none⟩)  (hpr.later hB)).mono (by rintro e w' ⟨h1, h2⟩; exact ⟨h1, below_then hB hB.size h2⟩)
  have K8 : ∀ W, Below w1.heap.size w1 W → Calls Tryz.prog 31 #[.pointer (some ⟨w.heap.size, 0, none⟩)] W fun e w' => e = .returned (.slice none 0 0) ∧ Below w1.heap.size w1 w' := fun W hB => (rowCells_no W (some ⟨w.heap.size, 0, none⟩)  (hpr.later hB)).mono (by rintro e w' ⟨h1, h2⟩; exact ⟨h1, below_then hB hB.size h2⟩)
  have K9 : ∀ W, Below w1.heap.size w1 W → Calls Tryz.prog 15 #[.pointer (some ⟨w.heap.size, 0, none⟩)] W fun e w' => e = .returned (.slice none 0 0) ∧ Below w1.heap.size w1 w' := fun W hB => (rowImage_no W (some ⟨w.heap.size, 0, none⟩)  (hpr.later hB)).mono (by rintro e w' ⟨h1, h2⟩; exact ⟨h1, below_then hB hB.size h2⟩)
  have K10 : ∀ W, Below w1.heap.size w1 W → Calls Tryz.prog 32 #[.pointer (some ⟨w.heap.size + 1, 0, none⟩), .string s, .slice A n c] W fun e w' => e = .returned (.int .i64 1) ∧ Below w1.heap.size w1 w' := fun W hB => (arenaPut_no W (some ⟨w.heap.size + 1, 0, none⟩) s A n c (hpa.later hB)).mono (by rintro e w' ⟨h1, h2⟩; exact ⟨h1, below_then hB hB.size h2⟩)
  have K11 : ∀ W, Below w1.heap.size w1 W → Calls Tryz.prog 33 #[.pointer (some ⟨w.heap.size + 1, 0, none⟩), .string s] W fun e w' => e = .returned (.int .i64 1) ∧ Below w1.heap.size w1 w' := fun W hB => (arenaDrop_no W (some ⟨w.heap.size + 1, 0, none⟩) s (hpa.later hB)).mono (by rintro e w' ⟨h1, h2⟩; exact ⟨h1, below_then hB hB.size h2⟩)
  have K12 : ∀ W, Below w1.heap.size w1 W → Calls Tryz.prog 34 #[.pointer (some ⟨w.heap.size + 1, 0, none⟩)] W fun e w' => e = .returned (.slice none 0 0) ∧ Below w1.heap.size w1 w' := fun W hB => (arenaPlaces_no W (some ⟨w.heap.size + 1, 0, none⟩)  (hpa.later hB)).mono (by rintro e w' ⟨h1, h2⟩; exact ⟨h1, below_then hB hB.size h2⟩)
  have K13 : ∀ W, Below w1.heap.size w1 W → Calls Tryz.prog 35 #[.pointer (some ⟨w.heap.size + 1, 0, none⟩)] W fun e w' => e = .returned (.slice none 0 0) ∧ Below w1.heap.size w1 w' := fun W hB => (arenaBytes_no W (some ⟨w.heap.size + 1, 0, none⟩)  (hpa.later hB)).mono (by rintro e w' ⟨h1, h2⟩; exact ⟨h1, below_then hB hB.size h2⟩)
  have K14 : ∀ W, Below w1.heap.size w1 W → Calls Tryz.prog 14 #[.pointer (some ⟨w.heap.size + 2, 0, none⟩), .string s] W fun e w' => e = .returned (.int .i64 1) ∧ Below w1.heap.size w1 w' := fun W hB => (treeMake_no W (some ⟨w.heap.size + 2, 0, none⟩) s (hpt.later hB)).mono (by rintro e w' ⟨h1, h2⟩; exact ⟨h1, below_then hB hB.size h2⟩)
  have K15 : ∀ W, Below w1.heap.size w1 W → Calls Tryz.prog 12 #[.pointer (some ⟨w.heap.size + 2, 0, none⟩), .string s, .slice A n c] W fun e w' => e = .returned (.int .i64 1) ∧ Below w1.heap.size w1 w' := fun W hB => (treeWrite_no W (some ⟨w.heap.size + 2, 0, none⟩) s A n c (hpt.later hB)).mono (by rintro e w' ⟨h1, h2⟩; exact ⟨h1, below_then hB hB.size h2⟩)
  have K16 : ∀ W, Below w1.heap.size w1 W → Calls Tryz.prog 20 #[.pointer (some ⟨w.heap.size + 2, 0, none⟩), .string s] W fun e w' => e = .returned (.int .i64 1) ∧ Below w1.heap.size w1 w' := fun W hB => (treeRemove_no W (some ⟨w.heap.size + 2, 0, none⟩) s (hpt.later hB)).mono (by rintro e w' ⟨h1, h2⟩; exact ⟨h1, below_then hB hB.size h2⟩)
  have K17 : ∀ W, Below w1.heap.size w1 W → Calls Tryz.prog 27 #[.pointer (some ⟨w.heap.size + 2, 0, none⟩), .string s, .string s] W fun e w' => e = .returned (.int .i64 1) ∧ Below w1.heap.size w1 w' := fun W hB => (treeMove_no W (some ⟨w.heap.size + 2, 0, none⟩) s s (hpt.later hB)).mono (by rintro e w' ⟨h1, h2⟩; exact ⟨h1, below_then hB hB.size h2⟩)
  have K18 : ∀ W, Below w1.heap.size w1 W → Calls Tryz.prog 18 #[.pointer (some ⟨w.heap.size + 2, 0, none⟩)] W fun e w' => e = .returned (.int .i64 0) ∧ Below w1.heap.size w1 w' := fun W hB => (treeLen_no W (some ⟨w.heap.size + 2, 0, none⟩)  (hpt.later hB)).mono (by rintro e w' ⟨h1, h2⟩; exact ⟨h1, below_then hB hB.size h2⟩)
  have K19 : ∀ W, Below w1.heap.size w1 W → Calls Tryz.prog 16 #[.pointer (some ⟨w.heap.size + 2, 0, none⟩)] W fun e w' => e = .returned (.slice none 0 0) ∧ Below w1.heap.size w1 w' := fun W hB => (treeImage_no W (some ⟨w.heap.size + 2, 0, none⟩)  (hpt.later hB)).mono (by rintro e w' ⟨h1, h2⟩; exact ⟨h1, below_then hB hB.size h2⟩)
  have hal : ∀ W, Below w1.heap.size w1 W → Calls Tryz.prog 22 #[] W fun e w' => e = .returned (.bool true) ∧ Below w1.heap.size w1 w' := fun W hB => (hal0 W (below_then hB1 hB1.size hB)).mono (by rintro e w' ⟨h1, h2⟩; exact ⟨h1, below_then hB hB.size h2⟩)
  have HB1 := Aside0.mk hB1
  have hB0 : Below w1.heap.size w1 w1 := Below.refl _ _
  cases hs : s.toList.isEmpty with
  | true =>
    rw [hs] at hr
    have hr0 : r = 0 := by simpa using hr.symm
    subst hr0
    clear hal0 hpr hpa hpt hB1 hr
    go_enter Tryz.func6, Tryz.ntmps6
    go_upto_region 6 with (fail)
    rw [← hw1]
    clear hw1
    go_wp2_with (first | (go_at_call 21; refine (K0 _ (by assumption)).mono ?_; rintro e w9 ⟨rfl, hB9⟩) | (go_at_call 29; refine (K1 _ (by assumption)).mono ?_; rintro e w9 ⟨rfl, hB9⟩) | (go_at_call 26; refine (K2 _ (by assumption)).mono ?_; rintro e w9 ⟨rfl, hB9⟩) | (go_at_call 28; refine (K3 _ (by assumption)).mono ?_; rintro e w9 ⟨rfl, hB9⟩) | (go_at_call 30; refine (K4 _ (by assumption)).mono ?_; rintro e w9 ⟨rfl, hB9⟩) | (go_at_call 11; refine (K5 _ (by assumption)).mono ?_; rintro e w9 ⟨rfl, hB9⟩) | (go_at_call 19; refine (K6 _ (by assumption)).mono ?_; rintro e w9 ⟨rfl, hB9⟩) | (go_at_call 17; refine (K7 _ (by assumption)).mono ?_; rintro e w9 ⟨rfl, hB9⟩) | (go_at_call 31; refine (K8 _ (by assumption)).mono ?_; rintro e w9 ⟨rfl, hB9⟩) | (go_at_call 15; refine (K9 _ (by assumption)).mono ?_; rintro e w9 ⟨rfl, hB9⟩) | (go_at_call 32; refine (K10 _ (by assumption)).mono ?_; rintro e w9 ⟨rfl, hB9⟩) | (go_at_call 33; refine (K11 _ (by assumption)).mono ?_; rintro e w9 ⟨rfl, hB9⟩) | (go_at_call 34; refine (K12 _ (by assumption)).mono ?_; rintro e w9 ⟨rfl, hB9⟩) | (go_at_call 35; refine (K13 _ (by assumption)).mono ?_; rintro e w9 ⟨rfl, hB9⟩) | (go_at_call 14; refine (K14 _ (by assumption)).mono ?_; rintro e w9 ⟨rfl, hB9⟩) | (go_at_call 12; refine (K15 _ (by assumption)).mono ?_; rintro e w9 ⟨rfl, hB9⟩) | (go_at_call 20; refine (K16 _ (by assumption)).mono ?_; rintro e w9 ⟨rfl, hB9⟩) | (go_at_call 27; refine (K17 _ (by assumption)).mono ?_; rintro e w9 ⟨rfl, hB9⟩) | (go_at_call 18; refine (K18 _ (by assumption)).mono ?_; rintro e w9 ⟨rfl, hB9⟩) | (go_at_call 16; refine (K19 _ (by assumption)).mono ?_; rintro e w9 ⟨rfl, hB9⟩) | (go_at_call 22; refine (hal _ (by assumption)).mono ?_; rintro e w9 ⟨rfl, hB9⟩))
    go_ret
    refine ⟨rfl, below_then HB1.out HB1.out.size (by assumption)⟩
  | false =>
    rw [hs] at hr
    have hr0 : r = 3 := by simpa using hr.symm
    subst hr0
    clear hal0 hpr hpa hpt hB1 hr
    go_enter Tryz.func6, Tryz.ntmps6
    go_upto_region 6 with (fail)
    rw [← hw1]
    clear hw1
    go_wp2_with (first | (go_at_call 21; refine (K0 _ (by assumption)).mono ?_; rintro e w9 ⟨rfl, hB9⟩) | (go_at_call 29; refine (K1 _ (by assumption)).mono ?_; rintro e w9 ⟨rfl, hB9⟩) | (go_at_call 26; refine (K2 _ (by assumption)).mono ?_; rintro e w9 ⟨rfl, hB9⟩) | (go_at_call 28; refine (K3 _ (by assumption)).mono ?_; rintro e w9 ⟨rfl, hB9⟩) | (go_at_call 30; refine (K4 _ (by assumption)).mono ?_; rintro e w9 ⟨rfl, hB9⟩) | (go_at_call 11; refine (K5 _ (by assumption)).mono ?_; rintro e w9 ⟨rfl, hB9⟩) | (go_at_call 19; refine (K6 _ (by assumption)).mono ?_; rintro e w9 ⟨rfl, hB9⟩) | (go_at_call 17; refine (K7 _ (by assumption)).mono ?_; rintro e w9 ⟨rfl, hB9⟩) | (go_at_call 31; refine (K8 _ (by assumption)).mono ?_; rintro e w9 ⟨rfl, hB9⟩) | (go_at_call 15; refine (K9 _ (by assumption)).mono ?_; rintro e w9 ⟨rfl, hB9⟩) | (go_at_call 32; refine (K10 _ (by assumption)).mono ?_; rintro e w9 ⟨rfl, hB9⟩) | (go_at_call 33; refine (K11 _ (by assumption)).mono ?_; rintro e w9 ⟨rfl, hB9⟩) | (go_at_call 34; refine (K12 _ (by assumption)).mono ?_; rintro e w9 ⟨rfl, hB9⟩) | (go_at_call 35; refine (K13 _ (by assumption)).mono ?_; rintro e w9 ⟨rfl, hB9⟩) | (go_at_call 14; refine (K14 _ (by assumption)).mono ?_; rintro e w9 ⟨rfl, hB9⟩) | (go_at_call 12; refine (K15 _ (by assumption)).mono ?_; rintro e w9 ⟨rfl, hB9⟩) | (go_at_call 20; refine (K16 _ (by assumption)).mono ?_; rintro e w9 ⟨rfl, hB9⟩) | (go_at_call 27; refine (K17 _ (by assumption)).mono ?_; rintro e w9 ⟨rfl, hB9⟩) | (go_at_call 18; refine (K18 _ (by assumption)).mono ?_; rintro e w9 ⟨rfl, hB9⟩) | (go_at_call 16; refine (K19 _ (by assumption)).mono ?_; rintro e w9 ⟨rfl, hB9⟩) | (go_at_call 22; refine (hal _ (by assumption)).mono ?_; rintro e w9 ⟨rfl, hB9⟩))
    go_ret
    refine ⟨rfl, below_then HB1.out HB1.out.size (by assumption)⟩
end Go.Proofs.YtkjplffpihfliaaGreatDoor
