/- The contracts of room.valid and of the path's parent. -/
import Derived.Test.YtkjplffpihfliaaGreatDoorNamed
import Derived.Test.YtkjplffpihfliaaGreatDoorShSplit
import Derived.Lib.SplitLaws
namespace Go.Proofs.YtkjplffpihfliaaGreatDoor
open Go.RowKit Go.Proofs.YtkjplffpihfliaaGreatDoorW.PrintWords PAll

abbrev slash : ByteArray := ⟨#[47]⟩
/-- The names of a path. -/
def namesOf (s : ByteArray) : List ByteArray := Lib.splitB slash 0 (Lib.countB s slash) s
/-- Whether a text is a path. -/
def isPath (s : ByteArray) : Bool := (namesOf s).all isName && decide (s.size ≤ 60) && decide ((namesOf s).length ≤ 8)
theorem namesOf_length (s : ByteArray) : (namesOf s).length = Lib.countB s slash + 1 := Lib.splitB_all slash (by decide) 0 _ s rfl
theorem names_size (sep : ByteArray) (save : Nat) : ∀ (k : Nat) (s : ByteArray), ∀ p ∈ Lib.splitB sep save k s, p.size ≤ s.size
  | 0, s, p, hp => by
    rw [Lib.splitB_zero, List.mem_singleton] at hp
    rw [hp]; exact Nat.le_refl _
  | k + 1, s, p, hp => by
    unfold Lib.splitB at hp
    split at hp
    · rw [List.mem_singleton] at hp
      rw [hp]; exact Nat.le_refl _
    · rcases List.mem_cons.1 hp with h | h
      · rw [h, ByteArray.size_extract]; omega
      · refine Nat.le_trans (names_size sep save k _ p h) ?_
        rw [ByteArray.size_extract]; omega

theorem names_take {P : List ByteArray} {j : Nat} {p : ByteArray} (h : (P.take j).all isName = true) (hj : j < P.length) (hp : p = P.getD j ByteArray.empty) (hb : isName p = true) : (P.take (j + 1)).all isName = true := by
  rw [List.take_add_one, List.all_append, h, List.getElem?_eq_getElem hj]
  rw [List.getD_eq_getElem?_getD, List.getElem?_eq_getElem hj] at hp
  simp at hp
  simp [← hp, hb]
theorem names_false {P : List ByteArray} {j : Nat} {p : ByteArray} (hj : j < P.length) (hp : p = P.getD j ByteArray.empty) (hb : isName p = false) : P.all isName = false := by
  rw [List.getD_eq_getElem?_getD, List.getElem?_eq_getElem hj] at hp
  simp at hp
  rw [List.all_eq_false]
  exact ⟨p, by rw [hp]; exact List.getElem_mem _, by simp [hb]⟩

set_option maxRecDepth 100000 in
set_option maxHeartbeats 1000000 in
theorem valid_any (w : World) (s : ByteArray) (m : Int) (hs : s.size ≤ 100000) (hm : w.cell? ⟨0, 0, none⟩ = some (.int .i64 m)) : Calls Tryz.prog 50 #[.string s] w fun e w' => e = .returned (.bool (isPath s)) ∧ Below w.heap.size w w' := by
  have hsp := Tryz.strings_Split s slash m w (by omega) hm (by decide)
  obtain ⟨P, hP⟩ : ∃ P, P = namesOf s := ⟨_, rfl⟩
  have hPl : P.length = Lib.countB s slash + 1 := by rw [hP]; exact namesOf_length s
  obtain ⟨n, hn⟩ : ∃ n, n = Lib.countB s slash + 1 := ⟨_, rfl⟩
  have HP := Aside0.mk (show (∀ p ∈ P, p.size ≤ s.size) from fun p hp => names_size _ _ _ _ p (by rw [hP] at hp; exact hp))
  have HS : Aside0 (isPath s = (P.all isName && decide (s.size ≤ 60) && decide (n ≤ 8))) := ⟨by unfold isPath; rw [← hP, hPl, ← hn]⟩
  obtain ⟨W1, hW⟩ : ∃ W1, W1 = w.alloc (.cells (P.map Value.string).toArray 9) := ⟨_, rfl⟩
  have hW1 : W1.heap[w.heap.size]? = some (.cells (P.map Value.string).toArray 9 (0, 0)) := by rw [hW]; exact heap_alloc_new w _
  have HB := Aside0.mk (show Below w.heap.size w W1 by rw [hW]; exact below_alloc (Below.refl _ _) _)
  have HC := Aside0.mk (fun (j : Nat) (hj : j < n) (W : World) (hB : Below W1.heap.size W1 W) => (by
    rw [hB.cell (by show w.heap.size < _; exact blk_lt hW1), blk_cell hW1]
    simp [hPl, hn ▸ hj, hj, ← hn, List.getD_eq_getElem?_getD] : W.cell? ⟨w.heap.size, j, none⟩ = some (.string (P.getD j ByteArray.empty))))
  have hsp' : Calls Tryz.prog 110 #[.string s, .string slash] w fun e w' => e = .returned (.slice (some ⟨w.heap.size, 0, none⟩) n n) ∧ w' = W1 := by
    rw [hn, hW, hP]; exact hsp
  have HPL := Aside0.mk (hPl.trans hn.symm)
  have hnb : n ≤ 100001 := by have := Lib.countB_le slash (by decide) s.size s (Nat.le_refl _); omega
  have hn' : (n : Int) ≤ 100001 := by omega
  have HSZ := Aside0.mk hs
  clear hsp hP hPl hn hW hW1 hm hs
  go_enter Tryz.func50, Tryz.ntmps50
  go_wp2_with (go_at_call 110; refine hsp'.mono ?_; rintro e w1 ⟨rfl, rfl⟩)
  go_loopg [10, 5] n (fun kq v10 v5 w' => ∃ j : Nat, v10 = .int .i64 j ∧ Aside0 (j + kq = n) ∧ Aside0 ((P.take j).all isName = true) ∧ Aside0 (Below w1.heap.size w1 w'))
  case atStart => exact ⟨0, rfl, ⟨by omega⟩, ⟨rfl⟩, ⟨Below.refl _ _⟩⟩
  case round =>
    obtain ⟨j, rfl, P1, P2, P3⟩ := hrel
    cases gk with
    | zero =>
      have t1 : ¬ j < n := by have := P1.out; omega
      have P4 : Aside0 (P.all isName = true) := ⟨by have h := P2.out; rw [List.take_of_length_le (by have := HPL.out; omega)] at h; exact h⟩
      have P5 := Aside0.mk (below_then HB.out HB.out.size P3.out)
      go_wp2
      all_goals
        go_ret
        refine ⟨?_, P5.out⟩
        rw [HS.out, P4.out]
        first
          | (have h1 : (s.size : Int) ≤ 60 := by assumption
             have h2 : s.size ≤ 60 := by omega
             simp [h2]
             try omega)
          | (have h1 : (60 : Int) < s.size := by assumption
             have h2 : ¬ s.size ≤ 60 := by omega
             simp [h2])
    | succ gk =>
      have t1 : j < n := by have := P1.out; omega
      obtain ⟨p, hp⟩ : ∃ p, p = P.getD j ByteArray.empty := ⟨_, rfl⟩
      have d1 := HC.out j t1 wr P3.out
      rw [← hp] at d1
      have hnm := named_any wr p (by have h1 := HSZ.out; have h2 := HP.out p (by rw [hp, List.getD_eq_getElem?_getD, List.getElem?_eq_getElem (by have := HPL.out; omega)]; exact List.getElem_mem _); omega)
      have e8 : IntKind.i64.wrap ((j : Int) + 1) = (j : Int) + 1 := IntWalk.i64_in _ (by omega)
      have P6 := Aside0.mk hp
      clear hp
      go_wp2_with (go_at_call 68; refine hnm.mono ?_; rintro e w2 ⟨rfl, h⟩; have P7 := Aside0.mk (below_then P3.out P3.out.size h); clear h)
      · have hb : isName p = false := by have h : (!isName p) = true := by assumption
                                         simpa using h
        go_ret
        refine ⟨?_, below_then HB.out HB.out.size P7.out⟩
        rw [HS.out, names_false (by have := HPL.out; omega) P6.out hb]
        rfl
      · have hb : isName p = true := by have h : (!isName p) = false := by assumption
                                        simpa using h
        have P8 := Aside0.mk (names_take P2.out (by have := HPL.out; omega) P6.out hb)
        go_roundg gk
        case measure => omega
        case rel => exact ⟨j + 1, by simp, ⟨by have := P1.out; omega⟩, P8, P7⟩
end Go.Proofs.YtkjplffpihfliaaGreatDoor
