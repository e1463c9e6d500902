/- The contract of room.named. -/
import Derived.Test.YtkjplffpihfliaaGreatDoorSMap
import Derived.IntWalk
namespace Go.Proofs.YtkjplffpihfliaaGreatDoor
open Go.RowKit Go.Proofs.YtkjplffpihfliaaGreatDoorW.PrintWords PAll

/-- Whether a byte may stand in a name. -/
def nameByte (c : Int) : Bool := (97 ≤ c && c ≤ 122) || (48 ≤ c && c ≤ 57) || c == 45 || c == 46
def bytesI (s : ByteArray) : List Int := s.data.toList.map (fun b => (b.toNat : Int))
/-- Whether a text is a name. -/
def isName (s : ByteArray) : Bool := (bytesI s).all nameByte && decide (1 ≤ s.size) && decide (s.size ≤ 16)

theorem bytesI_length (s : ByteArray) : (bytesI s).length = s.size := by simp [bytesI]
theorem bytesI_range (s : ByteArray) (j : Nat) : 0 ≤ (bytesI s).getD j 0 ∧ (bytesI s).getD j 0 < 256 := by
  rw [List.getD_eq_getElem?_getD]
  unfold bytesI
  rw [List.getElem?_map]
  cases s.data.toList[j]? with
  | none => simp
  | some b =>
    simp
    have := b.toNat_lt
    omega
/-- The bytes of a string as a new slice. -/
theorem conv_run (w : World) (s : ByteArray) : ∃ cap W1, (convert 9 31 (.string s)).run Tryz.prog w = .ok (.slice (some ⟨w.heap.size, 0, none⟩) s.size cap) W1 ∧ Below w.heap.size w W1 ∧ (∀ j, j < s.size → W1.cell? ⟨w.heap.size, j, none⟩ = some (.int .u8 ((bytesI s).getD j 0))) := by
  refine ⟨_, _, run_bytes_of_string w 9 31 5 s Tryz.underlying9 Tryz.underlying31 Tryz.underlying5, ?_, fun j hj => ?_⟩
  · exact Below.alloc (Below.refl _ _).drew (Nat.le_refl _) _
  · have h0 : (w.drew.alloc (.cells (bytesRow s (grownCap w s.size 0 5)) 5 ((bytesRow s (grownCap w s.size 0 5)).size, (bytesRow s (grownCap w s.size 0 5)).size + 1))).heap[w.heap.size]? = some (.cells (bytesRow s (grownCap w s.size 0 5)) 5 ((bytesRow s (grownCap w s.size 0 5)).size, (bytesRow s (grownCap w s.size 0 5)).size + 1)) := by
      show (w.heap.push _)[w.heap.size]? = _
      simp
    rw [cell_of_row _ _ _ _ _ _ h0, bytesRow_at s _ j hj, List.getD_eq_getElem?_getD]
    unfold bytesI
    rw [List.getElem?_map]
    have : s.data.toList[j]? = some s.data[j] := by simp [hj]
    rw [this]
    rfl

theorem take_all {l : List Int} {j : Nat} {c : Int} (h : (l.take j).all nameByte = true) (hj : j < l.length) (hc : c = l.getD j 0) (hb : nameByte c = true) : (l.take (j + 1)).all nameByte = true := by
  rw [List.take_add_one, List.all_append, h, List.getElem?_eq_getElem hj]
  rw [List.getD_eq_getElem?_getD, List.getElem?_eq_getElem hj] at hc
  simp at hc
  simp [← hc, hb]
theorem all_false {l : List Int} {j : Nat} {c : Int} (hj : j < l.length) (hc : c = l.getD j 0) (hb : nameByte c = false) : l.all nameByte = false := by
  rw [List.getD_eq_getElem?_getD, List.getElem?_eq_getElem hj] at hc
  simp at hc
  rw [List.all_eq_false]
  exact ⟨c, by rw [hc]; exact List.getElem_mem _, by simp [hb]⟩

set_option maxRecDepth 100000 in
set_option maxHeartbeats 1000000 in
theorem named_any (w : World) (s : ByteArray) (hs : s.size ≤ 100000) : Calls Tryz.prog 68 #[.string s] w fun e w' => e = .returned (.bool (isName s)) ∧ Below w.heap.size w w' := by
  obtain ⟨cap, W1, hconv, hB, hc⟩ := conv_run w s
  obtain ⟨n, hn⟩ : ∃ n, n = s.size := ⟨_, rfl⟩
  obtain ⟨l, hl⟩ : ∃ l, l = bytesI s := ⟨_, rfl⟩
  have hll : l.length = n := by rw [hl, hn]; exact bytesI_length s
  have hr : ∀ j, 0 ≤ l.getD j 0 ∧ l.getD j 0 < 256 := fun j => by rw [hl]; exact bytesI_range s j
  have HC := Aside0.mk hc
  have HB := Aside0.mk hB
  have HL := Aside0.mk (And.intro hl (And.intro hn (And.intro hll hr)))
  rw [← hn] at hconv
  clear hc hB hl hll hr
  have HS : Aside0 (isName s = (l.all nameByte && decide (1 ≤ n) && decide (n ≤ 16))) := ⟨by unfold isName; rw [HL.out.1, HL.out.2.1]⟩
  have hn' : (n : Int) ≤ 100000 := by omega
  have hsz : s.size = n := hn.symm
  clear hn hs
  go_enter Tryz.func68, Tryz.ntmps68
  go_wp2
  go_loopg [8, 4] n (fun kq v8 v4 w' => ∃ j : Nat, v8 = .int .i64 j ∧ Aside0 (j + kq = n) ∧ Aside0 ((l.take j).all nameByte = true) ∧ w' = W1)
  case atStart => exact ⟨0, rfl, ⟨by omega⟩, ⟨rfl⟩, rfl⟩
  case round =>
    obtain ⟨j, rfl, P1, P2, rfl⟩ := hrel
    cases gk with
    | zero =>
      have t1 : ¬ j < n := by have := P1.out; omega
      have P3 : Aside0 (l.all nameByte = true) := ⟨by have h := P2.out; rw [List.take_of_length_le (by have := HL.out.2.2.1; omega)] at h; exact h⟩
      go_wp2
      all_goals
        go_ret
        refine ⟨?_, HB.out⟩
        rw [HS.out, P3.out]
        first
          | (have h1 : (1 : Int) ≤ n := by assumption
             have h2 : 1 ≤ n := by omega
             simp [h2]
             omega)
          | (have h1 : (n : Int) < 1 := by assumption
             have h2 : ¬ 1 ≤ n := by omega
             simp [h2])
    | succ gk =>
      have t1 : j < n := by have := P1.out; omega
      obtain ⟨c, hc⟩ : ∃ c, c = l.getD j 0 := ⟨_, rfl⟩
      have d1 := HC.out j (by rw [← HL.out.2.1]; exact t1)
      rw [← HL.out.1, ← hc] at d1
      have e8 : IntKind.i64.wrap ((j : Int) + 1) = (j : Int) + 1 := IntWalk.i64_in _ (by omega)
      have P4 := Aside0.mk hc
      clear hc
      go_wp2
      all_goals first
        | (have hb : nameByte c = false := by
             rw [Bool.eq_false_iff]
             unfold nameByte
             simp only [Bool.or_eq_true, Bool.and_eq_true, decide_eq_true_eq, beq_iff_eq, ne_eq]
             try simp only [bne_iff_ne, ne_eq, bne_eq_false_iff_eq] at *
             omega
           go_ret
           refine ⟨?_, HB.out⟩
           rw [HS.out, all_false (by rw [HL.out.2.2.1]; exact t1) P4.out hb]
           rfl)
        | (have hb : nameByte c = true := by
             unfold nameByte
             simp only [Bool.or_eq_true, Bool.and_eq_true, decide_eq_true_eq, beq_iff_eq]
             try simp only [bne_iff_ne, ne_eq, bne_eq_false_iff_eq] at *
             omega
           have P5 := Aside0.mk (take_all P2.out (by rw [HL.out.2.2.1]; exact t1) P4.out hb)
           go_roundg gk
           case measure => omega
           case rel => exact ⟨j + 1, by simp, ⟨by have := P1.out; omega⟩, P5, rfl⟩)
end Go.Proofs.YtkjplffpihfliaaGreatDoor
