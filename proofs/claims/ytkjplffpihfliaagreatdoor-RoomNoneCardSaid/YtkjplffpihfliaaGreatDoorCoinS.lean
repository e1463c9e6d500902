/- The coin closure of Places, and slices.SortedFunc over the keys of a map of one key. -/
import Derived.Test.YtkjplffpihfliaaGreatDoorColl
import Derived.Test.YtkjplffpihfliaaGreatDoorSort1
import Derived.OpenShut
namespace Go.Proofs.YtkjplffpihfliaaGreatDoor
open Go.RowKit Go.Proofs.YtkjplffpihfliaaGreatDoorW.PrintWords PAll

/-- The bytes of a string as a new slice, read. -/
theorem conv_C (w : World) (s : ByteArray) (hs : s.size ≤ 100000) : ∃ cap W1, (convert 9 31 (.string s)).run Tryz.prog w = .ok (.slice (some ⟨w.heap.size, 0, none⟩) s.size cap) W1 ∧ Below w.heap.size w W1 ∧ s.size ≤ cap ∧ Kd.C kU W1 (some ⟨w.heap.size, 0, none⟩) (bytesI s).length (bytesI s) := by
  obtain ⟨cap, W1, h1, h2, h3⟩ := conv_run w s
  have h4 := run_bytes_of_string (P := Tryz.prog) w 9 31 5 s Tryz.underlying9 Tryz.underlying31 Tryz.underlying5
  rw [h1] at h4
  injection h4 with h5 h6
  injection h5 with _ _ h7
  refine ⟨cap, W1, h1, h2, by rw [h7]; exact grownCap_ge _ _ _ _, Kd.C_of_reads (d := 0) ⟨rfl, by rw [bytesI_length]; omega, fun _ => ⟨_, rfl, fun j hj => ?_⟩⟩⟩
  rw [bytesI_length] at hj
  rw [add_plain]
  exact h3 j hj
set_option maxRecDepth 100000 in
theorem coinS_any (w : World) (bx g : Nat) (seed tag : Int) (s : ByteArray) (hs : s.size ≤ 100000) (h1 : w.cell? ⟨bx, 0, none⟩ = some (.pointer (some ⟨g, 0, none⟩))) (h2 : w.cell? ⟨g, 0, none⟩ = some (.int .u64 seed)) :
    Calls Tryz.prog 70 #[.int .i64 tag, .string s, .pointer (some ⟨bx, 0, none⟩)] w fun e w' => e = .returned (.int .u64 (coin seed tag (bytesI s))) ∧ Below w.heap.size w w' := by
  obtain ⟨cap, W1, hconv, hB, hcap, hC⟩ := conv_C w s hs
  have hc := slots_Coin.calls ((bytesI s).length + 1) seed tag (some ⟨w.heap.size, 0, none⟩) cap (bytesI s) _ W1 hC (by rw [bytesI_length]; exact hcap) (coin_f seed tag (bytesI s) (by rw [bytesI_length]; omega))
  rw [bytesI_length] at hc
  obtain ⟨r, hr⟩ : ∃ r, r = coin seed tag (bytesI s) := ⟨_, rfl⟩
  rw [← hr] at hc ⊢
  obtain ⟨n, hn⟩ : ∃ n, n = s.size := ⟨_, rfl⟩
  rw [← hn] at hc hconv
  have HB := Aside0.mk hB
  clear hr hB hcap hC hs hn
  go_enter Tryz.func70, Tryz.ntmps70
  go_wp2_with (go_at_call 71; refine hc.mono ?_; rintro e w2 ⟨rfl, hd⟩)
  go_ret
  exact ⟨rfl, below_then HB.out HB.out.size hd.below⟩

set_option maxRecDepth 100000 in
theorem sortedFunc1 (w : World) (Bm b : Nat) (s : ByteArray) (v : Value) (f : Value) (hs : s.size ≤ 100000) (hm : w.cell? ⟨Bm, 0, none⟩ = some (.map (some b))) (h : SMap w b [(s, v)]) :
    Calls Tryz.prog 72 #[keyFn 126 Bm, f] w fun e w' => ∃ g c, e = .returned (.slice (some ⟨g, 0, none⟩) 1 c) ∧ w'.cell? ⟨g, 0, none⟩ = some (.string s) ∧ w.heap.size ≤ g ∧ Below w.heap.size w w' := by
  have hc := collectB_any w Bm b _ hm h (by simp) (by intro p hp; simp at hp; subst hp; exact hs)
  have hc' : Calls Tryz.prog 124 #[keyFn 126 Bm] w fun e w' => ∃ g c, e = .returned (.slice (some ⟨g, 0, none⟩) 1 c) ∧ Aside0 (w'.cell? ⟨g, 0, none⟩ = some (.string s) ∧ w.heap.size ≤ g ∧ Below w.heap.size w w') := by
    refine hc.mono ?_
    rintro e w' ⟨u, ss, rfl, ⟨hp, hrow⟩, hB⟩
    have hss : ss = [s.data.toList] := List.perm_singleton.1 hp
    subst hss
    obtain ⟨A, c, rfl⟩ := own_slice hrow
    have hrow' := hrow
    obtain ⟨_, hrow2⟩ := hrow'
    rcases hrow2 with ⟨_, hz⟩ | ⟨g, cap, cur, he, _⟩
    · cases hz
    · cases he
      obtain ⟨cur, _, _, _, _, hb, _, hcell⟩ := own_get hrow
      refine ⟨g, c, rfl, ⟨?_, hb, hB⟩⟩
      have := hcell 0 _ rfl
      rw [this]
  have hst := fun W g c => sort1_S W (some ⟨g, 0, none⟩) c f
  clear hc h hm hs
  go_enter Tryz.func72, Tryz.ntmps72
  go_wp2_with (first | (go_at_call 124; refine hc'.mono ?_; rintro e w2 ⟨g, c, rfl, hh⟩) | (go_at_call 125; refine (hst _ _ _).mono ?_; rintro e w3 ⟨rfl, hw⟩; cases hw))
  go_ret
  exact ⟨g, c, rfl, hh.out⟩
theorem coin_l0_range (x2 : List Int) : ∀ (k : Nat) (h : Int) (xs : List Int) (N i r : Int), slots_Coin.l0 k x2 h xs N i = some r → (Lit.int .u64 r).wf = true
  | 0, h, xs, N, i, r, e => by simp [slots_Coin.l0] at e
  | k + 1, h, xs, N, i, r, e => by
    unfold slots_Coin.l0 at e
    split at e
    · split at e
      · split at e
        · exact coin_l0_range x2 k _ _ _ _ _ e
        · cases e
      · cases e
    · injection e with e
      rw [← e]
      exact Go.wf_bits _ _ _ _
theorem coin_range (seed tag : Int) (l : List Int) (hl : l.length ≤ 140737488355328) : 0 ≤ coin seed tag l ∧ coin seed tag l < 18446744073709551616 := by
  have h := coin_f seed tag l hl
  have h2 : (Lit.int .u64 (coin seed tag l)).wf = true := coin_l0_range _ _ _ _ _ _ _ h
  have := Go.bounds_u64 h2
  omega
end Go.Proofs.YtkjplffpihfliaaGreatDoor
