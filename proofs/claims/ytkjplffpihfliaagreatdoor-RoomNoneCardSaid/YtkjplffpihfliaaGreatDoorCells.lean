/- The contract of (*Row).Cells. -/
import Derived.Test.YtkjplffpihfliaaGreatDoorRow
import Derived.IntWalk
namespace Go.Proofs.YtkjplffpihfliaaGreatDoor
open Go.RowKit Go.Proofs.YtkjplffpihfliaaGreatDoorW.PrintWords PAll

/-- How many cells a row of n items has. -/
def cellsN : Nat → Nat → Nat → Nat
  | 0, _, c => c
  | k + 1, n, c => if c < 2 * n then cellsN k n (c * 2) else c
def cellCount (n : Nat) : Nat := if 4 < n then cellsN 10 n 8 else 8
abbrev CellD := Bool × (List Int × List Int)
def noCell : CellD := (false, [], [])
def fillCells (n c : Nat) : Nat → List (List Int) → List CellD → List CellD
  | _, [], acc => acc
  | i, x :: r, acc => fillCells n c (i + 1) r (acc.set (i * c / n) (true, [], x))
/-- The cells of a row. -/
def rowCells (l : List (List Int)) : List CellD := fillCells l.length (cellCount l.length) 0 l (List.replicate (cellCount l.length) noCell)

theorem cellsN_pow (n : Nat) : ∀ k c, c * 2 ^ k = 8192 → ∃ j, j ≤ k ∧ cellsN k n c * 2 ^ j = 8192
  | 0, c, h => ⟨0, Nat.le_refl _, h⟩
  | k + 1, c, h => by
    unfold cellsN
    split
    · obtain ⟨j, h1, h2⟩ := cellsN_pow n k (c * 2) (by rw [Nat.mul_assoc, ← Nat.pow_succ']; exact h)
      exact ⟨j, by omega, h2⟩
    · exact ⟨k + 1, Nat.le_refl _, h⟩
theorem cellCount_le (n : Nat) : cellCount n ≤ 8192 ∧ 0 < cellCount n := by
  unfold cellCount
  split
  · obtain ⟨j, _, h⟩ := cellsN_pow n 10 8 (by decide)
    have : 0 < 2 ^ j := Nat.pos_of_ne_zero (by simp)
    constructor
    · calc cellsN 10 n 8 ≤ cellsN 10 n 8 * 2 ^ j := Nat.le_mul_of_pos_right _ this
        _ = 8192 := h
        _ ≤ 8192 := Nat.le_refl _
    · rcases Nat.eq_zero_or_pos (cellsN 10 n 8) with h0 | h0
      · rw [h0] at h; simp at h
      · exact h0
  · omega

abbrev kCell : Kd CellD := Kd.pair Kd.bool (Kd.pair (Kd.slice 5 (Kd.int .u8)) (Kd.slice 5 (Kd.int .u8)))
abbrev tCell : Nat := 101
theorem infoCell : (Tryz.prog.info? tCell).map (fun i => (i.zero, i.size, i.bytes)) = some (some (.agg #[.bool false, .slice none 0 0, .slice none 0 0]), 3, 56) := by kernel_rfl

theorem items_at {w : World} {A : Option Addr} {n : Nat} {l : List (List Int)} (h : kB.C w A n l) {j : Nat} (hj : j < n) :
    ∃ ad A' c', A = some ad ∧ w.cell? (ad.add j) = some (.slice A' (l.getD j []).length c') ∧ Kd.C (Kd.int .u8) w A' (l.getD j []).length (l.getD j []) := by
  obtain ⟨ad, c, hA, hcl, hK, hc⟩ := ReadsRow.get_ h [] (j : Int) (by omega) (by omega)
  obtain ⟨A', c', rfl, _, hr⟩ := hK
  refine ⟨ad, A', c', hA, ?_, hr⟩
  have h0 := hc 0 _ rfl
  have e1 : kB.sz = 1 := rfl
  simpa [e1] using h0

theorem fill_pos {j c n : Nat} (hj : j < n) : j * c / n < c ∨ c = 0 := by
  rcases Nat.eq_zero_or_pos c with h | h
  · exact .inr h
  · exact .inl (Nat.div_lt_of_lt_mul (by rw [Nat.mul_comm n c, Nat.mul_comm j c]; exact Nat.mul_lt_mul_of_pos_left hj h))

/-- The cells of an own row. -/
theorem R_cells {α : Type} {d : Kd α} {e : Nat} {w : World} {base : Nat} {ok : Nat → Prop} {b n cap : Nat} {xs : List α} (h : d.R e w base ok (.slice (some ⟨b, 0, none⟩) n cap) xs) : ∃ cur, w.heap[b]? = some (.cells cur e (0, 0)) ∧ n * d.sz ≤ cur.size := by
  obtain ⟨_, inner, ho, _⟩ := h
  rcases ho.2 with ⟨hv, _⟩ | ⟨g', cap', cur, hv, hb, hh, hnc', hcm, hcs, ht⟩
  · cases hv
  · cases hv
    exact ⟨cur, hh, by rw [hcs]; exact Nat.mul_le_mul_right _ hnc'⟩
/-- What a round of filling leaves: the copy, and the row of cells as it stands behind it. -/
def Round (w wr w2 : World) (b n cap : Nat) (acc : List CellD) (v : Value) (xs : List Int) : Prop :=
  Buf w2 wr.heap.size v xs ∧ Below wr.heap.size wr w2 ∧ Kd.R kCell tCell w2 w.heap.size (fun k => w.heap.size ≤ k ∧ k < wr.heap.size) (.slice (some ⟨b, 0, none⟩) n cap) acc ∧ w.heap.size ≤ wr.heap.size
theorem round_store {w wr w2 : World} {b n cap p : Nat} {acc : List CellD} {v : Value} {xs : List Int} (h : Round w wr w2 b n cap acc v xs) (hp : p < n) :
    Kd.R kCell tCell (w2.setCells b (p * 3) [.bool true, .slice none 0 0, v]) w.heap.size (fun k => w.heap.size ≤ k) (.slice (some ⟨b, 0, none⟩) n cap) (acc.set p (true, [], xs)) ∧ w2.grownBy (w2.setCells b (p * 3) [.bool true, .slice none 0 0, v]) (some b) := by
  obtain ⟨h1, h2, h3, h4⟩ := h
  obtain ⟨cur, hb, hs⟩ := R_cells h3
  have hsz : kCell.sz = 3 := rfl
  rw [hsz] at hs
  have hbk := h3.1 b rfl
  have hR : Kd.R kCell tCell w2 w.heap.size (fun k => w.heap.size ≤ k) (.slice (some ⟨b, 0, none⟩) n cap) acc := Kd.R_mono h3 (fun _ hk => hk.1)
  obtain ⟨x0, e0⟩ : ∃ x, w2.cell? ⟨b, p * 3, none⟩ = some x := ⟨_, by rw [blk_cell hb]; exact Array.getElem?_eq_getElem (by omega)⟩
  obtain ⟨x1, e1⟩ : ∃ x, w2.cell? ⟨b, p * 3 + 1, none⟩ = some x := ⟨_, by rw [blk_cell hb]; exact Array.getElem?_eq_getElem (by omega)⟩
  obtain ⟨x2, e2⟩ : ∃ x, w2.cell? ⟨b, p * 3 + 2, none⟩ = some x := ⟨_, by rw [blk_cell hb]; exact Array.getElem?_eq_getElem (by omega)⟩
  have hM : kCell.M w2 w.heap.size (fun k => wr.heap.size ≤ k) (true, [], xs) [.bool true, .slice none 0 0, v] :=
    ⟨[.bool true], [.slice none 0 0, v], rfl, rfl, [.slice none 0 0], [v], rfl, ⟨_, rfl, Kd.R_nil _ _ _ _ _⟩, ⟨_, rfl, Kd.R_lower h1 h4⟩⟩
  have := Kd.R_seg (okp := fun k => wr.heap.size ≤ k) hR (p : Int) (by omega) (by omega) (c := [x0, x1, x2]) (seg := [.bool true, .slice none 0 0, v]) (j := 0) rfl
    (by
      intro j u hj
      rw [Int.toNat_natCast, hsz]
      rcases j with _ | _ | _ | j
      · simp at hj; subst hj; exact e0
      · simp at hj; subst hj; exact e1
      · simp at hj; subst hj; exact e2
      · simp at hj)
    (by rw [hsz]; exact Nat.le_refl _) (x' := (true, [], xs)) (by simpa using hM) (fun k hk => ⟨Nat.le_trans h4 hk, fun e => by have := hbk.2; omega⟩)
  rw [Int.toNat_natCast, hsz, Nat.add_zero] at this
  exact this
theorem R_shape {α : Type} {d : Kd α} {e : Nat} {w : World} {base : Nat} {ok : Nat → Prop} {v : Value} {xs : List α} {b : Nat} (h : d.R e w base ok v xs) (hb : v.ownBlock = some b) : ∃ cap, v = .slice (some ⟨b, 0, none⟩) xs.length cap := by
  obtain ⟨A, c, rfl, _, _⟩ := Kd.R_reads h
  cases A with
  | none => simp [Value.ownBlock] at hb
  | some ad =>
    obtain ⟨g, rfl⟩ := Kd.R_head h
    simp [Value.ownBlock] at hb
    subst hb
    exact ⟨c, rfl⟩
theorem noCell_M (w : World) (base : Nat) (ok : Nat → Prop) : kCell.M w base ok noCell (Value.agg #[.bool false, .slice none 0 0, .slice none 0 0]).cells.toList :=
  ⟨[.bool false], [.slice none 0 0, .slice none 0 0], rfl, rfl, [.slice none 0 0], [.slice none 0 0], rfl, ⟨_, rfl, Kd.R_nil _ _ _ _ _⟩, ⟨_, rfl, Kd.R_nil _ _ _ _ _⟩⟩

theorem quo_facts {j n : Nat} (hj : j < n) (hn : (n : Int) ≤ 1000) : ∃ p, p = j * cellCount n / n ∧ ∃ q : Nat, IntKind.i64.wrap ((j : Int) * (cellCount n : Int)) = (q : Int) ∧ (q : Int).tdiv (n : Int) = (p : Int) ∧ (q : Int) / (n : Int) = (p : Int) ∧ IntKind.i64.wrap (p : Int) = p := by
  have hqb : j * cellCount n ≤ 1000 * 8192 := Nat.mul_le_mul (by omega) (cellCount_le n).1
  have hp : j * cellCount n / n ≤ j * cellCount n := Nat.div_le_self _ _
  refine ⟨_, rfl, j * cellCount n, ?_, rfl, rfl, IntWalk.i64_in _ ⟨by have : (0 : Int) ≤ ((j * cellCount n / n : Nat) : Int) := Int.natCast_nonneg _; omega, by have : ((j * cellCount n / n : Nat) : Int) ≤ ((j * cellCount n : Nat) : Int) := Int.ofNat_le.2 hp; omega⟩⟩
  rw [← Int.natCast_mul]
  exact IntWalk.i64_in _ (by omega)
theorem keep3 {w : World} {g b i x y z : Nat} {v u u' u'' : Value} (hg : g ≠ b) (h : w.cell? ⟨g, i, none⟩ = some v) : (((w.setCell ⟨b, x, none⟩ u).setCell ⟨b, y, none⟩ u').setCell ⟨b, z, none⟩ u'').cell? ⟨g, i, none⟩ = some v := by
  rw [World.cell?_setCell_other _ _ _ _ (fun e => hg (congrArg Addr.block e).symm), World.cell?_setCell_other _ _ _ _ (fun e => hg (congrArg Addr.block e).symm), World.cell?_setCell_other _ _ _ _ (fun e => hg (congrArg Addr.block e).symm)]
  exact h
theorem getD_lt {α : Type} {l : List α} {j : Nat} {d : α} (h : j < l.length) : l.getD j d = l[j] := by simp [List.getD, h]
theorem fill_step {n c j p : Nat} {l : List (List Int)} {acc R : List CellD} {xs : List Int} (h : fillCells n c j (l.drop j) acc = R) (hj : j < l.length) (hx : xs = l.getD j []) (hp : p = j * c / n) : fillCells n c (j + 1) (l.drop (j + 1)) (acc.set p (true, [], xs)) = R := by
  rw [List.drop_eq_getElem_cons hj] at h
  rw [← h, hp, hx, getD_lt hj]
  rfl
theorem round_below {w wr w2 : World} {b n cap p : Nat} {acc : List CellD} {v : Value} {xs : List Int} (h : Round w wr w2 b n cap acc v xs) (hp : p < n) (h0 : Below w.heap.size w wr) (hb : w.heap.size ≤ b) :
    Below w.heap.size w (w2.setCells b (p * 3) [.bool true, .slice none 0 0, v]) := by
  have h2 := (round_store h hp).2
  have h1 : Below w.heap.size w w2 := below_then h0 h0.size h.2.1
  exact h1.grown h2 h1.size (fun k hk => by injection hk with hk; omega)
theorem round_clone (w wr : World) (g b n cap p j : Nat) (A1 : Option Addr) (c1 : Nat) (A : Option Addr) (c : Nat) (acc : List CellD) (l : List (List Int)) (xs : List Int) (hgl : w.cell? ⟨g, 1, none⟩ = some (.slice A1 n c1)) (hx : Kd.C (Kd.int .u8) w A xs.length xs) (hxl : xs.length ≤ 100) (hp : p < cellCount n)
    (H : Kd.R kCell tCell wr w.heap.size (fun k => w.heap.size ≤ k) (.slice (some ⟨b, 0, none⟩) (cellCount n) cap) acc ∧ Below w.heap.size w wr ∧ fillCells n (cellCount n) j (l.drop j) acc = rowCells l) :
    Calls Tryz.prog 48 #[.slice A xs.length c] wr.drew fun e w2 => ∃ A3 c3 x0 x1 x2, e = .returned (.slice A3 xs.length c3) ∧ w2.cell? ⟨g, 1, none⟩ = some (.slice A1 n c1) ∧ w2.cell? ⟨b, p * 3, none⟩ = some x0 ∧ w2.cell? ⟨b, p * 3 + 1, none⟩ = some x1 ∧ w2.cell? ⟨b, p * 3 + 2, none⟩ = some x2 ∧ (∀ k, w2.frozen? ⟨b, k, none⟩ = false) ∧
      Aside0 (Round w wr w2 b (cellCount n) cap acc (.slice A3 xs.length c3) xs) := by
  obtain ⟨h1, h2, _⟩ := H
  refine (clone_any wr.drew A c xs (Kd.C_drew (Kd.C_below hx h2)) (by omega)).mono ?_
  rintro e w2 ⟨v, rfl, hb, hB⟩
  obtain ⟨A3, c3, rfl, _, _⟩ := hb.reads
  have hB' : Below wr.heap.size wr w2 := ⟨hB.os, hB.tape, hB.output, hB.size, hB.block⟩
  have hR : Kd.R kCell tCell w2 w.heap.size (fun k => w.heap.size ≤ k ∧ k < wr.heap.size) (.slice (some ⟨b, 0, none⟩) (cellCount n) cap) acc := Kd.R_mono (Kd.R_below (Kd.R_bound h1) hB') (fun k hk => ⟨hk.1, hk.2.2.1⟩)
  obtain ⟨cur, hbk, hs⟩ := R_cells hR
  have hsz : kCell.sz = 3 := rfl
  rw [hsz] at hs
  obtain ⟨x0, e0⟩ : ∃ x, w2.cell? ⟨b, p * 3, none⟩ = some x := ⟨_, by rw [blk_cell hbk]; exact Array.getElem?_eq_getElem (by omega)⟩
  obtain ⟨x1, e1⟩ : ∃ x, w2.cell? ⟨b, p * 3 + 1, none⟩ = some x := ⟨_, by rw [blk_cell hbk]; exact Array.getElem?_eq_getElem (by omega)⟩
  obtain ⟨x2, e2⟩ : ∃ x, w2.cell? ⟨b, p * 3 + 2, none⟩ = some x := ⟨_, by rw [blk_cell hbk]; exact Array.getElem?_eq_getElem (by omega)⟩
  have hgw : g < w.heap.size := World.block_lt_of_cell? _ _ hgl
  refine ⟨A3, c3, x0, x1, x2, rfl, ?_, e0, e1, e2, blk_frozen hbk, ⟨hb, hB', hR, h2.size⟩⟩
  rw [hB'.cell (by have := h2.size; show g < wr.heap.size; omega), h2.cell hgw]
  exact hgl

set_option maxRecDepth 100000 in
set_option maxHeartbeats 1000000 in
theorem cells_any (w : World) (base : Nat) (ok : Nat → Prop) (g : Nat) (l : List (List Int)) (h : RowIs w base ok g l) (hl : l.length ≤ 1000) (hxl : ∀ x ∈ l, x.length ≤ 100) :
    Calls Tryz.prog 31 #[.pointer (some ⟨g, 0, none⟩)] w fun e w' => ∃ v', e = .returned v' ∧ Kd.R kCell tCell w' w.heap.size (fun k => w.heap.size ≤ k) v' (rowCells l) ∧ Below w.heap.size w w' := by
  obtain ⟨hg, iv, hgl, hR⟩ := h
  have hreal := row_real w g iv hgl
  obtain ⟨A1, c1, rfl, hc1, hC⟩ := Kd.R_reads hR
  have d0 : w.cell? ⟨g, 1, none⟩ = some (.slice A1 l.length c1) := by rw [blk_cell hgl]; rfl
  obtain ⟨n, hn⟩ : ∃ n, n = l.length := ⟨_, rfl⟩
  rw [← hn] at d0 hc1 hC hl hgl
  have HG := Aside0.mk hgl
  have HC := Aside0.mk hC
  have HR := Aside0.mk hR
  have HN := Aside0.mk hn
  have HX := Aside0.mk hxl
  have hn' : (n : Int) ≤ 1000 := by omega
  clear hgl hC hR hxl hc1 hn hl
  go_enter Tryz.func31, Tryz.ntmps31
  go_wp2_with (go_at_call 46; refine hreal.mono ?_; rintro e w ⟨rfl, rfl⟩)
  clear hreal
  go_loopg [3] 10 (fun kq v3 w' => ∃ c : Nat, v3 = .int .i64 c ∧ Aside0 (c * 2 ^ kq = 8192) ∧ Aside0 (4 < n → cellsN kq n c = cellCount n) ∧ Aside0 (¬ 4 < n → c = 8) ∧ (c : Int) ≤ 8192 ∧ w = w')
  case atStart => exact ⟨8, rfl, ⟨by decide⟩, ⟨fun h => by unfold cellCount; rw [if_pos h]⟩, ⟨fun _ => rfl⟩, by decide, rfl⟩
  case round =>
    obtain ⟨c, rfl, P1, P2, P3, hc, rfl⟩ := hrel
    have hgo : (4 < n ∧ c < 2 * n) ∨ (c = cellCount n ∧ ((4 < n ∧ ¬ c < 2 * n) ∨ ¬ 4 < n)) := by
      by_cases hA : 4 < n
      · by_cases hB : c < 2 * n
        · exact .inl ⟨hA, hB⟩
        · refine .inr ⟨?_, .inl ⟨hA, hB⟩⟩
          have := P2.out hA
          cases gk with
          | zero => exact this
          | succ k => unfold cellsN at this; rw [if_neg hB] at this; exact this
      · refine .inr ⟨?_, .inr hA⟩
        have := P3.out hA
        unfold cellCount
        rw [if_neg hA]
        exact this
    rcases hgo with ⟨hA, hB⟩ | ⟨rfl, ⟨hA, hB⟩ | hA⟩
    · have t1 : decide ((4 : Int) < n) = true := by simp; omega
      have e1 : IntKind.i64.wrap (2 * (n : Int)) = 2 * n := IntWalk.i64_in _ (by omega)
      have t2 : decide ((c : Int) < 2 * n) = true := by simp; omega
      have e2 : IntKind.i64.wrap ((c : Int) * 2) = c * 2 := IntWalk.i64_in _ (by omega)
      cases gk with
      | zero => exact absurd P1.out (by simp; omega)
      | succ gk =>
      have hA' := Aside0.mk hA
      have hB' := Aside0.mk hB
      clear hA hB
      go_wp2
      go_roundg gk
      case measure => omega
      case rel =>
        refine ⟨c * 2, by simp, ⟨by rw [Nat.mul_assoc, ← Nat.pow_succ']; exact P1.out⟩, ⟨fun h => ?_⟩, ⟨fun h => absurd hA'.out h⟩, ?_, rfl⟩
        · have := P2.out h
          unfold cellsN at this
          rw [if_pos hB'.out] at this
          exact this
        · have h1 : c * 2 * 2 ^ gk = 8192 := by rw [Nat.mul_assoc, ← Nat.pow_succ']; exact P1.out
          have : 0 < 2 ^ gk := Nat.pos_of_ne_zero (by simp)
          have h2 : c * 2 ≤ c * 2 * 2 ^ gk := Nat.le_mul_of_pos_right _ this
          omega
    · have t1 : decide ((4 : Int) < n) = true := by simp; omega
      have e1 : IntKind.i64.wrap (2 * (n : Int)) = 2 * n := IntWalk.i64_in _ (by omega)
      have t2 : decide ((cellCount n : Int) < 2 * n) = false := by simp; omega
      clear hA hB P1 P2 P3
      go_wp2_with (at_make; refine Kd.R_make kCell (w0 := w) w.heap.size tCell rfl rfl _ _ _ rfl (cellCount n : Int) rfl rfl Tryz.underlying68 _ 56 infoCell rfl (by decide) (by decide) noCell (ok := fun k => w.heap.size ≤ k) (okp := fun _ => False) (noCell_M _ _ _) (fun _ h => h.elim) (Nat.le_refl _) ?m1 ?m2 (Below.refl _ _) (Nat.le_refl _) ?_; (case m1 => omega); (case m2 => simp; omega); intro v1 w1 h1 hB hgr hb; obtain ⟨b, hb1, hb2⟩ := hb; obtain ⟨cap, rfl⟩ := R_shape h1 hb1; rw [List.length_replicate, Int.toNat_natCast] at h1 ⊢; have d1 : w1.cell? ⟨g, 1, none⟩ = some (.slice A1 n c1) := (hB.cell (World.block_lt_of_cell? _ _ d0)).trans d0; have H1 := Aside0.mk (And.intro h1 (And.intro hB (And.intro hb2 d0))); clear h1 hB hgr hb1 hb2 d0)
      go_loopg [33, 6, 7] n (fun kq v33 v6 v7 w' => ∃ (j : Nat) (acc : List CellD), v33 = .int .i64 j ∧ Aside0 (j + kq = n) ∧ w'.cell? ⟨g, 1, none⟩ = some (.slice A1 n c1) ∧ Aside0 (Kd.R kCell tCell w' w.heap.size (fun k => w.heap.size ≤ k) (.slice (some ⟨b, 0, none⟩) (cellCount n) cap) acc ∧ Below w.heap.size w w' ∧ fillCells n (cellCount n) j (l.drop j) acc = rowCells l))
      case atStart => exact ⟨0, List.replicate (cellCount n) noCell, rfl, ⟨by omega⟩, d1, ⟨H1.out.1, H1.out.2.1, by unfold rowCells; rw [← HN.out]; rfl⟩⟩
      case round =>
        obtain ⟨j, acc, rfl, P4, d2, H2⟩ := hrel
        cases gk with
        | zero =>
          have t3 : ¬ j < n := by have := P4.out; omega
          have H3 : acc = rowCells l := by
            have h := H2.out.2.2
            have hj : j = n := by have := P4.out; omega
            rw [hj, List.drop_eq_nil_of_le (by rw [HN.out]; exact Nat.le_refl _)] at h
            exact h
          subst H3
          go_wp2
          go_ret
          exact ⟨_, rfl, H2.out.1, H2.out.2.1⟩
        | succ gk =>
          have hjn : j < n := by have := P4.out; omega
          obtain ⟨ad, A6, c6, hA1, hcell, hel⟩ := items_at HC.out hjn
          subst hA1
          obtain ⟨bi, rfl⟩ := Kd.R_head HR.out
          obtain ⟨xs, hxs⟩ : ∃ xs, xs = l.getD j [] := ⟨_, rfl⟩
          rw [← hxs] at hcell hel
          rw [Addr.add_lit, Nat.zero_add] at hcell
          have d4 : wr.cell? ⟨bi, j, none⟩ = some (.slice A6 xs.length c6) := (H2.out.2.1.cell (World.block_lt_of_cell? _ _ hcell)).trans hcell
          obtain ⟨p, hp, q, e4, e5, e5', e6⟩ := quo_facts hjn hn'
          have e7 : ¬ (n = 0) := by omega
          have e8 : IntKind.i64.wrap ((j : Int) + 1) = (j : Int) + 1 := IntWalk.i64_in _ (by omega)
          have hpc : (p : Int) < (cellCount n : Int) := by rw [hp]; have := (fill_pos (c := cellCount n) hjn).resolve_right (by have := (cellCount_le n).2; omega); omega
          have HX' : xs.length ≤ 100 := HX.out _ (by rw [hxs, getD_lt (by have := HN.out; omega)]; exact List.getElem_mem _)
          have hcl := round_clone w wr g b n cap p j (some ⟨bi, 0, none⟩) c1 A6 c6 acc l xs H1.out.2.2.2 hel HX' (by omega) H2.out
          have hgb : g ≠ b := fun e => by have := H1.out.2.2.1; have h3 : g < w.heap.size := World.block_lt_of_cell? _ _ H1.out.2.2.2; omega
          have HP := Aside0.mk (And.intro hp (And.intro hel (And.intro hxs (And.intro hpc hgb))))
          clear hp hel hcell HX' hxs
          go_upto_region 11 with (fail)
          go_region_held3 (fun w' => w'.cell? ⟨g, 1, none⟩ = some (.slice (some ⟨bi, 0, none⟩) n c1)) (first | exact d2 | exact d5 | exact keep3 hgb d5 | go_keep) (first | (go_at_call 48; refine hcl.mono ?_; rintro e w2 ⟨A3, c3, x0, x1, x2, rfl, d5, f0, f1, f2, ff, hh⟩))
          have d6 := keep3 (x := p * 3) (y := p * 3 + 1) (z := p * 3 + 2) (u := .bool true) (u' := .slice none 0 0) (u'' := .slice A3 xs.length c3) hgb d5
          have HS := Aside0.mk (And.intro (round_store (p := p) hh.out (by omega)).1 (And.intro (round_below (p := p) hh.out (by omega) H2.out.2.1 H1.out.2.2.1) (fill_step (p := p) H2.out.2.2 (by have := HN.out; omega) HP.out.2.2.1 HP.out.1)))
          clear d5 f0 f1 f2 ff hh hcl hgb d4 d2
          go_wp2
          go_roundg gk
          case measure => omega
          case rel => exact ⟨j + 1, acc.set p (true, [], xs), by simp, ⟨by have := P4.out; omega⟩, d6, ⟨HS.out.1, HS.out.2.1, HS.out.2.2⟩⟩
    · have t1 : decide ((4 : Int) < n) = false := by simp; omega
      clear hA P1 P2 P3
      go_wp2_with (at_make; refine Kd.R_make kCell (w0 := w) w.heap.size tCell rfl rfl _ _ _ rfl (cellCount n : Int) rfl rfl Tryz.underlying68 _ 56 infoCell rfl (by decide) (by decide) noCell (ok := fun k => w.heap.size ≤ k) (okp := fun _ => False) (noCell_M _ _ _) (fun _ h => h.elim) (Nat.le_refl _) ?m1 ?m2 (Below.refl _ _) (Nat.le_refl _) ?_; (case m1 => omega); (case m2 => simp; omega); intro v1 w1 h1 hB hgr hb; obtain ⟨b, hb1, hb2⟩ := hb; obtain ⟨cap, rfl⟩ := R_shape h1 hb1; rw [List.length_replicate, Int.toNat_natCast] at h1 ⊢; have d1 : w1.cell? ⟨g, 1, none⟩ = some (.slice A1 n c1) := (hB.cell (World.block_lt_of_cell? _ _ d0)).trans d0; have H1 := Aside0.mk (And.intro h1 (And.intro hB (And.intro hb2 d0))); clear h1 hB hgr hb1 hb2 d0)
      go_loopg [33, 6, 7] n (fun kq v33 v6 v7 w' => ∃ (j : Nat) (acc : List CellD), v33 = .int .i64 j ∧ Aside0 (j + kq = n) ∧ w'.cell? ⟨g, 1, none⟩ = some (.slice A1 n c1) ∧ Aside0 (Kd.R kCell tCell w' w.heap.size (fun k => w.heap.size ≤ k) (.slice (some ⟨b, 0, none⟩) (cellCount n) cap) acc ∧ Below w.heap.size w w' ∧ fillCells n (cellCount n) j (l.drop j) acc = rowCells l))
      case atStart => exact ⟨0, List.replicate (cellCount n) noCell, rfl, ⟨by omega⟩, d1, ⟨H1.out.1, H1.out.2.1, by unfold rowCells; rw [← HN.out]; rfl⟩⟩
      case round =>
        obtain ⟨j, acc, rfl, P4, d2, H2⟩ := hrel
        cases gk with
        | zero =>
          have t3 : ¬ j < n := by have := P4.out; omega
          have H3 : acc = rowCells l := by
            have h := H2.out.2.2
            have hj : j = n := by have := P4.out; omega
            rw [hj, List.drop_eq_nil_of_le (by rw [HN.out]; exact Nat.le_refl _)] at h
            exact h
          subst H3
          go_wp2
          go_ret
          exact ⟨_, rfl, H2.out.1, H2.out.2.1⟩
        | succ gk =>
          have hjn : j < n := by have := P4.out; omega
          obtain ⟨ad, A6, c6, hA1, hcell, hel⟩ := items_at HC.out hjn
          subst hA1
          obtain ⟨bi, rfl⟩ := Kd.R_head HR.out
          obtain ⟨xs, hxs⟩ : ∃ xs, xs = l.getD j [] := ⟨_, rfl⟩
          rw [← hxs] at hcell hel
          rw [Addr.add_lit, Nat.zero_add] at hcell
          have d4 : wr.cell? ⟨bi, j, none⟩ = some (.slice A6 xs.length c6) := (H2.out.2.1.cell (World.block_lt_of_cell? _ _ hcell)).trans hcell
          obtain ⟨p, hp, q, e4, e5, e5', e6⟩ := quo_facts hjn hn'
          have e7 : ¬ (n = 0) := by omega
          have e8 : IntKind.i64.wrap ((j : Int) + 1) = (j : Int) + 1 := IntWalk.i64_in _ (by omega)
          have hpc : (p : Int) < (cellCount n : Int) := by rw [hp]; have := (fill_pos (c := cellCount n) hjn).resolve_right (by have := (cellCount_le n).2; omega); omega
          have HX' : xs.length ≤ 100 := HX.out _ (by rw [hxs, getD_lt (by have := HN.out; omega)]; exact List.getElem_mem _)
          have hcl := round_clone w wr g b n cap p j (some ⟨bi, 0, none⟩) c1 A6 c6 acc l xs H1.out.2.2.2 hel HX' (by omega) H2.out
          have hgb : g ≠ b := fun e => by have := H1.out.2.2.1; have h3 : g < w.heap.size := World.block_lt_of_cell? _ _ H1.out.2.2.2; omega
          have HP := Aside0.mk (And.intro hp (And.intro hel (And.intro hxs (And.intro hpc hgb))))
          clear hp hel hcell HX' hxs
          go_upto_region 11 with (fail)
          go_region_held3 (fun w' => w'.cell? ⟨g, 1, none⟩ = some (.slice (some ⟨bi, 0, none⟩) n c1)) (first | exact d2 | exact d5 | exact keep3 hgb d5 | go_keep) (first | (go_at_call 48; refine hcl.mono ?_; rintro e w2 ⟨A3, c3, x0, x1, x2, rfl, d5, f0, f1, f2, ff, hh⟩))
          have d6 := keep3 (x := p * 3) (y := p * 3 + 1) (z := p * 3 + 2) (u := .bool true) (u' := .slice none 0 0) (u'' := .slice A3 xs.length c3) hgb d5
          have HS := Aside0.mk (And.intro (round_store (p := p) hh.out (by omega)).1 (And.intro (round_below (p := p) hh.out (by omega) H2.out.2.1 H1.out.2.2.1) (fill_step (p := p) H2.out.2.2 (by have := HN.out; omega) HP.out.2.2.1 HP.out.1)))
          clear d5 f0 f1 f2 ff hh hcl hgb d4 d2
          go_wp2
          go_roundg gk
          case measure => omega
          case rel => exact ⟨j + 1, acc.set p (true, [], xs), by simp, ⟨by have := P4.out; omega⟩, d6, ⟨HS.out.1, HS.out.2.1, HS.out.2.2⟩⟩
end Go.Proofs.YtkjplffpihfliaaGreatDoor
