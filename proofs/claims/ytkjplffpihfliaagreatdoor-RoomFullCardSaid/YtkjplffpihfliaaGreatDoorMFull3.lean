/- Texts of this claim, merged by wip/merge.py: Cells Img SMap. -/
import Derived.Test.YtkjplffpihfliaaGreatDoorMFull2
import Derived.IntWalk
import Derived.WideMake
import Derived.ChangeMaps5
import Derived.Maps.OwnOps
section
/- The contract of (*Row).Cells. -/
namespace Go.Proofs.YtkjplffpihfliaaGreatDoor
open Go.RowKit Go.Proofs.YtkjplffpihfliaaGreatDoorW.PrintWords PAll

/-- How many cells a row of n items has. -/
def cellsN : Nat → Nat → Nat → Nat
  | 0, _, c => c
  | k + 1, n, c => if c < 2 * n then cellsN k n (c * 2) else c
def cellCount (n : Nat) : Nat := if 4 < n then cellsN 10 n 8 else 8
abbrev CellD := Bool × (List Int × List Int)
def noCell : CellD := (false, [], [])
def fillCells (n c : Nat) : Nat → List (List Int) → List CellD → List CellD
  | _, [], acc => acc
  | i, x :: r, acc => fillCells n c (i + 1) r (acc.set (i * c / n) (true, [], x))
/-- The cells of a row. -/
def rowCells (l : List (List Int)) : List CellD := fillCells l.length (cellCount l.length) 0 l (List.replicate (cellCount l.length) noCell)

theorem cellsN_pow (n : Nat) : ∀ k c, c * 2 ^ k = 8192 → ∃ j, j ≤ k ∧ cellsN k n c * 2 ^ j = 8192
  | 0, c, h => ⟨0, Nat.le_refl _, h⟩
  | k + 1, c, h => by
    unfold cellsN
    split
    · obtain ⟨j, h1, h2⟩ := cellsN_pow n k (c * 2) (by rw [Nat.mul_assoc, ← Nat.pow_succ']; exact h)
      exact ⟨j, by omega, h2⟩
    · exact ⟨k + 1, Nat.le_refl _, h⟩
theorem cellCount_le (n : Nat) : cellCount n ≤ 8192 ∧ 0 < cellCount n := by
  unfold cellCount
  split
  · obtain ⟨j, _, h⟩ := cellsN_pow n 10 8 (by decide)
    have : 0 < 2 ^ j := Nat.pos_of_ne_zero (by simp)
    constructor
    · calc cellsN 10 n 8 ≤ cellsN 10 n 8 * 2 ^ j := Nat.le_mul_of_pos_right _ this
        _ = 8192 := h
        _ ≤ 8192 := Nat.le_refl _
    · rcases Nat.eq_zero_or_pos (cellsN 10 n 8) with h0 | h0
      · rw [h0] at h; simp at h
      · exact h0
  · omega

abbrev kCell : Kd CellD := Kd.pair Kd.bool (Kd.pair (Kd.slice 5 (Kd.int .u8)) (Kd.slice 5 (Kd.int .u8)))
abbrev tCell : Nat := 101
theorem infoCell : (Tryz.prog.info? tCell).map (fun i => (i.zero, i.size, i.bytes)) = some (some (.agg #[.bool false, .slice none 0 0, .slice none 0 0]), 3, 56) := by kernel_rfl

theorem items_at {w : World} {A : Option Addr} {n : Nat} {l : List (List Int)} (h : kB.C w A n l) {j : Nat} (hj : j < n) :
    ∃ ad A' c', A = some ad ∧ w.cell? (ad.add j) = some (.slice A' (l.getD j []).length c') ∧ Kd.C (Kd.int .u8) w A' (l.getD j []).length (l.getD j []) := by
  obtain ⟨ad, c, hA, hcl, hK, hc⟩ := ReadsRow.get_ h [] (j : Int) (by omega) (by omega)
  obtain ⟨A', c', rfl, _, hr⟩ := hK
  refine ⟨ad, A', c', hA, ?_, hr⟩
  have h0 := hc 0 _ rfl
  have e1 : kB.sz = 1 := rfl
  simpa [e1] using h0

theorem fill_pos {j c n : Nat} (hj : j < n) : j * c / n < c ∨ c = 0 := by
  rcases Nat.eq_zero_or_pos c with h | h
  · exact .inr h
  · exact .inl (Nat.div_lt_of_lt_mul (by rw [Nat.mul_comm n c, Nat.mul_comm j c]; exact Nat.mul_lt_mul_of_pos_left hj h))

/-- The cells of an own row. -/
theorem R_cells {α : Type} {d : Kd α} {e : Nat} {w : World} {base : Nat} {ok : Nat → Prop} {b n cap : Nat} {xs : List α} (h : d.R e w base ok (.slice (some ⟨b, 0, none⟩) n cap) xs) : ∃ cur, w.heap[b]? = some (.cells cur e (0, 0)) ∧ n * d.sz ≤ cur.size := by
  obtain ⟨_, inner, ho, _⟩ := h
  rcases ho.2 with ⟨hv, _⟩ | ⟨g', cap', cur, hv, hb, hh, hnc', hcm, hcs, ht⟩
  · cases hv
  · cases hv
    exact ⟨cur, hh, by rw [hcs]; exact Nat.mul_le_mul_right _ hnc'⟩
/-- What a round of filling leaves: the copy, and the row of cells as it stands behind it. -/
def Round (w wr w2 : World) (b n cap : Nat) (acc : List CellD) (v : Value) (xs : List Int) : Prop :=
  Buf w2 wr.heap.size v xs ∧ Below wr.heap.size wr w2 ∧ Kd.R kCell tCell w2 w.heap.size (fun k => w.heap.size ≤ k ∧ k < wr.heap.size) (.slice (some ⟨b, 0, none⟩) n cap) acc ∧ w.heap.size ≤ wr.heap.size
theorem round_store {w wr w2 : World} {b n cap p : Nat} {acc : List CellD} {v : Value} {xs : List Int} (h : Round w wr w2 b n cap acc v xs) (hp : p < n) :
    Kd.R kCell tCell (w2.setCells b (p * 3) [.bool true, .slice none 0 0, v]) w.heap.size (fun k => w.heap.size ≤ k) (.slice (some ⟨b, 0, none⟩) n cap) (acc.set p (true, [], xs)) ∧ w2.grownBy (w2.setCells b (p * 3) [.bool true, .slice none 0 0, v]) (some b) := by
  obtain ⟨h1, h2, h3, h4⟩ := h
  obtain ⟨cur, hb, hs⟩ := R_cells h3
  have hsz : kCell.sz = 3 := rfl
  rw [hsz] at hs
  have hbk := h3.1 b rfl
  have hR : Kd.R kCell tCell w2 w.heap.size (fun k => w.heap.size ≤ k) (.slice (some ⟨b, 0, none⟩) n cap) acc := Kd.R_mono h3 (fun _ hk => hk.1)
  obtain ⟨x0, e0⟩ : ∃ x, w2.cell? ⟨b, p * 3, none⟩ = some x := ⟨_, by rw [blk_cell hb]; exact Array.getElem?_eq_getElem (by omega)⟩
  obtain ⟨x1, e1⟩ : ∃ x, w2.cell? ⟨b, p * 3 + 1, none⟩ = some x := ⟨_, by rw [blk_cell hb]; exact Array.getElem?_eq_getElem (by omega)⟩
  obtain ⟨x2, e2⟩ : ∃ x, w2.cell? ⟨b, p * 3 + 2, none⟩ = some x := ⟨_, by rw [blk_cell hb]; exact Array.getElem?_eq_getElem (by omega)⟩
  have hM : kCell.M w2 w.heap.size (fun k => wr.heap.size ≤ k) (true, [], xs) [.bool true, .slice none 0 0, v] :=
    ⟨[.bool true], [.slice none 0 0, v], rfl, rfl, [.slice none 0 0], [v], rfl, ⟨_, rfl, Kd.R_nil _ _ _ _ _⟩, ⟨_, rfl, Kd.R_lower h1 h4⟩⟩
  have := Kd.R_seg (okp := fun k => wr.heap.size ≤ k) hR (p : Int) (by omega) (by omega) (c := [x0, x1, x2]) (seg := [.bool true, .slice none 0 0, v]) (j := 0) rfl
    (by
      intro j u hj
      rw [Int.toNat_natCast, hsz]
      rcases j with _ | _ | _ | j
      · simp at hj; subst hj; exact e0
      · simp at hj; subst hj; exact e1
      · simp at hj; subst hj; exact e2
      · simp at hj)
    (by rw [hsz]; exact Nat.le_refl _) (x' := (true, [], xs)) (by simpa using hM) (fun k hk => ⟨Nat.le_trans h4 hk, fun e => by have := hbk.2; omega⟩)
  rw [Int.toNat_natCast, hsz, Nat.add_zero] at this
  exact this
theorem R_shape {α : Type} {d : Kd α} {e : Nat} {w : World} {base : Nat} {ok : Nat → Prop} {v : Value} {xs : List α} {b : Nat} (h : d.R e w base ok v xs) (hb : v.ownBlock = some b) : ∃ cap, v = .slice (some ⟨b, 0, none⟩) xs.length cap := by
  obtain ⟨A, c, rfl, _, _⟩ := Kd.R_reads h
  cases A with
  | none => simp [Value.ownBlock] at hb
  | some ad =>
    obtain ⟨g, rfl⟩ := Kd.R_head h
    simp [Value.ownBlock] at hb
    subst hb
    exact ⟨c, rfl⟩
theorem noCell_M (w : World) (base : Nat) (ok : Nat → Prop) : kCell.M w base ok noCell (Value.agg #[.bool false, .slice none 0 0, .slice none 0 0]).cells.toList :=
  ⟨[.bool false], [.slice none 0 0, .slice none 0 0], rfl, rfl, [.slice none 0 0], [.slice none 0 0], rfl, ⟨_, rfl, Kd.R_nil _ _ _ _ _⟩, ⟨_, rfl, Kd.R_nil _ _ _ _ _⟩⟩

theorem quo_facts {j n : Nat} (hj : j < n) (hn : (n : Int) ≤ 1000) : ∃ p, p = j * cellCount n / n ∧ ∃ q : Nat, IntKind.i64.wrap ((j : Int) * (cellCount n : Int)) = (q : Int) ∧ (q : Int).tdiv (n : Int) = (p : Int) ∧ (q : Int) / (n : Int) = (p : Int) ∧ IntKind.i64.wrap (p : Int) = p := by
  have hqb : j * cellCount n ≤ 1000 * 8192 := Nat.mul_le_mul (by omega) (cellCount_le n).1
  have hp : j * cellCount n / n ≤ j * cellCount n := Nat.div_le_self _ _
  refine ⟨_, rfl, j * cellCount n, ?_, rfl, rfl, IntWalk.i64_in _ ⟨by have : (0 : Int) ≤ ((j * cellCount n / n : Nat) : Int) := Int.natCast_nonneg _; omega, by have : ((j * cellCount n / n : Nat) : Int) ≤ ((j * cellCount n : Nat) : Int) := Int.ofNat_le.2 hp; omega⟩⟩
  rw [← Int.natCast_mul]
  exact IntWalk.i64_in _ (by omega)
theorem keep3 {w : World} {g b i x y z : Nat} {v u u' u'' : Value} (hg : g ≠ b) (h : w.cell? ⟨g, i, none⟩ = some v) : (((w.setCell ⟨b, x, none⟩ u).setCell ⟨b, y, none⟩ u').setCell ⟨b, z, none⟩ u'').cell? ⟨g, i, none⟩ = some v := by
  rw [World.cell?_setCell_other _ _ _ _ (fun e => hg (congrArg Addr.block e).symm), World.cell?_setCell_other _ _ _ _ (fun e => hg (congrArg Addr.block e).symm), World.cell?_setCell_other _ _ _ _ (fun e => hg (congrArg Addr.block e).symm)]
  exact h
theorem getD_lt {α : Type} {l : List α} {j : Nat} {d : α} (h : j < l.length) : l.getD j d = l[j] := by simp [List.getD, h]
theorem fill_step {n c j p : Nat} {l : List (List Int)} {acc R : List CellD} {xs : List Int} (h : fillCells n c j (l.drop j) acc = R) (hj : j < l.length) (hx : xs = l.getD j []) (hp : p = j * c / n) : fillCells n c (j + 1) (l.drop (j + 1)) (acc.set p (true, [], xs)) = R := by
  rw [List.drop_eq_getElem_cons hj] at h
  rw [← h, hp, hx, getD_lt hj]
  rfl
theorem round_below {w wr w2 : World} {b n cap p : Nat} {acc : List CellD} {v : Value} {xs : List Int} (h : Round w wr w2 b n cap acc v xs) (hp : p < n) (h0 : Below w.heap.size w wr) (hb : w.heap.size ≤ b) :
    Below w.heap.size w (w2.setCells b (p * 3) [.bool true, .slice none 0 0, v]) := by
  have h2 := (round_store h hp).2
  have h1 : Below w.heap.size w w2 := below_then h0 h0.size h.2.1
  exact h1.grown h2 h1.size (fun k hk => by injection hk with hk; omega)
theorem round_clone (w wr : World) (g b n cap p j : Nat) (A1 : Option Addr) (c1 : Nat) (A : Option Addr) (c : Nat) (acc : List CellD) (l : List (List Int)) (xs : List Int) (hgl : w.cell? ⟨g, 1, none⟩ = some (.slice A1 n c1)) (hx : Kd.C (Kd.int .u8) w A xs.length xs) (hxl : xs.length ≤ 100) (hp : p < cellCount n)
    (H : Kd.R kCell tCell wr w.heap.size (fun k => w.heap.size ≤ k) (.slice (some ⟨b, 0, none⟩) (cellCount n) cap) acc ∧ Below w.heap.size w wr ∧ fillCells n (cellCount n) j (l.drop j) acc = rowCells l) :
    Calls Tryz.prog 48 #[.slice A xs.length c] wr.drew fun e w2 => ∃ A3 c3 x0 x1 x2, e = .returned (.slice A3 xs.length c3) ∧ w2.cell? ⟨g, 1, none⟩ = some (.slice A1 n c1) ∧ w2.cell? ⟨b, p * 3, none⟩ = some x0 ∧ w2.cell? ⟨b, p * 3 + 1, none⟩ = some x1 ∧ w2.cell? ⟨b, p * 3 + 2, none⟩ = some x2 ∧ (∀ k, w2.frozen? ⟨b, k, none⟩ = false) ∧
      Aside0 (Round w wr w2 b (cellCount n) cap acc (.slice A3 xs.length c3) xs) := by
  obtain ⟨h1, h2, _⟩ := H
  refine (clone_any wr.drew A c xs (Kd.C_drew (Kd.C_below hx h2)) (by omega)).mono ?_
  rintro e w2 ⟨v, rfl, hb, hB⟩
  obtain ⟨A3, c3, rfl, _, _⟩ := hb.reads
  have hB' : Below wr.heap.size wr w2 := ⟨hB.os, hB.tape, hB.output, hB.size, hB.block⟩
  have hR : Kd.R kCell tCell w2 w.heap.size (fun k => w.heap.size ≤ k ∧ k < wr.heap.size) (.slice (some ⟨b, 0, none⟩) (cellCount n) cap) acc := Kd.R_mono (Kd.R_below (Kd.R_bound h1) hB') (fun k hk => ⟨hk.1, hk.2.2.1⟩)
  obtain ⟨cur, hbk, hs⟩ := R_cells hR
  have hsz : kCell.sz = 3 := rfl
  rw [hsz] at hs
  obtain ⟨x0, e0⟩ : ∃ x, w2.cell? ⟨b, p * 3, none⟩ = some x := ⟨_, by rw [blk_cell hbk]; exact Array.getElem?_eq_getElem (by omega)⟩
  obtain ⟨x1, e1⟩ : ∃ x, w2.cell? ⟨b, p * 3 + 1, none⟩ = some x := ⟨_, by rw [blk_cell hbk]; exact Array.getElem?_eq_getElem (by omega)⟩
  obtain ⟨x2, e2⟩ : ∃ x, w2.cell? ⟨b, p * 3 + 2, none⟩ = some x := ⟨_, by rw [blk_cell hbk]; exact Array.getElem?_eq_getElem (by omega)⟩
  have hgw : g < w.heap.size := World.block_lt_of_cell? _ _ hgl
  refine ⟨A3, c3, x0, x1, x2, rfl, ?_, e0, e1, e2, blk_frozen hbk, ⟨hb, hB', hR, h2.size⟩⟩
  rw [hB'.cell (by have := h2.size; show g < wr.heap.size; omega), h2.cell hgw]
  exact hgl

set_option maxRecDepth 100000 in
set_option maxHeartbeats 1000000 in
theorem cells_any (w : World) (base : Nat) (ok : Nat → Prop) (g : Nat) (l : List (List Int)) (h : RowIs w base ok g l) (hl : l.length ≤ 1000) (hxl : ∀ x ∈ l, x.length ≤ 100) :
    Calls Tryz.prog 31 #[.pointer (some ⟨g, 0, none⟩)] w fun e w' => ∃ v', e = .returned v' ∧ Kd.R kCell tCell w' w.heap.size (fun k => w.heap.size ≤ k) v' (rowCells l) ∧ Below w.heap.size w w' := by
  obtain ⟨hg, iv, hgl, hR⟩ := h
  have hreal := row_real w g iv hgl
  obtain ⟨A1, c1, rfl, hc1, hC⟩ := Kd.R_reads hR
  have d0 : w.cell? ⟨g, 1, none⟩ = some (.slice A1 l.length c1) := by rw [blk_cell hgl]; rfl
  obtain ⟨n, hn⟩ : ∃ n, n = l.length := ⟨_, rfl⟩
  rw [← hn] at d0 hc1 hC hl hgl
  have HG := Aside0.mk hgl
  have HC := Aside0.mk hC
  have HR := Aside0.mk hR
  have HN := Aside0.mk hn
  have HX := Aside0.mk hxl
  have hn' : (n : Int) ≤ 1000 := by omega
  clear hgl hC hR hxl hc1 hn hl
  go_enter Tryz.func31, Tryz.ntmps31
  go_wp2_with (go_at_call 46; refine hreal.mono ?_; rintro e w ⟨rfl, rfl⟩)
  clear hreal
  go_loopg [3] 10 (fun kq v3 w' => ∃ c : Nat, v3 = .int .i64 c ∧ Aside0 (c * 2 ^ kq = 8192) ∧ Aside0 (4 < n → cellsN kq n c = cellCount n) ∧ Aside0 (¬ 4 < n → c = 8) ∧ (c : Int) ≤ 8192 ∧ w = w')
  case atStart => exact ⟨8, rfl, ⟨by decide⟩, ⟨fun h => by unfold cellCount; rw [if_pos h]⟩, ⟨fun _ => rfl⟩, by decide, rfl⟩
  case round =>
    obtain ⟨c, rfl, P1, P2, P3, hc, rfl⟩ := hrel
    have hgo : (4 < n ∧ c < 2 * n) ∨ (c = cellCount n ∧ ((4 < n ∧ ¬ c < 2 * n) ∨ ¬ 4 < n)) := by
      by_cases hA : 4 < n
      · by_cases hB : c < 2 * n
        · exact .inl ⟨hA, hB⟩
        · refine .inr ⟨?_, .inl ⟨hA, hB⟩⟩
          have := P2.out hA
          cases gk with
          | zero => exact this
          | succ k => unfold cellsN at this; rw [if_neg hB] at this; exact this
      · refine .inr ⟨?_, .inr hA⟩
        have := P3.out hA
        unfold cellCount
        rw [if_neg hA]
        exact this
    rcases hgo with ⟨hA, hB⟩ | ⟨rfl, ⟨hA, hB⟩ | hA⟩
    · have t1 : decide ((4 : Int) < n) = true := by simp; omega
      have e1 : IntKind.i64.wrap (2 * (n : Int)) = 2 * n := IntWalk.i64_in _ (by omega)
      have t2 : decide ((c : Int) < 2 * n) = true := by simp; omega
      have e2 : IntKind.i64.wrap ((c : Int) * 2) = c * 2 := IntWalk.i64_in _ (by omega)
      cases gk with
      | zero => exact absurd P1.out (by simp; omega)
      | succ gk =>
      have hA' := Aside0.mk hA
      have hB' := Aside0.mk hB
      clear hA hB
      go_wp2
      go_roundg gk
      case measure => omega
      case rel =>
        refine ⟨c * 2, by simp, ⟨by rw [Nat.mul_assoc, ← Nat.pow_succ']; exact P1.out⟩, ⟨fun h => ?_⟩, ⟨fun h => absurd hA'.out h⟩, ?_, rfl⟩
        · have := P2.out h
          unfold cellsN at this
          rw [if_pos hB'.out] at this
          exact this
        · have h1 : c * 2 * 2 ^ gk = 8192 := by rw [Nat.mul_assoc, ← Nat.pow_succ']; exact P1.out
          have : 0 < 2 ^ gk := Nat.pos_of_ne_zero (by simp)
          have h2 : c * 2 ≤ c * 2 * 2 ^ gk := Nat.le_mul_of_pos_right _ this
          omega
    · have t1 : decide ((4 : Int) < n) = true := by simp; omega
      have e1 : IntKind.i64.wrap (2 * (n : Int)) = 2 * n := IntWalk.i64_in _ (by omega)
      have t2 : decide ((cellCount n : Int) < 2 * n) = false := by simp; omega
      clear hA hB P1 P2 P3
      go_wp2_with (at_make; refine Kd.R_make kCell (w0 := w) w.heap.size tCell rfl rfl _ _ _ rfl (cellCount n : Int) rfl rfl Tryz.underlying68 _ 56 infoCell rfl (by decide) (by decide) noCell (ok := fun k => w.heap.size ≤ k) (okp := fun _ => False) (noCell_M _ _ _) (fun _ h => h.elim) (Nat.le_refl _) ?m1 ?m2 (Below.refl _ _) (Nat.le_refl _) ?_; (case m1 => omega); (case m2 => simp; omega); intro v1 w1 h1 hB hgr hb; obtain ⟨b, hb1, hb2⟩ := hb; obtain ⟨cap, rfl⟩ := R_shape h1 hb1; rw [List.length_replicate, Int.toNat_natCast] at h1 ⊢; have d1 : w1.cell? ⟨g, 1, none⟩ = some (.slice A1 n c1) := (hB.cell (World.block_lt_of_cell? _ _ d0)).trans d0; have H1 := Aside0.mk (And.intro h1 (And.intro hB (And.intro hb2 d0))); clear h1 hB hgr hb1 hb2 d0)
      go_loopg [33, 6, 7] n (fun kq v33 v6 v7 w' => ∃ (j : Nat) (acc : List CellD), v33 = .int .i64 j ∧ Aside0 (j + kq = n) ∧ w'.cell? ⟨g, 1, none⟩ = some (.slice A1 n c1) ∧ Aside0 (Kd.R kCell tCell w' w.heap.size (fun k => w.heap.size ≤ k) (.slice (some ⟨b, 0, none⟩) (cellCount n) cap) acc ∧ Below w.heap.size w w' ∧ fillCells n (cellCount n) j (l.drop j) acc = rowCells l))
      case atStart => exact ⟨0, List.replicate (cellCount n) noCell, rfl, ⟨by omega⟩, d1, ⟨H1.out.1, H1.out.2.1, by unfold rowCells; rw [← HN.out]; rfl⟩⟩
      case round =>
        obtain ⟨j, acc, rfl, P4, d2, H2⟩ := hrel
        cases gk with
        | zero =>
          have t3 : ¬ j < n := by have := P4.out; omega
          have H3 : acc = rowCells l := by
            have h := H2.out.2.2
            have hj : j = n := by have := P4.out; omega
            rw [hj, List.drop_eq_nil_of_le (by rw [HN.out]; exact Nat.le_refl _)] at h
            exact h
          subst H3
          go_wp2
          go_ret
          exact ⟨_, rfl, H2.out.1, H2.out.2.1⟩
        | succ gk =>
          have hjn : j < n := by have := P4.out; omega
          obtain ⟨ad, A6, c6, hA1, hcell, hel⟩ := items_at HC.out hjn
          subst hA1
          obtain ⟨bi, rfl⟩ := Kd.R_head HR.out
          obtain ⟨xs, hxs⟩ : ∃ xs, xs = l.getD j [] := ⟨_, rfl⟩
          rw [← hxs] at hcell hel
          rw [Addr.add_lit, Nat.zero_add] at hcell
          have d4 : wr.cell? ⟨bi, j, none⟩ = some (.slice A6 xs.length c6) := (H2.out.2.1.cell (World.block_lt_of_cell? _ _ hcell)).trans hcell
          obtain ⟨p, hp, q, e4, e5, e5', e6⟩ := quo_facts hjn hn'
          have e7 : ¬ (n = 0) := by omega
          have e8 : IntKind.i64.wrap ((j : Int) + 1) = (j : Int) + 1 := IntWalk.i64_in _ (by omega)
          have hpc : (p : Int) < (cellCount n : Int) := by rw [hp]; have := (fill_pos (c := cellCount n) hjn).resolve_right (by have := (cellCount_le n).2; omega); omega
          have HX' : xs.length ≤ 100 := HX.out _ (by rw [hxs, getD_lt (by have := HN.out; omega)]; exact List.getElem_mem _)
          have hcl := round_clone w wr g b n cap p j (some ⟨bi, 0, none⟩) c1 A6 c6 acc l xs H1.out.2.2.2 hel HX' (by omega) H2.out
          have hgb : g ≠ b := fun e => by have := H1.out.2.2.1; have h3 : g < w.heap.size := World.block_lt_of_cell? _ _ H1.out.2.2.2; omega
          have HP := Aside0.mk (And.intro hp (And.intro hel (And.intro hxs (And.intro hpc hgb))))
          clear hp hel hcell HX' hxs
          go_upto_region 11 with (fail)
          go_region_held3 (fun w' => w'.cell? ⟨g, 1, none⟩ = some (.slice (some ⟨bi, 0, none⟩) n c1)) (first | exact d2 | exact d5 | exact keep3 hgb d5 | go_keep) (first | (go_at_call 48; refine hcl.mono ?_; rintro e w2 ⟨A3, c3, x0, x1, x2, rfl, d5, f0, f1, f2, ff, hh⟩))
          have d6 := keep3 (x := p * 3) (y := p * 3 + 1) (z := p * 3 + 2) (u := .bool true) (u' := .slice none 0 0) (u'' := .slice A3 xs.length c3) hgb d5
          have HS := Aside0.mk (And.intro (round_store (p := p) hh.out (by omega)).1 (And.intro (round_below (p := p) hh.out (by omega) H2.out.2.1 H1.out.2.2.1) (fill_step (p := p) H2.out.2.2 (by have := HN.out; omega) HP.out.2.2.1 HP.out.1)))
          clear d5 f0 f1 f2 ff hh hcl hgb d4 d2
          go_wp2
          go_roundg gk
          case measure => omega
          case rel => exact ⟨j + 1, acc.set p (true, [], xs), by simp, ⟨by have := P4.out; omega⟩, d6, ⟨HS.out.1, HS.out.2.1, HS.out.2.2⟩⟩
    · have t1 : decide ((4 : Int) < n) = false := by simp; omega
      clear hA P1 P2 P3
      go_wp2_with (at_make; refine Kd.R_make kCell (w0 := w) w.heap.size tCell rfl rfl _ _ _ rfl (cellCount n : Int) rfl rfl Tryz.underlying68 _ 56 infoCell rfl (by decide) (by decide) noCell (ok := fun k => w.heap.size ≤ k) (okp := fun _ => False) (noCell_M _ _ _) (fun _ h => h.elim) (Nat.le_refl _) ?m1 ?m2 (Below.refl _ _) (Nat.le_refl _) ?_; (case m1 => omega); (case m2 => simp; omega); intro v1 w1 h1 hB hgr hb; obtain ⟨b, hb1, hb2⟩ := hb; obtain ⟨cap, rfl⟩ := R_shape h1 hb1; rw [List.length_replicate, Int.toNat_natCast] at h1 ⊢; have d1 : w1.cell? ⟨g, 1, none⟩ = some (.slice A1 n c1) := (hB.cell (World.block_lt_of_cell? _ _ d0)).trans d0; have H1 := Aside0.mk (And.intro h1 (And.intro hB (And.intro hb2 d0))); clear h1 hB hgr hb1 hb2 d0)
      go_loopg [33, 6, 7] n (fun kq v33 v6 v7 w' => ∃ (j : Nat) (acc : List CellD), v33 = .int .i64 j ∧ Aside0 (j + kq = n) ∧ w'.cell? ⟨g, 1, none⟩ = some (.slice A1 n c1) ∧ Aside0 (Kd.R kCell tCell w' w.heap.size (fun k => w.heap.size ≤ k) (.slice (some ⟨b, 0, none⟩) (cellCount n) cap) acc ∧ Below w.heap.size w w' ∧ fillCells n (cellCount n) j (l.drop j) acc = rowCells l))
      case atStart => exact ⟨0, List.replicate (cellCount n) noCell, rfl, ⟨by omega⟩, d1, ⟨H1.out.1, H1.out.2.1, by unfold rowCells; rw [← HN.out]; rfl⟩⟩
      case round =>
        obtain ⟨j, acc, rfl, P4, d2, H2⟩ := hrel
        cases gk with
        | zero =>
          have t3 : ¬ j < n := by have := P4.out; omega
          have H3 : acc = rowCells l := by
            have h := H2.out.2.2
            have hj : j = n := by have := P4.out; omega
            rw [hj, List.drop_eq_nil_of_le (by rw [HN.out]; exact Nat.le_refl _)] at h
            exact h
          subst H3
          go_wp2
          go_ret
          exact ⟨_, rfl, H2.out.1, H2.out.2.1⟩
        | succ gk =>
          have hjn : j < n := by have := P4.out; omega
          obtain ⟨ad, A6, c6, hA1, hcell, hel⟩ := items_at HC.out hjn
          subst hA1
          obtain ⟨bi, rfl⟩ := Kd.R_head HR.out
          obtain ⟨xs, hxs⟩ : ∃ xs, xs = l.getD j [] := ⟨_, rfl⟩
          rw [← hxs] at hcell hel
          rw [Addr.add_lit, Nat.zero_add] at hcell
          have d4 : wr.cell? ⟨bi, j, none⟩ = some (.slice A6 xs.length c6) := (H2.out.2.1.cell (World.block_lt_of_cell? _ _ hcell)).trans hcell
          obtain ⟨p, hp, q, e4, e5, e5', e6⟩ := quo_facts hjn hn'
          have e7 : ¬ (n = 0) := by omega
          have e8 : IntKind.i64.wrap ((j : Int) + 1) = (j : Int) + 1 := IntWalk.i64_in _ (by omega)
          have hpc : (p : Int) < (cellCount n : Int) := by rw [hp]; have := (fill_pos (c := cellCount n) hjn).resolve_right (by have := (cellCount_le n).2; omega); omega
          have HX' : xs.length ≤ 100 := HX.out _ (by rw [hxs, getD_lt (by have := HN.out; omega)]; exact List.getElem_mem _)
          have hcl := round_clone w wr g b n cap p j (some ⟨bi, 0, none⟩) c1 A6 c6 acc l xs H1.out.2.2.2 hel HX' (by omega) H2.out
          have hgb : g ≠ b := fun e => by have := H1.out.2.2.1; have h3 : g < w.heap.size := World.block_lt_of_cell? _ _ H1.out.2.2.2; omega
          have HP := Aside0.mk (And.intro hp (And.intro hel (And.intro hxs (And.intro hpc hgb))))
          clear hp hel hcell HX' hxs
          go_upto_region 11 with (fail)
          go_region_held3 (fun w' => w'.cell? ⟨g, 1, none⟩ = some (.slice (some ⟨bi, 0, none⟩) n c1)) (first | exact d2 | exact d5 | exact keep3 hgb d5 | go_keep) (first | (go_at_call 48; refine hcl.mono ?_; rintro e w2 ⟨A3, c3, x0, x1, x2, rfl, d5, f0, f1, f2, ff, hh⟩))
          have d6 := keep3 (x := p * 3) (y := p * 3 + 1) (z := p * 3 + 2) (u := .bool true) (u' := .slice none 0 0) (u'' := .slice A3 xs.length c3) hgb d5
          have HS := Aside0.mk (And.intro (round_store (p := p) hh.out (by omega)).1 (And.intro (round_below (p := p) hh.out (by omega) H2.out.2.1 H1.out.2.2.1) (fill_step (p := p) H2.out.2.2 (by have := HN.out; omega) HP.out.2.2.1 HP.out.1)))
          clear d5 f0 f1 f2 ff hh hcl hgb d4 d2
          go_wp2
          go_roundg gk
          case measure => omega
          case rel => exact ⟨j + 1, acc.set p (true, [], xs), by simp, ⟨by have := P4.out; omega⟩, d6, ⟨HS.out.1, HS.out.2.1, HS.out.2.2⟩⟩
end Go.Proofs.YtkjplffpihfliaaGreatDoor
end

section
/- The contract of (*Row).Image. -/
namespace Go.Proofs.YtkjplffpihfliaaGreatDoor
open Go.RowKit Go.Proofs.YtkjplffpihfliaaGreatDoorW.PrintWords PAll

/-- What a cell gives in the image. -/
def cellBytes (c : CellD) : List Int := if c.1 then [1, (c.2.2.length : Int) % 256] ++ c.2.2 else [0]
def cellsBytes (l : List CellD) : List Int := l.flatMap cellBytes
/-- The image of a row. -/
def rowImage (l : List (List Int)) : List Int := [(l.length : Int) / 256 % 256, (l.length : Int) % 256] ++ cellsBytes (rowCells l)

section
variable {ops : Array Oper} {rest : List Oper} {o : Oper} {a : Act} {Q : Exit → Act → World → Prop}
abbrev kU : Kd Int := Kd.int .u8
/-- append(b, ys...), whatever the buffer's blocks are. -/
theorem ok_appendN {W : World} {base : Nat} {ok : Nat → Prop} (hgd : o.guard = none) (s x : Operand) (ho : o.op = .call { callee := .builtin .append, args := #[s, x], argTypes := #[31, 31] })
    (v : Value) (xs ys : List Int) (A : Option Addr) (m c : Nat) (hs : a.eval s = v) (hx : a.eval x = .slice A m c) (hm : ys.length = m)
    (HO : Kd.R kU 5 W base ok v xs) (HR : Kd.C kU W A ys.length ys) (hfresh : ∀ k, W.heap.size ≤ k → ok k) (hbase : base ≤ W.heap.size) (hl : xs.length + m ≤ 140737488355328)
    (h : ∀ v1 w1, Kd.R kU 5 w1 base ok v1 (xs ++ ys) → W.grownBy w1 v.ownBlock → wpList Tryz.prog ops Q rest (a.put o.dst v1) w1) :
    wpList Tryz.prog ops Q (o :: rest) a W := by
  subst hm
  exact Kd.R_append_rows kU (Rr := kU.K W) (w0 := W) (W := W) base hgd s x 31 5 (.int .u8 0) 1 ho Tryz.underlying31 info5 rfl (by decide) (by omega) v xs ys A ys.length c
    ok (fun _ => False) hs hx HO HR (fun _ _ h => h) (fun _ hk => hk.elim) hfresh (Below.refl _ _) hbase (by omega) (fun v1 w1 h1 _ h3 _ => h v1 w1 h1 h3)
theorem ok_appendN_step {Kc : Act → World → Prop} {W : World} {base : Nat} {ok : Nat → Prop} (hw : Region.wanted o (yielded ops a.tmps) = true) (s x : Operand) (ho : o.op = .call { callee := .builtin .append, args := #[s, x], argTypes := #[31, 31] })
    (v : Value) (xs ys : List Int) (A : Option Addr) (m c : Nat) (hs : a.eval s = v) (hx : a.eval x = .slice A m c) (hm : ys.length = m)
    (HO : Kd.R kU 5 W base ok v xs) (HR : Kd.C kU W A ys.length ys) (hfresh : ∀ k, W.heap.size ≤ k → ok k) (hbase : base ≤ W.heap.size) (hl : xs.length + m ≤ 140737488355328)
    (h : ∀ v1 w1, Kd.R kU 5 w1 base ok v1 (xs ++ ys) → W.grownBy w1 v.ownBlock → Kc (a.put o.dst v1) w1) :
    if Region.wanted o (yielded ops a.tmps) = true then Oper.wp Tryz.prog o a W Kc Q else Kc (a.put o.dst undef) W := by
  subst hm
  exact Kd.R_append_rows_step kU (Rr := kU.K W) (w0 := W) (W := W) base hw s x 31 5 (.int .u8 0) 1 ho Tryz.underlying31 info5 rfl (by decide) (by omega) v xs ys A ys.length c
    ok (fun _ => False) hs hx HO HR (fun _ _ h => h) (fun _ hk => hk.elim) hfresh (Below.refl _ _) hbase (by omega) (fun v1 w1 h1 _ h3 _ => h v1 w1 h1 h3)
end
/-- A literal of bytes. -/
theorem C_lit {W : World} (cs : Array Value) (xs : List Int) (h : cs.toList = xs.map (Value.int .u8)) (hl : xs.length ≤ 100) : Kd.C kU (W.alloc (.cells cs 5)) (some ⟨W.heap.size, 0, none⟩) xs.length xs := by
  have h1 : (W.alloc (.cells cs 5)).ownsRow 0 5 1 (.slice (some ⟨W.heap.size, 0, none⟩) xs.length xs.length) xs.length (xs.map (Value.int .u8)) := by
    refine ⟨by simp, .inr ⟨W.heap.size, xs.length, cs, rfl, Nat.zero_le _, heap_alloc_new W _, Nat.le_refl _, by unfold maxLen; omega, ?_, ?_⟩⟩
    · rw [← Array.length_toList, h]; simp
    · rw [h, List.take_of_length_le (by simp)]
  have h2 : Kd.R kU 5 (W.alloc (.cells cs 5)) 0 (fun _ => True) (.slice (some ⟨W.heap.size, 0, none⟩) xs.length xs.length) xs := Kd.R_of_own h1 (fun _ _ => trivial)
  exact (Kd.R_reads' h2).2.2
theorem R_lit {W : World} (base : Nat) (ok : Nat → Prop) (cs : Array Value) (xs : List Int) (h : cs.toList = xs.map (Value.int .u8)) (hl : xs.length ≤ 100) (hok : ok W.heap.size) (hb : base ≤ W.heap.size) :
    Kd.R kU 5 (W.alloc (.cells cs 5)) base ok (.slice (some ⟨W.heap.size, 0, none⟩) xs.length xs.length) xs := by
  have h1 : (W.alloc (.cells cs 5)).ownsRow base 5 1 (.slice (some ⟨W.heap.size, 0, none⟩) xs.length xs.length) xs.length (xs.map (Value.int .u8)) := by
    refine ⟨by simp, .inr ⟨W.heap.size, xs.length, cs, rfl, hb, heap_alloc_new W _, Nat.le_refl _, by unfold maxLen; omega, ?_, ?_⟩⟩
    · rw [← Array.length_toList, h]; simp
    · rw [h, List.take_of_length_le (by simp)]
  exact Kd.R_of_own h1 (fun k hk => by have : W.heap.size = k := by simpa [Value.ownBlock] using hk
                                       exact this ▸ hok)
/-- A cell, read. -/
theorem cell_at {w : World} {A : Option Addr} {n : Nat} {l : List CellD} (h : Kd.C kCell w A n l) {j : Nat} (hj : j < n) :
    ∃ ad A1 c1 A2 c2 xk, A = some ad ∧ w.cell? (ad.add (j * 3)) = some (.bool (l.getD j noCell).1) ∧ w.cell? (ad.add (j * 3 + 1)) = some (.slice A1 xk c1) ∧ w.cell? (ad.add (j * 3 + 2)) = some (.slice A2 (l.getD j noCell).2.2.length c2) ∧ Kd.C kU w A2 (l.getD j noCell).2.2.length (l.getD j noCell).2.2 := by
  obtain ⟨ad, c, hA, hcl, hK, hc⟩ := ReadsRow.get_ h noCell (j : Int) (by omega) (by omega)
  obtain ⟨a0, a1, rfl, h0, b0, b1, rfl, ⟨A1, c1, rfl, _, _⟩, ⟨A2, c2, rfl, _, h2⟩⟩ := hK
  simp only [Int.toNat_natCast] at h0 h2 hc
  have h0' : a0 = [.bool (l.getD j noCell).1] := h0
  subst h0'
  have e1 : kCell.sz = 3 := rfl
  rw [e1] at hc
  refine ⟨ad, A1, c1, A2, c2, (l.getD j noCell).2.1.length, hA, ?_, ?_, ?_, h2⟩
  · have := hc 0 _ rfl; simpa using this
  · have := hc 1 _ rfl; simpa using this
  · have := hc 2 _ rfl; simpa using this

theorem fillCells_length (n c : Nat) : ∀ (l : List (List Int)) (i : Nat) (acc : List CellD), (fillCells n c i l acc).length = acc.length
  | [], _, _ => rfl
  | x :: r, i, acc => by unfold fillCells; rw [fillCells_length n c r]; simp
theorem rowCells_length (l : List (List Int)) : (rowCells l).length = cellCount l.length := by unfold rowCells; rw [fillCells_length]; simp
/-- The bytes of a cell's value are read wherever its blocks are as they were. -/
theorem data_kept {w w' : World} {base : Nat} {ok : Nat → Prop} {b n cap j : Nat} {l : List CellD} {A : Option Addr} {c : Nat} (h : Kd.R kCell tCell w base ok (.slice (some ⟨b, 0, none⟩) n cap) l) (hj : j < n) (hx : w.cell? ⟨b, j * 3 + 2, none⟩ = some (.slice A (l.getD j noCell).2.2.length c))
    (hk : ∀ k, ok k → k < w.heap.size → w'.heap[k]? = w.heap[k]?) : Kd.C kU w' A (l.getD j noCell).2.2.length (l.getD j noCell).2.2 := by
  have h' := Kd.R_step h hk
  obtain ⟨h0, _, h2⟩ := Kd.R_reads' h'
  obtain ⟨ad, A4, c4, A5, c5, xk, hA, _, _, x2, hd⟩ := cell_at h2 (j := j) (by omega)
  injection hA with hA
  subst hA
  rw [Addr.add_lit, Nat.zero_add] at x2
  have hb : w'.heap[b]? = w.heap[b]? := hk b (h.1 b rfl) (Kd.R_lt h b rfl)
  rw [World.cell?_of_block (w := w) hb, hx] at x2
  injection x2 with x2
  injection x2 with x2
  rw [x2]
  exact hd
theorem fillCells_mem (n c : Nat) : ∀ (l : List (List Int)) (i : Nat) (acc : List CellD), (∀ x ∈ l, x.length ≤ 100) → (∀ d ∈ acc, d.2.2.length ≤ 100) → ∀ d ∈ fillCells n c i l acc, d.2.2.length ≤ 100
  | [], _, _, _, h => h
  | x :: r, i, acc, hl, h => by
    unfold fillCells
    refine fillCells_mem n c r _ _ (fun y hy => hl y (List.mem_cons_of_mem _ hy)) (fun d hd => ?_)
    rcases List.mem_or_eq_of_mem_set hd with h1 | h1
    · exact h d h1
    · rw [h1]; exact hl x (List.mem_cons_self ..)
theorem rowCells_mem (l : List (List Int)) (hl : ∀ x ∈ l, x.length ≤ 100) : ∀ d ∈ rowCells l, d.2.2.length ≤ 100 :=
  fillCells_mem _ _ l 0 _ hl (fun d hd => by rw [List.eq_of_mem_replicate hd]; simp [noCell])
theorem cellsBytes_length : ∀ (L : List CellD), (∀ d ∈ L, d.2.2.length ≤ 100) → (cellsBytes L).length ≤ 102 * L.length
  | [], _ => by simp [cellsBytes]
  | d :: r, h => by
    have h1 := cellsBytes_length r (fun y hy => h y (List.mem_cons_of_mem _ hy))
    have h2 := h d (List.mem_cons_self ..)
    have h3 : (cellBytes d).length ≤ 102 := by unfold cellBytes; split <;> simp <;> omega
    have e : cellsBytes (d :: r) = cellBytes d ++ cellsBytes r := by simp [cellsBytes]
    rw [e, List.length_append, List.length_cons]
    omega
theorem out_length {l : List (List Int)} {out rest : List Int} (hl : ∀ x ∈ l, x.length ≤ 100) (h : out ++ rest = rowImage l) : out.length ≤ 1000000 := by
  have h1 := cellsBytes_length (rowCells l) (rowCells_mem l hl)
  have h2 := rowCells_length l
  have h3 := (cellCount_le l.length).1
  have h4 : (out ++ rest).length = 2 + (cellsBytes (rowCells l)).length := by rw [h]; simp [rowImage]; omega
  rw [List.length_append] at h4
  omega
theorem bytes_step {L : List CellD} {out R : List Int} {j : Nat} {cd : CellD} (h : out ++ cellsBytes (L.drop j) = R) (hj : j < L.length) (hc : cd = L.getD j noCell) : out ++ cellBytes cd ++ cellsBytes (L.drop (j + 1)) = R := by
  rw [List.drop_eq_getElem_cons hj] at h
  rw [← h, hc, getD_lt hj, List.append_assoc]
  rfl
/-- In the midst of a round: the buffer, and what is as it was. -/
def okM (w w2 wr : World) : Nat → Prop := fun k => (k = w.heap.size ∨ w2.heap.size ≤ k) ∧ k ≠ wr.heap.size
def Mid (w w2 wr W : World) (v : Value) (out : List Int) : Prop :=
  Kd.R kU 5 W w.heap.size (okM w w2 wr) v out ∧ Below w.heap.size w W ∧ wr.heap.size < W.heap.size ∧ w.heap.size < w2.heap.size ∧ w2.heap.size ≤ wr.heap.size ∧ (∀ k, w.heap.size + 1 ≤ k → k < w2.heap.size → W.heap[k]? = wr.heap[k]?)
theorem Mid.below {w w2 wr W W' : World} {v : Value} {out : List Int} (h : Mid w w2 wr W v out) (hb : Below W.heap.size W W') : Mid w w2 wr W' v out := by
  obtain ⟨h1, h2, h3, h4, h5, h6⟩ := h
  exact ⟨Kd.R_below h1 hb, below_then h2 h2.size hb, Nat.lt_of_lt_of_le h3 hb.size, h4, h5, fun k q1 q2 => (hb.block k (by omega)).trans (h6 k q1 q2)⟩
theorem Mid.start {w w2 wr W : World} {v : Value} {out : List Int} (h1 : Kd.R kU 5 wr w.heap.size (fun k => k = w.heap.size ∨ w2.heap.size ≤ k) v out) (h2 : Below w.heap.size w wr) (h4 : w.heap.size < w2.heap.size) (h5 : w2.heap.size ≤ wr.heap.size) (hb : Below wr.heap.size wr W) (hs : wr.heap.size < W.heap.size) : Mid w w2 wr W v out :=
  ⟨Kd.R_below (Kd.R_mono (Kd.R_bound h1) (fun k hk => ⟨hk.1, Nat.ne_of_lt hk.2.2.1⟩)) hb, below_then h2 h2.size hb, hs, h4, h5, fun k q1 q2 => hb.block k (by omega)⟩
theorem Mid.grown {w w2 wr W W' : World} {v v' : Value} {out out' : List Int} (h : Mid w w2 wr W v out) (hR : Kd.R kU 5 W' w.heap.size (okM w w2 wr) v' out') (hg : W.grownBy W' v.ownBlock) : Mid w w2 wr W' v' out' := by
  obtain ⟨h1, h2, h3, h4, h5, h6⟩ := h
  refine ⟨hR, h2.grown hg h2.size (fun k hk => ?_), Nat.lt_of_lt_of_le h3 hg.size, h4, h5, fun k q1 q2 => (hg.block k (by omega) (fun e => ?_)).trans (h6 k q1 q2)⟩
  · rcases (h1.1 k hk).1 with h | h <;> omega
  · rcases (h1.1 k e.symm).1 with h | h <;> omega
/-- The round's own variable stays as it was. -/
theorem Mid.var {w w2 wr W W' : World} {v x : Value} {out : List Int} {i : Nat} (h : Mid w w2 wr W v out) (hg : W.grownBy W' v.ownBlock) (hx : W.cell? ⟨wr.heap.size, i, none⟩ = some x) : W'.cell? ⟨wr.heap.size, i, none⟩ = some x :=
  hg.cell hx (fun e => (h.1.1 _ e.symm).2 rfl)
theorem Mid.done {w w2 wr W : World} {v v2 : Value} {out R : List Int} {cs : List CellD} {rest : List CellD} (h : Mid w w2 wr W v out) (hR : Kd.R kCell tCell wr (w.heap.size + 1) (fun k => w.heap.size + 1 ≤ k ∧ k < w2.heap.size) v2 cs) (he : out ++ cellsBytes rest = R) :
    Kd.R kU 5 W w.heap.size (fun k => k = w.heap.size ∨ w2.heap.size ≤ k) v out ∧ Kd.R kCell tCell W (w.heap.size + 1) (fun k => w.heap.size + 1 ≤ k ∧ k < w2.heap.size) v2 cs ∧ Below w.heap.size w W ∧ w2.heap.size ≤ W.heap.size ∧ w.heap.size < w2.heap.size ∧ out ++ cellsBytes rest = R := by
  obtain ⟨h1, h2, h3, h4, h5, h6⟩ := h
  exact ⟨Kd.R_mono h1 (fun _ hk => hk.1), Kd.R_step hR (fun k hk _ => h6 k hk.1 hk.2), h2, by omega, h4, he⟩
theorem fresh_ok {w w2 wr W : World} {v : Value} {out : List Int} (h : Mid w w2 wr W v out) : ∀ k, W.heap.size ≤ k → okM w w2 wr k := fun k hk => ⟨.inr (by have := h.2.2.1; have := h.2.2.2.2.1; omega), by have := h.2.2.1; omega⟩

set_option maxRecDepth 100000 in
set_option maxHeartbeats 1000000 in
theorem rowImage_any (w : World) (base : Nat) (ok : Nat → Prop) (g : Nat) (l : List (List Int)) (h : RowIs w base ok g l) (hl : l.length ≤ 1000) (hxl : ∀ x ∈ l, x.length ≤ 100) :
    Calls Tryz.prog 15 #[.pointer (some ⟨g, 0, none⟩)] w fun e w' => ∃ v', e = .returned v' ∧ Buf w' w.heap.size v' (rowImage l) ∧ Below w.heap.size w w' := by
  obtain ⟨hg, iv, hgl, hR⟩ := h
  have hreal := row_real w g iv hgl
  obtain ⟨A1, c1, rfl, hc1, hC⟩ := Kd.R_reads hR
  have d0 : w.cell? ⟨g, 1, none⟩ = some (.slice A1 l.length c1) := by rw [blk_cell hgl]; rfl
  obtain ⟨n, hn⟩ : ∃ n, n = l.length := ⟨_, rfl⟩
  rw [← hn] at d0
  clear hC hc1
  go_enter Tryz.func15, Tryz.ntmps15
  have hn' : (n : Int) ≤ 1000 := by omega
  have ea : IntKind.u8.wrap ((n : Int) / 256) = (n : Int) / 256 := by show ((n : Int) / 256) % 256 = _; omega
  have eb : IntKind.u8.wrap (n : Int) = (n : Int) % 256 := rfl
  have HX := Aside0.mk (And.intro hxl (And.intro hl hn))
  have HC := Aside0.mk (fun (W : World) (hk : KeptE w W (fun _ => False)) => cells_any W base ok g l (RowIs.kept ⟨hg, _, hgl, hR⟩ hk (fun _ _ h => h)) hl hxl)
  clear hgl hR hl hxl hn
  go_upto_region 3 with (go_at_call 46; refine hreal.mono ?_; rintro e w ⟨rfl, rfl⟩)
  clear hreal
  go_region_held3 (fun w' => w'.cell? ⟨g, 1, none⟩ = some (.slice A1 n c1)) (go_keep) (first | fail)
  have hcl := HC.out ((w.alloc (.cells #[.int .u8 ((n : Int) / 256), .int .u8 ((n : Int) % 256)] 5)).drew) ((((KeptE.refl w _)).alloc _).drew)
  go_wp2_with (go_at_call 31; refine hcl.mono ?_; rintro e w2 ⟨v2, rfl, h1, h2⟩; obtain ⟨A2, c2, rfl, _, _⟩ := Kd.R_reads h1; have H1 := Aside0.mk (And.intro h1 h2); clear h1 h2 hcl HC)
  go_loopg [26, 3, 5] (rowCells l).length (fun kq v26 v3 v5 w' => ∃ (j : Nat) (A3 : Option Addr) (c3 n3 : Nat) (out : List Int), v26 = .int .i64 j ∧ v3 = .slice A3 n3 c3 ∧ Aside0 (j + kq = (rowCells l).length) ∧ Aside0 (Kd.R kU 5 w' w.heap.size (fun k => k = w.heap.size ∨ w2.heap.size ≤ k) (.slice A3 n3 c3) out ∧ Kd.R kCell tCell w' (w.heap.size + 1) (fun k => w.heap.size + 1 ≤ k ∧ k < w2.heap.size) (.slice A2 (rowCells l).length c2) (rowCells l) ∧ Below w.heap.size w w' ∧ w2.heap.size ≤ w'.heap.size ∧ w.heap.size < w2.heap.size ∧ out ++ cellsBytes ((rowCells l).drop j) = rowImage l))
  case atStart =>
    refine ⟨0, some ⟨w.heap.size, 0, none⟩, 2, 2, [(n : Int) / 256, (n : Int) % 256], rfl, rfl, ⟨by omega⟩, ⟨?_, ?_, ?_, Nat.le_refl _, ?_⟩⟩
    · exact Kd.R_below (Kd.R_drew (R_lit w.heap.size _ #[.int .u8 ((n : Int) / 256), .int .u8 ((n : Int) % 256)] [(n : Int) / 256, (n : Int) % 256] rfl (by simp) (.inl rfl) (Nat.le_refl _))) H1.out.2
    · have e : (w.alloc (.cells #[.int .u8 ((n : Int) / 256), .int .u8 ((n : Int) % 256)] 5)).drew.heap.size = w.heap.size + 1 := by simp
      have h := Kd.R_bound H1.out.1
      rw [e] at h
      exact Kd.R_mono h (fun k hk => ⟨hk.1, hk.2.2.1⟩)
    · exact below_then (below_alloc (Below.refl _ _) _).drew (by simp) H1.out.2
    · have h := H1.out.2.size
      simp at h
      refine ⟨by omega, ?_⟩
      unfold rowImage
      rw [← HX.out.2.2, show (n : Int) / 256 % 256 = (n : Int) / 256 by omega]
      rfl
  case round =>
    obtain ⟨j, A3, c3, n3, out, rfl, rfl, P1, P2⟩ := hrel
    cases gk with
    | zero =>
      have t1 : ¬ j < (rowCells l).length := by have := P1.out; omega
      have H3 : out = rowImage l := by
        have h := P2.out.2.2.2.2.2
        rw [List.drop_eq_nil_of_le (by omega)] at h
        simpa [cellsBytes] using h
      subst H3
      go_wp2
      go_ret
      exact ⟨_, rfl, Kd.R_mono P2.out.1 (fun k hk => by rcases hk with h | h; exact Nat.le_of_eq h.symm; have := P2.out.2.2.2.2.1; omega), P2.out.2.2.1⟩
    | succ gk =>
      have t1 : j < (rowCells l).length := by have := P1.out; omega
      have e8 : IntKind.i64.wrap ((j : Int) + 1) = (j : Int) + 1 := IntWalk.i64_in _ (by have := rowCells_length l; have := (cellCount_le l.length).1; omega)
      obtain ⟨ad, A4, c4, A5, c5, xk, hA, x0, x1, x2, hx⟩ := cell_at (Kd.R_reads' P2.out.2.1).2.2 t1
      subst hA
      obtain ⟨bc, rfl⟩ := Kd.R_head P2.out.2.1
      rw [Addr.add_lit, Nat.zero_add] at x0 x1 x2
      have HX2 := Aside0.mk hx
      obtain ⟨cd, hcd⟩ : ∃ cd, cd = (rowCells l).getD j noCell := ⟨_, rfl⟩
      rw [← hcd] at x0 x2 hx
      have HX2 := Aside0.mk hx
      have HCD := Aside0.mk hcd
      have HB1 := Aside0.mk (out_length HX.out.1 P2.out.2.2.2.2.2)
      have HB2 := Aside0.mk (show cd.2.2.length ≤ 100 from rowCells_mem l HX.out.1 cd (by rw [hcd, getD_lt t1]; exact List.getElem_mem _))
      clear hx hcd
      go_upto_region 7 with (fail)
      obtain ⟨W1, hW⟩ : ∃ W1, W1 = wr.alloc (.cells #[.bool cd.1, .slice A4 xk c4, .slice A5 cd.2.2.length c5] tCell) := ⟨_, rfl⟩
      rw [← hW]
      have hW1 : W1.heap[wr.heap.size]? = some (.cells #[.bool cd.1, .slice A4 xk c4, .slice A5 cd.2.2.length c5] tCell (0, 0)) := by rw [hW]; exact heap_alloc_new wr _
      have y0 : W1.cell? ⟨wr.heap.size, 0, none⟩ = some (.bool cd.1) := by rw [blk_cell hW1]; rfl
      have y2 : W1.cell? ⟨wr.heap.size, 2, none⟩ = some (.slice A5 cd.2.2.length c5) := by rw [blk_cell hW1]; rfl
      have yb : Below wr.heap.size wr W1 := by rw [hW]; exact below_alloc (Below.refl _ _) _
      have HW := Aside0.mk (And.intro hW1 yb)
      have HM := Aside0.mk (show Mid w w2 wr W1 (.slice A3 n3 c3) out from Mid.start P2.out.1 P2.out.2.2.1 P2.out.2.2.2.2.1 P2.out.2.2.2.1 yb (by rw [hW]; simp))
      have HD := Aside0.mk (fun (W : World) (v : Value) (o : List Int) (h : Mid w w2 wr W v o) => (by rw [HCD.out]; exact data_kept P2.out.2.1 t1 (by rw [← HCD.out]; exact x2) (fun k q _ => h.2.2.2.2.2 k q.1 q.2) : Kd.C kU W A5 cd.2.2.length cd.2.2))
      have HY := Aside0.mk (fun (W : World) (hb : Below W1.heap.size W1 W) => ((hb.cell (World.block_lt_of_cell? _ _ y2)).trans y2 : W.cell? ⟨wr.heap.size, 2, none⟩ = some (.slice A5 cd.2.2.length c5)))
      clear hW hW1 yb x0 x1 x2
      cases hf : cd.1 with
      | false =>
        rw [hf] at y0
        have HF := Aside0.mk hf
        clear hf
        go_wp2_with (at_builtin; refine ok_appendN (base := w.heap.size) (ok := okM w w2 wr) rfl _ _ rfl _ out [0] _ 1 1 rfl rfl rfl (HM.out.below (below_alloc (Below.refl _ _) _)).1 (C_lit #[.int .u8 0] [0] rfl (by decide)) ?hf ?hb ?hl ?_; (case hf => exact fresh_ok (HM.out.below (below_alloc (Below.refl _ _) _))); (case hb => exact (HM.out.below (below_alloc (Below.refl _ _) _)).2.1.size); (case hl => have := HB1.out; omega); intro v4 w4 h4 hg4; obtain ⟨A6, c6, rfl, _, _⟩ := Kd.R_reads h4; have H4 := Aside0.mk (Mid.grown (HM.out.below (below_alloc (Below.refl _ _) _)) h4 hg4); clear h4 hg4)
        go_roundg gk
        case measure => omega
        case rel => exact ⟨j + 1, A6, c6, _, out ++ [0], by simp, rfl, ⟨by have := P1.out; omega⟩, ⟨Mid.done (by simpa using H4.out) P2.out.2.1 (by have := bytes_step P2.out.2.2.2.2.2 t1 HCD.out; unfold cellBytes at this; rw [HF.out] at this; exact this)⟩⟩
      | true =>
        rw [hf] at y0
        have HF := Aside0.mk hf
        clear hf
        go_upto_region 9 with (fail)
        go_region_held3 (fun w' => w'.cell? ⟨wr.heap.size, 2, none⟩ = some (.slice A5 cd.2.2.length c5)) (first | exact y2 | exact d9 | exact d10 | go_keep) (first | (refine ok_appendN_step (base := w.heap.size) (ok := okM w w2 wr) rfl (.tmp 36) (.tmp 41) rfl _ out [1, (cd.2.2.length : Int) % 256] _ 2 2 rfl rfl rfl ?ho (C_lit _ [1, (cd.2.2.length : Int) % 256] rfl (by simp)) ?hf ?hb ?hl ?_; (case ho => exact (HM.out.below (below_alloc (Below.refl _ _).drew _)).1); (case hf => exact fresh_ok (HM.out.below (below_alloc (Below.refl _ _).drew _))); (case hb => exact (HM.out.below (below_alloc (Below.refl _ _).drew _)).2.1.size); (case hl => have := HB1.out; omega); intro v4 w4 h4 hg4; have H4 := Aside0.mk (Mid.grown (HM.out.below (below_alloc (Below.refl _ _).drew _)) h4 hg4); have d9 := Mid.var (HM.out.below (below_alloc (Below.refl _ _).drew _)) hg4 (HY.out _ (below_alloc (Below.refl _ _).drew _)); obtain ⟨A6, c6, rfl, _, _⟩ := Kd.R_reads h4; clear h4 hg4) | (refine ok_appendN_step (base := w.heap.size) (ok := okM w w2 wr) rfl (.tmp 42) (.tmp 44) rfl _ _ cd.2.2 _ _ _ rfl rfl rfl H4.out.1 (HD.out _ _ _ H4.out) (fresh_ok H4.out) H4.out.2.1.size ?hl ?_; (case hl => have := HB1.out; have := HB2.out; simp; omega); intro v5 w5 h5 hg5; have H5 := Aside0.mk (Mid.grown H4.out h5 hg5); have d10 := Mid.var H4.out hg5 d9; obtain ⟨A7, c7, rfl, _, _⟩ := Kd.R_reads h5; clear h5 hg5 d9))
        go_wp2
        go_roundg gk
        case measure => omega
        case rel => exact ⟨j + 1, A7, c7, _, out ++ [1, (cd.2.2.length : Int) % 256] ++ cd.2.2, by simp, rfl, ⟨by have := P1.out; omega⟩, ⟨Mid.done (by simpa using H5.out) P2.out.2.1 (by have := bytes_step P2.out.2.2.2.2.2 t1 HCD.out; unfold cellBytes at this; rw [HF.out] at this; simpa using this)⟩⟩
end Go.Proofs.YtkjplffpihfliaaGreatDoor
end

section
/- Maps with string keys in memory, entry by entry: look-up, update, delete, length. -/
namespace Go.Proofs.YtkjplffpihfliaaGreatDoor
open Go.RowKit Go.Proofs.YtkjplffpihfliaaGreatDoorW.PrintWords PAll

/-- Block b is a map of strings, with these keys and values in the order of their coming. -/
def SMap (w : World) (b : Nat) (l : List (ByteArray × Value)) : Prop :=
  ∃ es clock, w.heap[b]? = some (.map es clock) ∧ es.toList.map (fun e => (e.key, e.val)) = l.map (fun p => (Value.string p.1, p.2)) ∧ (l.map Prod.fst).Nodup ∧ (es.toList.map MapEntry.born).Pairwise (· < ·) ∧ ∀ e ∈ es.toList, e.born < clock

def sget {α : Type} : List (ByteArray × α) → ByteArray → Option α
  | [], _ => none
  | (k, v) :: r, s => if s = k then some v else sget r s
def sput {α : Type} : List (ByteArray × α) → ByteArray → α → List (ByteArray × α)
  | [], s, v => [(s, v)]
  | (k, u) :: r, s, v => if s = k then (s, v) :: r else (k, u) :: sput r s v

theorem SMap.kept {w w' : World} {b : Nat} {l : List (ByteArray × Value)} {S : Nat → Prop} (h : SMap w b l) (hk : KeptE w w' S) (hs : ¬ S b) : SMap w' b l := by
  obtain ⟨es, clock, hb, h1, h2, h3, h4⟩ := h
  exact ⟨es, clock, (hk.1.2 b (Array.getElem?_eq_some_iff.1 hb).1 hs).trans hb, h1, h2, h3, h4⟩
theorem SMap.lt {w : World} {b : Nat} {l : List (ByteArray × Value)} (h : SMap w b l) : b < w.heap.size := by
  obtain ⟨es, clock, hb, _⟩ := h
  exact (Array.getElem?_eq_some_iff.1 hb).1
theorem SMap.made (w : World) : SMap (w.alloc (.map #[] 0)) w.heap.size [] := ⟨#[], 0, heap_alloc_new w _, rfl, List.nodup_nil, List.Pairwise.nil, fun _ h => by simp at h⟩
theorem SMap.size {w : World} {b : Nat} {l : List (ByteArray × Value)} {es : Array MapEntry} {clock : Nat} (h : SMap w b l) (hb : w.heap[b]? = some (.map es clock)) : es.size = l.length := by
  obtain ⟨es', clock', hb', h1, _⟩ := h
  rw [hb'] at hb
  cases hb
  have := congrArg List.length h1
  simpa using this

theorem ba_beq (a b : ByteArray) : (a == b) = decide (a = b) := by
  cases a with | mk x => cases b with | mk y =>
  show (x == y) = _
  by_cases h : x = y
  · subst h; simp
  · simp [h]
theorem findNow_s (s : ByteArray) : ∀ (es : List MapEntry) (l : List (ByteArray × Value)) (i : Nat), es.map (fun e => (e.key, e.val)) = l.map (fun p => (Value.string p.1, p.2)) →
    Instr.findNow .string (.string s) es i = some none ∧ sget l s = none ∨ ∃ j v, Instr.findNow .string (.string s) es i = some (some (i + j, v)) ∧ sget l s = some v ∧ (es[j]?).map MapEntry.key = some (.string s) ∧ j < es.length
  | [], [], _, _ => .inl ⟨rfl, rfl⟩
  | e :: es, [], _, h => by simp at h
  | [], p :: l, _, h => by simp at h
  | e :: es, (k, v) :: l, i, h => by
    simp only [List.map_cons, List.cons.injEq, Prod.mk.injEq] at h
    obtain ⟨⟨hk, hv⟩, hr⟩ := h
    by_cases he : s = k
    · subst he
      refine .inr ⟨0, v, ?_, by simp [sget], by simp [hk], by simp⟩
      simp [Instr.findNow, Instr.sameNow, hk, hv, ba_beq]
    · have hne : (s == k) = false := by rw [ba_beq]; simpa using he
      rcases findNow_s s es l (i + 1) hr with ⟨h1, h2⟩ | ⟨j, u, h1, h2, h3, h4⟩
      · exact .inl ⟨by simp [Instr.findNow, Instr.sameNow, hk, hne, h1], by simp [sget, he, h2]⟩
      · refine .inr ⟨j + 1, u, ?_, by simp [sget, he, h2], by simpa using h3, by simp; omega⟩
        simp [Instr.findNow, Instr.sameNow, hk, hne, h1]
        omega

theorem smap_lookup {P : Program} {w : World} {b : Nat} {l : List (ByteArray × Value)} (h : SMap w b l) (mty kt et : TypeId) (hm : P.underlying mty = some (.map kt et)) (hk : P.underlying kt = some .string) (z : Value) (hz : (zeroValue et).run P w = .ok z w) (s : ByteArray) (c : Bool) :
    (Instr.lookup mty (.map (some b)) (.string s) c).run P w = .ok (if c then .tuple #[(sget l s).getD z, .bool (sget l s).isSome] else (sget l s).getD z) w := by
  obtain ⟨es, clock, hb, h1, _⟩ := h
  have hc : (Instr.checkKey es.isEmpty 10000 kt (.string s)).run P w = .ok () w := MapKept.run_checkKey (k := .string s) hk (by simp [MapKept.IsKey]) _ 9999
  rcases findNow_s s es.toList l 0 h1 with ⟨h2, h3⟩ | ⟨j, v, h2, h3, _⟩
  · cases c <;> simp [Instr.lookup, run_underlying hm, MapKept.run_getObj_map hb, hc, MapKept.run_findKey hk h2, Result.andThen, h3, hz]
  · cases c <;> simp [Instr.lookup, run_underlying hm, MapKept.run_getObj_map hb, hc, MapKept.run_findKey hk h2, Result.andThen, h3]

theorem sget_none : ∀ {l : List (ByteArray × Value)} {s : ByteArray}, sget l s = none → s ∉ l.map Prod.fst
  | [], _, _ => by simp
  | (k, u) :: l, s, h => by
    unfold sget at h
    split at h
    · cases h
    · rename_i hne
      simp only [List.map_cons, List.mem_cons, not_or]
      exact ⟨hne, sget_none h⟩
theorem sput_none : ∀ {l : List (ByteArray × Value)} {s : ByteArray} (v : Value), sget l s = none → sput l s v = l ++ [(s, v)]
  | [], _, _, _ => rfl
  | (k, u) :: l, s, v, h => by
    unfold sget at h
    split at h
    · cases h
    · rename_i hne
      simp [sput, hne, sput_none v h]
theorem sput_keys : ∀ {l : List (ByteArray × Value)} {s : ByteArray} {u : Value} (v : Value), sget l s = some u → (sput l s v).map Prod.fst = l.map Prod.fst
  | [], _, _, _, h => by cases h
  | (k, u) :: l, s, _, v, h => by
    unfold sget at h
    unfold sput
    split
    · rename_i he; simp [he]
    · rename_i hne
      rw [if_neg hne] at h
      simp [sput_keys v h]
theorem sput_nodup {l : List (ByteArray × Value)} {s : ByteArray} {v : Value} (h : (l.map Prod.fst).Nodup) : ((sput l s v).map Prod.fst).Nodup := by
  cases hg : sget l s with
  | none =>
    rw [sput_none v hg, List.map_append]
    simp only [List.map_cons, List.map_nil]
    exact List.nodup_append.2 ⟨h, by simp, fun a ha b hb e => by
      rw [List.mem_singleton] at hb
      exact sget_none hg (hb ▸ e ▸ ha)⟩
  | some u => rw [sput_keys v hg]; exact h
theorem modify_s (s : ByteArray) (v : Value) : ∀ (es : List MapEntry) (l : List (ByteArray × Value)) (i j : Nat) (u : Value), es.map (fun e => (e.key, e.val)) = l.map (fun p => (Value.string p.1, p.2)) →
    Instr.findNow .string (.string s) es i = some (some (i + j, u)) → (es.modify j (fun e => { e with key := .string s, val := v })).map (fun e => (e.key, e.val)) = (sput l s v).map (fun p => (Value.string p.1, p.2))
  | [], [], _, _, _, _, h => by simp [Instr.findNow] at h
  | e :: es, [], _, _, _, h, _ => by simp at h
  | [], p :: l, _, _, _, h, _ => by simp at h
  | e :: es, (k, v0) :: l, i, j, u, h, hf => by
    simp only [List.map_cons, List.cons.injEq, Prod.mk.injEq] at h
    obtain ⟨⟨hk, hv⟩, hr⟩ := h
    by_cases he : s = k
    · subst he
      simp [Instr.findNow, Instr.sameNow, hk, hv, ba_beq] at hf
      have hj : j = 0 := by omega
      subst hj
      simp [sput, hr]
    · have hne : (s == k) = false := by rw [ba_beq]; simpa using he
      simp [Instr.findNow, Instr.sameNow, hk, hne] at hf
      cases j with
      | zero =>
        exfalso
        rcases findNow_s s es l (i + 1) hr with ⟨h1, _⟩ | ⟨j', u', h1, _⟩
        · rw [h1] at hf; cases hf
        · rw [h1] at hf; simp at hf; omega
      | succ j =>
        have := modify_s s v es l (i + 1) j u hr (by rw [hf]; congr 3; omega)
        simp [sput, he, hk, hv, this]
theorem setBlock_kept (w : World) (b : Nat) (o : Obj) : KeptE w { w with heap := w.heap.setIfInBounds b o } (fun k => k = b) :=
  ⟨⟨by simp, fun i hi hn => by
    show (w.heap.setIfInBounds b o)[i]? = _
    rw [Array.getElem?_setIfInBounds_ne (fun e => hn e.symm)]⟩, rfl, rfl, rfl⟩
theorem setBlock_at {w : World} {b : Nat} (o : Obj) (h : b < w.heap.size) : ({ w with heap := w.heap.setIfInBounds b o } : World).heap[b]? = some o := by
  show (w.heap.setIfInBounds b o)[b]? = _
  rw [Array.getElem?_setIfInBounds_self_of_lt h]

theorem smap_update {P : Program} {w : World} {b : Nat} {l : List (ByteArray × Value)} (h : SMap w b l) (mty kt et : TypeId) (hm : P.underlying mty = some (.map kt et)) (hk : P.underlying kt = some .string) (s : ByteArray) (v : Value) :
    ∃ o, (Instr.mapUpdate mty (.map (some b)) (.string s) v).run P w = .ok () { w with heap := w.heap.setIfInBounds b o } ∧ SMap { w with heap := w.heap.setIfInBounds b o } b (sput l s v) := by
  have hlt := h.lt
  obtain ⟨es, clock, hb, h1, hn, hp, hcl⟩ := h
  have hc : (Instr.checkKey false 10000 kt (.string s)).run P w = .ok () w := MapKept.run_checkKey (k := .string s) hk (by simp [MapKept.IsKey]) _ 9999
  rcases findNow_s s es.toList l 0 h1 with ⟨h2, h3⟩ | ⟨j, u, h2, h3, h4, h5⟩
  · refine ⟨.map (es.push { key := .string s, val := v, born := clock }) (clock + 1), ?_, ?_⟩
    · simp [Instr.mapUpdate, run_underlying hm, MapKept.run_getObj_map hb, hc, MapKept.run_findKey hk h2, MapKept.run_setObj_map _ hb, Result.andThen]
    · refine ⟨_, _, setBlock_at _ hlt, ?_, sput_nodup hn, ?_, ?_⟩
      · rw [sput_none v h3]; simp [h1]
      · simp only [Array.toList_push, List.map_append, List.map_cons, List.map_nil]
        refine List.pairwise_append.2 ⟨hp, by simp, fun a ha c hc' => ?_⟩
        rw [List.mem_singleton] at hc'
        obtain ⟨e, he, rfl⟩ := List.mem_map.1 ha
        rw [hc']
        exact hcl e he
      · intro e he
        rw [Array.toList_push, List.mem_append, List.mem_singleton] at he
        rcases he with he | rfl
        · exact Nat.lt_succ_of_lt (hcl e he)
        · exact Nat.lt_succ_self _
  · refine ⟨.map (es.modify j fun e => { e with key := .string s, val := v }) clock, ?_, ?_⟩
    · have hsb : Instr.sameBits 10000 (.string s) (.string s) = true := by simp [Instr.sameBits, ba_beq]
      have hkk : ((es[j]?).map MapEntry.key).getD (.string s) = .string s := by
        rw [Array.getElem?_toList] at h4
        rw [h4]; rfl
      simp [Instr.mapUpdate, run_underlying hm, MapKept.run_getObj_map hb, hc, MapKept.run_findKey hk h2, MapKept.run_setObj_map _ hb, Result.andThen, Instr.keyThatStays, hkk, hsb]
    · have hbn : ((es.modify j fun e => { e with key := .string s, val := v }).toList).map MapEntry.born = es.toList.map MapEntry.born := by
        rw [Array.toList_modify]
        apply List.ext_getElem?
        intro i
        simp only [List.getElem?_map, List.getElem?_modify]
        cases hi : es.toList[i]? with
        | none => rfl
        | some e => by_cases hji : j = i <;> simp [hji]
      refine ⟨_, _, setBlock_at _ hlt, ?_, sput_nodup hn, ?_, ?_⟩
      · rw [Array.toList_modify]
        exact modify_s s v es.toList l 0 j u h1 h2
      · rw [hbn]; exact hp
      · intro e he
        have : e.born ∈ ((es.modify j fun e => { e with key := .string s, val := v }).toList).map MapEntry.born := List.mem_map_of_mem he
        rw [hbn] at this
        obtain ⟨e', he', e2⟩ := List.mem_map.1 this
        rw [← e2]
        exact hcl e' he'
end Go.Proofs.YtkjplffpihfliaaGreatDoor
end
