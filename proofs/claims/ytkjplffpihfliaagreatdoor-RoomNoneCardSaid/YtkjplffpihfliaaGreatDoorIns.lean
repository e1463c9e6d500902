/- The contract of slices.Insert of one slice of bytes. -/
import Derived.Test.YtkjplffpihfliaaGreatDoorEnv
import Derived.Shelf.Spec.SlicesInsert
import Derived.Lib.AppendZerosOnto
namespace Go.Proofs.YtkjplffpihfliaaGreatDoor
open Go.RowKit Go.Lib Go.Proofs.YtkjplffpihfliaaGreatDoorW.PrintWords PAll

theorem setCells_blk {t : TypeId} (g : Nat) : ∀ (vs : List Value) (o : Nat) (w : World) (cur : Array Value), w.heap[g]? = some (.cells cur t (0, 0)) → ∃ cur', (w.setCells g o vs).heap[g]? = some (.cells cur' t (0, 0)) ∧ cur'.size = cur.size
  | [], _, _, cur, h => ⟨cur, h, rfl⟩
  | v :: r, o, w, cur, h => by
    obtain ⟨c', h1, h2⟩ := setCells_blk g r (o + 1) _ _ (blk_set h o v)
    exact ⟨c', h1, by rw [h2]; simp⟩
theorem setCells_kept (g : Nat) {S : Nat → Prop} : ∀ (vs : List Value) (o : Nat) (w0 w : World), KeptE w0 w S → S g ∨ w0.heap.size ≤ g → KeptE w0 (w.setCells g o vs) S
  | [], _, _, _, h, _ => h
  | v :: r, o, w0, w, h, hs => setCells_kept g r (o + 1) w0 _ (h.setCell hs v) hs
theorem own_cells {w : World} {base g cap n : Nat} {t : TypeId} {cur : Array Value} {xs : List Value} (h : w.heap[g]? = some (.cells cur t (0, 0))) (hs : cur.size = cap) (hn : n ≤ cap) (hm : cap ≤ maxLen) (hg : base ≤ g) (hl : xs.length = n)
    (hc : ∀ j v, xs[j]? = some v → w.cell? ⟨g, j, none⟩ = some v) : w.ownsRow base t 1 (.slice (some ⟨g, 0, none⟩) n cap) n xs := by
  refine ⟨by omega, .inr ⟨g, cap, cur, rfl, hg, h, hn, hm, by omega, ?_⟩⟩
  apply List.ext_getElem?
  intro j
  rw [List.getElem?_take]
  by_cases hj : j < n
  · rw [if_pos (by omega)]
    have h1 := hc j _ (List.getElem?_eq_getElem (by omega))
    rw [blk_cell h] at h1
    rw [List.getElem?_eq_getElem (by omega : j < xs.length), ← h1]
    simp
  · rw [if_neg (by omega), List.getElem?_eq_none (by omega)]
theorem own_get {w : World} {base g cap n : Nat} {t : TypeId} {xs : List Value} (h : w.ownsRow base t 1 (.slice (some ⟨g, 0, none⟩) n cap) n xs) :
    ∃ cur, w.heap[g]? = some (.cells cur t (0, 0)) ∧ cur.size = cap ∧ n ≤ cap ∧ cap ≤ maxLen ∧ base ≤ g ∧ xs.length = n ∧ ∀ j v, xs[j]? = some v → w.cell? ⟨g, j, none⟩ = some v := by
  obtain ⟨h0, h1 | ⟨g', cap', cur, he, hb, hh, h3, h4, h5, h6⟩⟩ := h
  · cases h1.1
  · cases he
    refine ⟨cur, hh, by omega, h3, h4, hb, by omega, fun j v hj => ?_⟩
    rw [blk_cell hh]
    have hlt : j < xs.length := (List.getElem?_eq_some_iff.1 hj).1
    rw [← h6, List.getElem?_take, if_pos (by omega)] at hj
    simpa using hj

abbrev tB : Nat := 31
abbrev tBs : Nat := 57
theorem infoBs0 : (Tryz.prog.info? tB).map (fun i => (i.zero, i.size, i.bytes)) = some (some (.slice none 0 0), 1, 24) := by kernel_rfl
theorem infoBs : ∃ i, Tryz.prog.info? tB = some i ∧ i.zero = some (.slice none 0 0) ∧ i.size = 1 ∧ i.bytes = 24 := info_parts infoBs0
theorem sizeB : ∀ w, (Go.sizeOf tB).run Tryz.prog w = .ok 1 w := fun w => by
  obtain ⟨i, hi, _, hs, _⟩ := infoBs
  simp [Go.sizeOf, typeInfo, hi, hs]

/-- What a call of Insert leaves. -/
def Ins (w : World) (base : Nat) (iv : Value) (n : Nat) (vs : List Value) (i : Nat) (b : Value) (e : Ending) (w' : World) : Prop :=
  ∃ iv', e = .returned iv' ∧ w'.ownsRow base tB 1 iv' (n + 1) (vs.take i ++ b :: vs.drop i) ∧ KeptE w w' (fun k => some k = iv.ownBlock) ∧ (∀ k, iv'.ownBlock = some k → some k = iv.ownBlock ∨ w.heap.size ≤ k)

/-- append of one element: what it gives, and where it lies. -/
theorem app_one (w : World) (ty : TypeId) (base : Nat) (iv : Value) (n vb : Nat) (vs : List Value) (b : Value) (h : w.ownsRow base tB 1 iv n vs) (hn : n ≤ 100000) (hb : base ≤ w.heap.size) (h1 : b.oneCell' = true)
    (hvb : w.heap[vb]? = some (.cells #[b] tB (0, 0))) : ∃ v' w', (Builtin.append_ #[tBs, tBs] ty #[iv, .slice (some ⟨vb, 0, none⟩) 1 1]).run Tryz.prog w = .ok v' w' ∧ Ins w base iv n vs n b (.returned v') w' := by
  obtain ⟨i0, hi, hz0, hzs, hby⟩ := infoBs
  have hlen : vs.length = n := by have := h.1; omega
  have hcell : ∀ j u, [b][j]? = some u → w.cell? (Addr.add ⟨vb, 0, none⟩ j) = some u := fun j u hj => by
    rw [Addr.add_lit, Nat.zero_add, blk_cell hvb]
    simpa using hj
  obtain ⟨v', w', hr, h2, h3, _⟩ := run_append_own (P := Tryz.prog) w base tBs ty tB i0 _ 1 24 Tryz.underlying57 hi hz0 hzs hby rfl (by decide) iv n vs h ⟨vb, 0, none⟩ 1 1 [b] rfl hcell (by simpa using h1) (by unfold maxLen; omega) (by omega) hb
  refine ⟨v', w', hr, v', rfl, ?_, KeptE.of_grown h3 (KeptE.refl _ _) (fun k hk => .inl hk.symm), ?_⟩
  · rw [List.take_of_length_le (by omega), List.drop_eq_nil_of_le (by omega)]; exact h2
  · rcases h.2 with ⟨rfl, rfl⟩ | ⟨g, cap, cur, rfl, hg, hh, h3, h4, h5, h6⟩
    · have hr2 := run_append_nil (P := Tryz.prog) w tBs ty tB i0 _ Tryz.underlying57 hi hz0 ⟨vb, 0, none⟩ 1 1 [b] (by simp [hzs]) hcell (by omega) (by omega) (by omega)
      have e := hr.symm.trans hr2
      cases e
      intro k hk
      have : w.heap.size = k := by simpa [Value.ownBlock] using hk
      exact .inr (by omega)
    · by_cases hc : n + 1 ≤ cap
      · have hr2 := run_append_room (P := Tryz.prog) w tBs ty tB i0 Tryz.underlying57 hi g n cap cur hh ⟨vb, 0, none⟩ 1 1 [b] (by simp [hzs]) hcell (by simpa using h1) hc (by simp [hzs]; omega)
        have e := hr.symm.trans hr2
        cases e
        intro k hk
        exact .inl hk.symm
      · have hr2 := run_append_grow (P := Tryz.prog) w tBs ty tB i0 _ Tryz.underlying57 hi hz0 ⟨g, 0, none⟩ n cap vs (by simp [hzs]; omega) (by simpa using h.cells (g := g) rfl) ⟨vb, 0, none⟩ 1 1 [b] (by simp [hzs]) hcell (by omega) (by omega) (growslice_fits (by omega) (by rw [hby]; omega))
        have e := hr.symm.trans hr2
        cases e
        intro k hk
        have : w.heap.size = k := by simpa [Value.ownBlock] using hk
        exact .inr (by omega)

set_option maxRecDepth 100000 in
set_option maxHeartbeats 1000000 in
/-- At the end. -/
theorem ins_end (w : World) (base : Nat) (iv : Value) (n vb : Nat) (vs : List Value) (b : Value) (h : w.ownsRow base tB 1 iv n vs) (hn : n ≤ 100000) (hb : base ≤ w.heap.size) (h1 : b.oneCell' = true)
    (hvb : w.heap[vb]? = some (.cells #[b] tB (0, 0))) : Calls Tryz.prog 47 #[iv, .int .i64 n, .slice (some ⟨vb, 0, none⟩) 1 1] w (Ins w base iv n vs n b) := by
  have hrun := fun ty => app_one w ty base iv n vb vs b h hn hb h1 hvb
  have hsl : ∃ A c, iv = .slice A n c ∧ (A = none → n = 0 ∧ c = 0) ∧ n ≤ c ∧ (∀ a, A = some a → a.spot = none ∧ a.off = 0) := by
    rcases h.2 with ⟨rfl, rfl⟩ | ⟨g, cap, cur, rfl, hg, hh, h3, h4, h5, h6⟩
    · exact ⟨none, 0, rfl, fun _ => ⟨rfl, rfl⟩, Nat.le_refl _, fun a h => by cases h⟩
    · exact ⟨some ⟨g, 0, none⟩, cap, rfl, fun h => (by cases h), h3, fun a h => by cases h; exact ⟨rfl, rfl⟩⟩
  obtain ⟨A, c, rfl, hA, hnc, hA2⟩ := hsl
  obtain ⟨v', w', hr, hI⟩ := hrun tBs
  have hfin : Ins w base (.slice A n c) n vs n b (.returned v') w' := hI
  clear hI hrun h hvb
  have hn' : ∀ a, A = some a → a = ⟨a.block, 0, none⟩ := fun a h => by obtain ⟨h1, h2⟩ := hA2 a h; cases a; simp_all
  go_enter Tryz.func47, Tryz.ntmps47
  cases A with
  | none =>
    obtain ⟨rfl, rfl⟩ := hA rfl
    go_wp2_with (at_builtin; refine Lib.wpList_append_run _ rfl _ _ _ _ rfl _ _ rfl rfl _ _ hr ?_)
    go_ret
    exact hfin
  | some a =>
    obtain ⟨ab, ao, asp⟩ := a
    obtain ⟨h1, h2⟩ := hA2 _ rfl
    simp only at h1 h2
    subst h1 h2
    clear hA hA2 hn'
    go_wp2_with (at_builtin; refine Lib.wpList_append_run _ rfl _ _ _ _ rfl _ _ rfl rfl _ _ hr ?_)
    all_goals (go_ret; exact hfin)

/-- What stands in a row behind an insertion, cell by cell. -/
theorem ins_list {vs : List Value} {b v : Value} {i n j : Nat} (hl : vs.length = n) (hi : i < n) (h : (vs.take i ++ b :: vs.drop i)[j]? = some v) :
    (j < i ∧ vs[j]? = some v) ∨ (j = i ∧ v = b) ∨ (i < j ∧ j < n + 1 ∧ (vs.drop i)[j - (i + 1)]? = some v) := by
  rw [List.getElem?_append] at h
  have hti : (vs.take i).length = i := by rw [List.length_take]; omega
  rw [hti] at h
  split at h
  · rename_i hj
    rw [List.getElem?_take, if_pos hj] at h
    exact .inl ⟨hj, h⟩
  · rename_i hj
    by_cases he : j = i
    · subst he
      simp at h
      exact .inr (.inl ⟨rfl, h.symm⟩)
    · obtain ⟨k, hk⟩ : ∃ k, j - i = k + 1 := ⟨j - i - 1, by omega⟩
      rw [hk, List.getElem?_cons_succ] at h
      have := (List.getElem?_eq_some_iff.1 h).1
      rw [List.length_drop] at this
      exact .inr (.inr ⟨by omega, by omega, by rw [show j - (i + 1) = k by omega]; exact h⟩)

set_option maxRecDepth 100000 in
set_option maxHeartbeats 2000000 in
/-- Ahead of an element, in place. -/
theorem ins_shift (w : World) (base g n c i vb : Nat) (vs : List Value) (b : Value) (h : w.ownsRow base tB 1 (.slice (some ⟨g, 0, none⟩) n c) n vs) (hn : n ≤ 100000) (hi : i < n) (hroom : n + 1 ≤ c) (h1 : b.oneCell' = true) (h2 : ∀ v ∈ vs, v.oneCell' = true)
    (hvb : w.heap[vb]? = some (.cells #[b] tB (0, 0))) (hne : vb ≠ g) : Calls Tryz.prog 47 #[.slice (some ⟨g, 0, none⟩) n c, .int .i64 i, .slice (some ⟨vb, 0, none⟩) 1 1] w (Ins w base (.slice (some ⟨g, 0, none⟩) n c) n vs i b) := by
  obtain ⟨cur, hg, hcs, hnc, hcm, hbg, hvl, hcell⟩ := own_get h
  have hc63 : c ≤ 9223372036854775807 := by unfold maxLen at hcm; exact hcm
  have hsz : (Tryz.prog.info? tB).map (·.size) = some 1 := by
    obtain ⟨i0, hi0, _, h1, _⟩ := infoBs
    rw [hi0]; simp [h1]
  have hov : ∀ lb cb, (callFunc 108 #[.slice (some ⟨vb, 0, none⟩) 1 1, .slice (some ⟨g, i + 1, none⟩) lb cb]).run Tryz.prog w = .ok (.value (.bool false)) w := fun lb cb => by
    rw [run_callFunc_extern Tryz.func108 (by kernel_rfl) (by kernel_rfl) (by kernel_rfl) (e := Extern.SlicesOverlaps.overlaps #[tBs, tBs] #[4]) (by kernel_rfl),
      Lib.run_overlaps_apart w tBs 4 tB Tryz.underlying57 1 sizeB ⟨vb, 0, none⟩ ⟨g, i + 1, none⟩ 1 1 lb cb hne tB tB 1 c (by simp [World.shape?, hvb]) (by simp [World.shape?, hg, hcs]) (by omega) (blk_frozen hvb 0) (blk_frozen hvb 1)]
    rfl
  have hdl : (vs.drop i).length = n - i := by rw [List.length_drop, hvl]
  have hcp1 : ∀ ty dc sc, (Builtin.copy_ #[tBs, tBs] ty #[.slice (some ⟨g, i + 1, none⟩) (n - i) dc, .slice (some ⟨g, i, none⟩) (n + 1 - i) sc]).run Tryz.prog w.drew = .ok (goInt (vs.drop i).length) (w.drew.setCells g ((i + 1)) (vs.drop i)) := fun ty dc sc =>
    run_copy_cells w.drew _ _ ty tB g ((i + 1)) (n - i) dc ⟨g, i, none⟩ (n + 1 - i) sc (vs.drop i) Tryz.underlying57 hsz (by rw [hdl]; simp only [Nat.min_def]; split <;> omega)
      (fun j v hj => by rw [Addr.add_lit]; exact hcell (i + j) v (by rwa [List.getElem?_drop] at hj))
      (fun j hj => by show (w.cell? _).isSome = true; rw [blk_cell hg, Array.getElem?_eq_getElem (by omega)]; rfl) (fun j hj => by show w.frozen? _ = false; exact blk_frozen hg _) (fun v hv => h2 v (List.mem_of_mem_drop hv))
  obtain ⟨W1, hW1⟩ : ∃ W1, W1 = w.drew.setCells g ((i + 1)) (vs.drop i) := ⟨_, rfl⟩
  obtain ⟨cur1, hg1, hcs1⟩ := setCells_blk g (vs.drop i) ((i + 1)) w.drew cur hg
  rw [← hW1] at hcp1 hg1
  have hk1 : KeptE w W1 (fun k => some k = (Value.slice (some ⟨g, 0, none⟩) n c).ownBlock) := by rw [hW1]; exact setCells_kept g _ _ w w.drew ((KeptE.refl w _).drew) (.inl rfl)
  have hvb1 : W1.heap[vb]? = some (.cells #[b] tB (0, 0)) := (hk1.1.2 vb (blk_lt hvb) (by simp [Value.ownBlock, hne])).trans hvb
  have hcp2 : ∀ ty dc, (Builtin.copy_ #[tBs, tBs] ty #[.slice (some ⟨g, i, none⟩) (n + 1 - i) dc, .slice (some ⟨vb, 0, none⟩) 1 1]).run Tryz.prog W1 = .ok (goInt 1) (W1.setCells g (i) [b]) := fun ty dc =>
    run_copy_cells W1 _ _ ty tB g (i) (n + 1 - i) dc ⟨vb, 0, none⟩ 1 1 [b] Tryz.underlying57 hsz (by simp only [Nat.min_def, List.length_singleton]; split <;> omega)
      (fun j v hj => by rw [Addr.add_lit, Nat.zero_add, blk_cell hvb1]; simpa using hj)
      (fun j hj => by rw [blk_cell hg1, Array.getElem?_eq_getElem (by simp at hj; omega)]; rfl) (fun j hj => blk_frozen hg1 _) (by simpa using h1)
  obtain ⟨cur2, hg2, hcs2⟩ := setCells_blk g [b] (i) W1 cur1 hg1
  have hfin : Ins w base (.slice (some ⟨g, 0, none⟩) n c) n vs i b (.returned (.slice (some ⟨g, 0, none⟩) (n + 1) c)) (W1.setCells g (i) [b]) := by
    refine ⟨_, rfl, own_cells hg2 (by omega) hroom hcm hbg (by simp; omega) ?_, setCells_kept g _ _ w W1 hk1 (.inl rfl), fun k hk => .inl hk.symm⟩
    intro j v hj
    rcases ins_list hvl hi hj with ⟨q1, q2⟩ | ⟨q1, q2⟩ | ⟨q1, q2, q3⟩
    · rw [World.cell?_setCells_out g _ _ _ _ (fun _ _ => .inl (by show j < i; omega)), hW1, World.cell?_setCells_out g _ _ _ _ (fun _ _ => .inl (by show j < (i + 1); omega))]
      exact hcell j v q2
    · subst q1 q2
      have := World.cell?_setCells_in g [v] j W1 (fun k hk => by rw [blk_cell hg1, Array.getElem?_eq_getElem (by simp at hk; omega)]; rfl) 0 (by simp)
      simpa using this
    · rw [World.cell?_setCells_out g _ _ _ _ (fun _ _ => .inr (by show i + 1 ≤ j; omega)), hW1]
      have := World.cell?_setCells_in g (vs.drop i) ((i + 1)) w.drew (fun k hk => by show (w.cell? _).isSome = true; rw [blk_cell hg, Array.getElem?_eq_getElem (by omega)]; rfl) (j - (i + 1)) (List.getElem?_eq_some_iff.1 q3).1
      rw [show (i + 1) + (j - (i + 1)) = j by omega] at this
      rw [this, ← List.getElem?_eq_getElem, q3]
  have hz2 : ¬ ((i : Int) = (n : Int)) := by omega
  have hw1 : IntKind.i64.wrap ((i : Int) + 1) = (i : Int) + 1 := by rw [IntKind.wrap_i64]; omega
  have hb1 : (0 : Int) ≤ (i : Int) + 1 := by omega
  have hin : i ≤ n := by omega
  have htn : ((i : Int) + 1).toNat = i + 1 := by omega
  have hb2 : ¬ (c = i + 1) := by omega
  have hb3 : (i : Int) ≤ (n : Int) + 1 := by omega
  have hb4 : ¬ (c = i) := by omega
  clear hk1 hvb1 hW1 hg1 hcs1 hg2 hcs2 hdl hsz hcell hg hcs h hvb h2 h1 hne
  have hi' := hi
  have mixed : Tryz.prog.follows Departure.mixedOrders = true := by kernel_rfl
  go_enter Tryz.func47, Tryz.ntmps47
  go_wp2_with (simp only [hov])
  go_region_law_o (refine step_copy_runI rfl _ _ tBs tBs rfl _ _ (by simp [Act.eval, Act.put]) (by simp [Act.eval, Act.put]) (hcp1 _ _ _) ?_)
  go_wp2_with (at_builtin; refine wpList_copy_runI _ rfl _ _ tBs tBs rfl _ _ rfl rfl (hcp2 _ _) ?_)
  go_ret
  exact hfin

set_option maxRecDepth 100000 in
set_option maxHeartbeats 2000000 in
/-- Ahead of an element, where there is no room. -/
theorem ins_grow (w : World) (base g n c i vb : Nat) (vs : List Value) (b : Value) (h : w.ownsRow base tB 1 (.slice (some ⟨g, 0, none⟩) n c) n vs) (hn : n ≤ 100000) (hi : i < n) (hroom : c < n + 1) (hbase : base ≤ w.heap.size) (h1 : b.oneCell' = true) (h2 : ∀ v ∈ vs, v.oneCell' = true)
    (hvb : w.heap[vb]? = some (.cells #[b] tB (0, 0))) : Calls Tryz.prog 47 #[.slice (some ⟨g, 0, none⟩) n c, .int .i64 i, .slice (some ⟨vb, 0, none⟩) 1 1] w (Ins w base (.slice (some ⟨g, 0, none⟩) n c) n vs i b) := by
  obtain ⟨cur, hg, hcs, hnc, hcm, hbg, hvl, hcell⟩ := own_get h
  obtain ⟨i0, hi0, hz0, hzs, hzb⟩ := infoBs
  have hsz : (Tryz.prog.info? tB).map (·.size) = some 1 := by rw [hi0]; simp [hzs]
  have hgw := blk_lt hg
  have hvw := blk_lt hvb
  have hold : (Builtin.firstCells i0.size i (.slice (some ⟨g, 0, none⟩) i c)).run Tryz.prog w.drew = .ok (vs.take i).toArray w.drew := by
    rw [hzs]
    exact run_firstCells_some w.drew 1 i ⟨g, 0, none⟩ i c (vs.take i) (by rw [List.length_take]; omega) (fun j v hj => by
      rw [Addr.add_lit, Nat.zero_add]
      rw [List.getElem?_take] at hj
      split at hj
      · exact hcell j v hj
      · cases hj)
  have hrz : ∀ ty, (Builtin.append_ #[tBs, 3] ty #[.slice (some ⟨g, 0, none⟩) i c, .int .i64 ((n : Int) + 1 - (i : Int))]).run Tryz.prog w =
      .ok (.slice (some ⟨w.heap.size, 0, none⟩) (n + 1) (grownCap w (n + 1) c tB)) (w.drew.alloc (.cells ((vs.take i).toArray ++ Builtin.zeroCells (Value.slice none 0 0).cells (n + 1 - i) ++ Builtin.zeroCells (Value.slice none 0 0).cells (grownCap w (n + 1) c tB - (n + 1))) tB)) := fun ty => by
    have h := Lib.run_append_grow_zeros w tBs 3 ty tB i0 _ .i64 .i64 Tryz.underlying57 Tryz.underlying3 hi0 hz0 (some ⟨g, 0, none⟩) i c (vs.take i) hold (n + 1 - i) (by omega) (by omega) (by omega) (by omega) (by rw [hzb]; omega) (by rw [hzb, show i + (n + 1 - i) = n + 1 by omega]; exact growslice_fits hroom (by omega))
    rw [show i + (n + 1 - i) = n + 1 by omega] at h
    rw [show (n : Int) + 1 - (i : Int) = ((n + 1 - i : Nat) : Int) by omega]
    exact h
  obtain ⟨G, hG⟩ : ∃ G, G = grownCap w (n + 1) c tB := ⟨_, rfl⟩
  have hGn : n + 1 ≤ G := by rw [hG]; exact grownCap_ge w _ _ _
  have hGm : G ≤ maxLen := by rw [hG]; exact grownCap_le_maxLen w (n + 1) c tB (by unfold maxLen; omega)
  obtain ⟨ROW, hROW⟩ : ∃ ROW : Array Value, ROW = (vs.take i).toArray ++ Builtin.zeroCells (Value.slice none 0 0).cells (n + 1 - i) ++ Builtin.zeroCells (Value.slice none 0 0).cells (G - (n + 1)) := ⟨_, rfl⟩
  rw [← hG] at hrz
  rw [← hROW] at hrz
  have hRl : ROW.size = G := by
    rw [hROW]
    simp [Builtin.zeroCells, Value.cells]
    omega
  have hRi : ∀ j v, j < i → vs[j]? = some v → ROW[j]? = some v := fun j v hj hv => by
    have hti : j < (vs.take i).toArray.size := by simp; omega
    rw [hROW, Array.getElem?_append_left (by simp; omega), Array.getElem?_append_left hti]
    simpa [List.getElem?_take, hj] using hv
  obtain ⟨W1, hW1⟩ : ∃ W1, W1 = w.drew.alloc (.cells ROW tB) := ⟨_, rfl⟩
  have hW1' : ∀ x : World, x = W1 → x.heap[w.heap.size]? = some (.cells ROW tB (0, 0)) := fun x hx => by rw [hx, hW1]; exact heap_alloc_new w.drew _
  have hb1 : W1.heap[w.heap.size]? = some (.cells ROW tB (0, 0)) := hW1' _ rfl
  have hk1 : KeptE w W1 (fun _ => False) := by rw [hW1]; exact ((KeptE.refl w _).drew).alloc _
  rw [← hW1] at hrz
  have hvb1 : W1.heap[vb]? = some (.cells #[b] tB (0, 0)) := (hk1.1.2 vb hvw (fun h => h)).trans hvb
  have hg1 : W1.heap[g]? = some (.cells cur tB (0, 0)) := (hk1.1.2 g hgw (fun h => h)).trans hg
  have hcpA : ∀ (W : World), W.heap = W1.heap → ∀ ty dc, (Builtin.copy_ #[tBs, tBs] ty #[.slice (some ⟨w.heap.size, i, none⟩) (n + 1 - i) dc, .slice (some ⟨vb, 0, none⟩) 1 1]).run Tryz.prog W = .ok (goInt 1) (W.setCells w.heap.size i [b]) := fun W hW ty dc =>
    run_copy_cells W _ _ ty tB w.heap.size i (n + 1 - i) dc ⟨vb, 0, none⟩ 1 1 [b] Tryz.underlying57 hsz (by simp only [Nat.min_def, List.length_singleton]; split <;> omega)
      (fun j v hj => by rw [Addr.add_lit, Nat.zero_add, blk_cell (by rw [hW]; exact hvb1)]; simpa using hj)
      (fun j hj => by rw [blk_cell (by rw [hW]; exact hb1), Array.getElem?_eq_getElem (by simp at hj; omega)]; rfl) (fun j hj => blk_frozen (by rw [hW]; exact hb1) _) (by simpa using h1)
  obtain ⟨cur2, hb2, hcs2⟩ := setCells_blk w.heap.size [b] i W1 ROW hb1
  have hk2 : KeptE w (W1.setCells w.heap.size i [b]) (fun _ => False) := setCells_kept _ _ _ w W1 hk1 (.inr (Nat.le_refl _))
  have hg2 : (W1.setCells w.heap.size i [b]).heap[g]? = some (.cells cur tB (0, 0)) := (hk2.1.2 g hgw (fun h => h)).trans hg
  have hdl : (vs.drop i).length = n - i := by rw [List.length_drop, hvl]
  obtain ⟨W2, hW2⟩ : ∃ W2, W2 = W1.setCells w.heap.size i [b] := ⟨_, rfl⟩
  rw [← hW2] at hb2 hg2 hk2
  have hcpB : ∀ (W : World), W.heap = W2.heap → ∀ ty dc sc, (Builtin.copy_ #[tBs, tBs] ty #[.slice (some ⟨w.heap.size, i + 1, none⟩) (n - i) dc, .slice (some ⟨g, i, none⟩) (n - i) sc]).run Tryz.prog W = .ok (goInt (vs.drop i).length) (W.setCells w.heap.size (i + 1) (vs.drop i)) := fun W hW ty dc sc =>
    run_copy_cells W _ _ ty tB w.heap.size (i + 1) (n - i) dc ⟨g, i, none⟩ (n - i) sc (vs.drop i) Tryz.underlying57 hsz (by rw [hdl]; simp only [Nat.min_def]; split <;> omega)
      (fun j v hj => by
        rw [Addr.add_lit, blk_cell (by rw [hW]; exact hg2), ← blk_cell hg]
        exact hcell (i + j) v (by rwa [List.getElem?_drop] at hj))
      (fun j hj => by rw [blk_cell (by rw [hW]; exact hb2), Array.getElem?_eq_getElem (by omega)]; rfl) (fun j hj => blk_frozen (by rw [hW]; exact hb2) _) (fun v hv => h2 v (List.mem_of_mem_drop hv))
  have hfin : ∀ W : World, W.heap = W2.heap → (W.os = W2.os ∧ W.tape = W2.tape ∧ W.output = W2.output) → Ins w base (.slice (some ⟨g, 0, none⟩) n c) n vs i b (.returned (.slice (some ⟨w.heap.size, 0, none⟩) (n + 1) G)) (W.setCells w.heap.size (i + 1) (vs.drop i)) := fun W hW hE => by
    have hbW : W.heap[w.heap.size]? = some (.cells cur2 tB (0, 0)) := by rw [hW]; exact hb2
    have hkW : KeptE w W (fun _ => False) := ⟨⟨by rw [hW]; exact hk2.1.1, fun k hk hn => by rw [hW]; exact hk2.1.2 k hk hn⟩, hE.1.trans hk2.2.1, hE.2.1.trans hk2.2.2.1, hE.2.2.trans hk2.2.2.2⟩
    obtain ⟨cur3, hb3, hcs3⟩ := setCells_blk w.heap.size (vs.drop i) (i + 1) W cur2 hbW
    refine ⟨_, rfl, own_cells hb3 (by omega) hGn hGm hbase (by simp; omega) ?_, (setCells_kept _ _ _ w W hkW (.inr (Nat.le_refl _))).mono (fun _ h => h.elim), fun k hk => .inr ?_⟩
    · intro j v hj
      have hW2c : ∀ j, W.cell? ⟨w.heap.size, j, none⟩ = W2.cell? ⟨w.heap.size, j, none⟩ := fun j => by rw [blk_cell hbW, blk_cell hb2]
      rcases ins_list hvl hi hj with ⟨q1, q2⟩ | ⟨q1, q2⟩ | ⟨q1, q2, q3⟩
      · rw [World.cell?_setCells_out _ _ _ _ _ (fun _ _ => .inl (by show j < i + 1; omega)), hW2c, hW2, World.cell?_setCells_out _ _ _ _ _ (fun _ _ => .inl (by show j < i; omega)), blk_cell hb1]
        exact hRi j v q1 q2
      · subst q1 q2
        rw [World.cell?_setCells_out _ _ _ _ _ (fun _ _ => .inl (by show j < j + 1; omega)), hW2c, hW2]
        have := World.cell?_setCells_in w.heap.size [v] j W1 (fun k hk => by rw [blk_cell hb1, Array.getElem?_eq_getElem (by simp at hk; omega)]; rfl) 0 (by simp)
        simpa using this
      · have := World.cell?_setCells_in w.heap.size (vs.drop i) (i + 1) W (fun k hk => by rw [blk_cell hbW, Array.getElem?_eq_getElem (by omega)]; rfl) (j - (i + 1)) (List.getElem?_eq_some_iff.1 q3).1
        rw [show (i + 1) + (j - (i + 1)) = j by omega] at this
        rw [this, ← List.getElem?_eq_getElem, q3]
    · have : w.heap.size = k := by simpa [Value.ownBlock] using hk
      omega
  have hh1 : W1.heap = W1.heap := rfl
  have hz2 : ¬ ((i : Int) = (n : Int)) := by omega
  have hz3 : (c : Int) < (n : Int) + 1 := by omega
  have hw1 : IntKind.i64.wrap ((i : Int) + 1) = (i : Int) + 1 := by rw [IntKind.wrap_i64]; omega
  have hx1 : (0 : Int) ≤ (i : Int) + 1 := by omega
  have hin : i ≤ n := by omega
  have htn : ((i : Int) + 1).toNat = i + 1 := by omega
  have hx3 : (i : Int) ≤ (n : Int) := by omega
  have hGi : ¬ (G = i) := by omega
  have hGim : ¬ (G = i + 1) := by omega
  have hci : ¬ (c = i) := by omega
  have hG63 : G ≤ 9223372036854775807 := by unfold maxLen at hGm; exact hGm
  have hc63 : c ≤ 9223372036854775807 := by unfold maxLen at hcm; exact hcm
  have hE2 : (W1.setCells w.heap.size i [b]).drew.heap = W2.heap := by rw [hW2]; rfl
  have hENV := Aside0.mk (show (W1.setCells w.heap.size i [b]).drew.os = W2.os ∧ (W1.setCells w.heap.size i [b]).drew.tape = W2.tape ∧ (W1.setCells w.heap.size i [b]).drew.output = W2.output from ⟨by rw [hW2]; rfl, by rw [hW2]; rfl, by rw [hW2]; rfl⟩)
  have hE3 : (W1.setCells w.heap.size i [b]).heap = W2.heap := by rw [hW2]
  have mixed : Tryz.prog.follows Departure.mixedOrders = true := by kernel_rfl
  clear hk1 hvb1 hg1 hb2 hg2 hcs2 hdl hsz hcell hg hcs h hvb h2 h1 hold hi0 hz0 hzs hzb hG hROW hRl hRi hW1' hb1 hW1 hk2 hgw hvw hW2
  go_enter Tryz.func47, Tryz.ntmps47
  go_wp2_with (first
    | (at_builtin; refine Lib.wpList_append_run _ rfl _ _ _ _ rfl _ _ rfl rfl _ _ (hrz _) ?_)
    | (at_builtin; refine wpList_copy_runI _ rfl _ _ tBs tBs rfl _ _ rfl rfl (hcpA _ hh1 _ _) ?_))
  go_region_law_o (refine step_copy_runI rfl _ _ tBs tBs rfl (.slice (some ⟨w.heap.size, i + 1, none⟩) (n - i) (G - (i + 1))) (.slice (some ⟨g, i, none⟩) (n - i) (c - i)) (by simp [Act.eval, Act.put]) (by simp [Act.eval, Act.put]) (hcpB _ hE2 3 (G - (i + 1)) (c - i)) ?_)
  go_wp2
  go_ret
  exact hfin _ hE2 hENV.out

/-- slices.Insert of one element. -/
theorem ins_any (w : World) (base : Nat) (iv : Value) (n i vb : Nat) (vs : List Value) (b : Value) (h : w.ownsRow base tB 1 iv n vs) (hn : n ≤ 100000) (hi : i ≤ n) (hb : base ≤ w.heap.size) (h1 : b.oneCell' = true) (h2 : ∀ v ∈ vs, v.oneCell' = true)
    (hvb : w.heap[vb]? = some (.cells #[b] tB (0, 0))) (hne : some vb ≠ iv.ownBlock) : Calls Tryz.prog 47 #[iv, .int .i64 i, .slice (some ⟨vb, 0, none⟩) 1 1] w (Ins w base iv n vs i b) := by
  by_cases he : i = n
  · subst he
    exact ins_end w base iv i vb vs b h hn hb h1 hvb
  · rcases h.2 with ⟨rfl, rfl⟩ | ⟨g, cap, cur, rfl, hg, hh, h3, h4, h5, h6⟩
    · omega
    · by_cases hc : n + 1 ≤ cap
      · exact ins_shift w base g n cap i vb vs b h hn (by omega) hc h1 h2 hvb (fun e => hne (by rw [e]; rfl))
      · exact ins_grow w base g n cap i vb vs b h hn (by omega) (by omega) hb h1 h2 hvb
end Go.Proofs.YtkjplffpihfliaaGreatDoor
