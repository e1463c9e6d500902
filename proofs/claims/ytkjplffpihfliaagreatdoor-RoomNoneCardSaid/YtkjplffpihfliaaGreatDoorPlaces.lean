/- Places of an arena of one object of one unit. -/
import Derived.Test.YtkjplffpihfliaaGreatDoorCoinS
import Derived.Laws.EntriesVeiled
import Derived.WalkMore
import Derived.Deep.QuietTactic
import Derived.BigQuiet
namespace Go.Proofs.YtkjplffpihfliaaGreatDoor
open Go.RowKit Go.Proofs.YtkjplffpihfliaaGreatDoorW.PrintWords PAll

abbrev tExt : Nat := 125
theorem infoBool : (Tryz.prog.info? 4).map (fun i => (i.zero, i.size, i.bytes)) = some (some (.bool false), 1, 1) := by kernel_rfl
abbrev kExt : Kd (ByteArray × (Int × Int)) := Kd.pair Kd.string (Kd.pair (Kd.int .i64) (Kd.int .i64))
theorem infoExt : (Tryz.prog.info? tExt).map (fun i => (i.zero, i.size, i.bytes)) = some (some (.agg #[.string ⟨#[]⟩, .int .i64 0, .int .i64 0]), 3, 32) := by kernel_rfl
theorem ext_M (w : World) (base : Nat) (ok : Nat → Prop) (s : ByteArray) (a b : Int) : kExt.M w base ok (s, (a, b)) [.string s, .int .i64 a, .int .i64 b] :=
  ⟨[.string s], _, rfl, rfl, [.int .i64 a], _, rfl, rfl, rfl⟩
set_option maxRecDepth 100000 in
set_option maxHeartbeats 2000000 in
theorem places1 (w : World) (base : Nat) (ok : Nat → Prop) (g bm : Nat) (seed : Int) (s : ByteArray) (data : List Int) (hs : s.size ≤ 100000) (hd : data.length ≤ 100000) (hneed : needI s data.length = 1) (h : ArenaIs w base ok g bm seed 64 [(s, data)]) :
    Calls Tryz.prog 34 #[.pointer (some ⟨g, 0, none⟩)] w fun e w' => ∃ x c, ∃ home : Nat, e = .returned (.slice (some ⟨x, 0, none⟩) 1 c) ∧ home < 64 ∧ w'.cell? ⟨x, 0, none⟩ = some (.string s) ∧ w'.cell? ⟨x, 1, none⟩ = some (.int .i64 home) ∧ w'.cell? ⟨x, 2, none⟩ = some (.int .i64 1) ∧ Below w.heap.size w w' := by
  have HT := Aside0.mk (fun (W : World) (hB : Below w.heap.size w W) => (h.kept (KeptE.of_below hB (fun _ => False)) (fun _ _ h => h) : ArenaIs W base ok g bm seed 64 [(s, data)]))
  have HR := Aside0.mk (fun (W : World) (hB : Below w.heap.size w W) => arena_real (by decide) (HT.out W hB).2.2.2.1)
  have HC := Aside0.mk (fun (W : World) (hB : Below w.heap.size w W) => (⟨by rw [blk_cell (HT.out W hB).2.2.2.1]; rfl, by rw [blk_cell (HT.out W hB).2.2.2.1]; rfl, by rw [blk_cell (HT.out W hB).2.2.2.1]; rfl⟩ : W.cell? ⟨g, 0, none⟩ = some (.int .u64 seed) ∧ W.cell? ⟨g, 1, none⟩ = some (.int .i64 64) ∧ W.cell? ⟨g, 2, none⟩ = some (.map (some bm))))
  clear h
  go_enter Tryz.func34, Tryz.ntmps34
  go_upto_region 4 with (go_at_call 66; refine (HR.out _ (below_alloc (Below.refl _ _) _)).mono ?_; rintro e w2 ⟨rfl, hw⟩; cases hw)
  obtain ⟨W1, hW1⟩ : ∃ W1, W1 = (w.alloc (.cells #[.pointer (some ⟨g, 0, none⟩)] 56)).alloc (.cells #[.func (.func 70) #[] #[.pointer (some ⟨w.heap.size, 0, none⟩)]] 116) := ⟨_, rfl⟩
  rw [← hW1]
  have b1 : Below w.heap.size w W1 := by rw [hW1]; exact below_alloc (below_alloc (Below.refl _ _) _) _
  have v1 : W1.heap[w.heap.size]? = some (.cells #[.pointer (some ⟨g, 0, none⟩)] 56 (0, 0)) := by
    rw [hW1, Deep.blk_alloc_lt _ _ _ (by simp)]
    exact heap_alloc_new w _
  have v2 : W1.heap[w.heap.size + 1]? = some (.cells #[.func (.func 70) #[] #[.pointer (some ⟨w.heap.size, 0, none⟩)]] 116 (0, 0)) := by
    rw [hW1]
    have := heap_alloc_new (w.alloc (.cells #[.pointer (some ⟨g, 0, none⟩)] 56)) (.cells #[.func (.func 70) #[] #[.pointer (some ⟨w.heap.size, 0, none⟩)]] 116)
    simpa using this
  have HV := Aside0.mk (fun (W : World) (hB : Below W1.heap.size W1 W) => (⟨by rw [blk_cell ((hB.block _ (blk_lt v1)).trans v1)]; rfl, by rw [blk_cell ((hB.block _ (blk_lt v2)).trans v2)]; rfl, below_then b1 b1.size hB, (HC.out W (below_then b1 b1.size hB)).1, (HC.out W (below_then b1 b1.size hB)).2.1, (HC.out W (below_then b1 b1.size hB)).2.2⟩ :
    W.cell? ⟨w.heap.size, 0, none⟩ = some (.pointer (some ⟨g, 0, none⟩)) ∧ W.cell? ⟨w.heap.size + 1, 0, none⟩ = some (.func (.func 70) #[] #[.pointer (some ⟨w.heap.size, 0, none⟩)]) ∧ Below w.heap.size w W ∧ W.cell? ⟨g, 0, none⟩ = some (.int .u64 seed) ∧ W.cell? ⟨g, 1, none⟩ = some (.int .i64 64) ∧ W.cell? ⟨g, 2, none⟩ = some (.map (some bm))))
  obtain ⟨k1, k2, k3, k4, k5, k6⟩ := HV.out W1 (Below.refl _ _)
  have hkeys := keysB_any W1 (some bm)
  have HS := Aside0.mk (show ∃ v, SMap W1 bm [(s, v)] by
    obtain ⟨_, _, _, _, l, h5, h6⟩ := HT.out W1 b1
    cases l with
    | nil => exact h6.elim
    | cons p l =>
      obtain ⟨k, v⟩ := p
      obtain ⟨rfl, _, h8⟩ := h6
      cases l with
      | nil => exact ⟨v, h5⟩
      | cons => exact h8.elim)
  have hsort : Calls Tryz.prog 72 #[keyFn 126 W1.heap.size, .func (.func 74) #[] #[.pointer (some ⟨w.heap.size + 1, 0, none⟩)]] (W1.alloc (.cells #[.map (some bm)] 60)) fun e w' => ∃ n c, e = .returned (.slice (some ⟨n, 0, none⟩) 1 c) ∧ Aside0 (w'.cell? ⟨n, 0, none⟩ = some (.string s) ∧ Below W1.heap.size W1 w') := by
    obtain ⟨v, hv⟩ := HS.out
    have hb := below_alloc (Below.refl W1.heap.size W1) (.cells #[.map (some bm)] 60)
    refine (sortedFunc1 (W1.alloc (.cells #[.map (some bm)] 60)) W1.heap.size bm s v _ hs (by rw [blk_cell (heap_alloc_new W1 _)]; rfl) (hv.kept (KeptE.of_below hb (fun _ => False)) (fun h => h))).mono ?_
    rintro e w' ⟨n, c, rfl, q1, q2, q3⟩
    exact ⟨n, c, rfl, ⟨q1, below_then hb hb.size q3⟩⟩
  clear hW1 v1 v2
  have HB1 := Aside0.mk b1
  clear b1
  go_upto_region 7 with (first | (go_at_call 73; refine hkeys.mono ?_; rintro e w2 ⟨rfl, hw⟩; subst hw) | (go_at_call 72; refine hsort.mono ?_; rintro e w3 ⟨nb, nc, rfl, hh⟩; obtain ⟨r1, r2, r3, r4, r5, r6⟩ := HV.out w3 hh.out.2) | (at_make; refine Kd.R_make Kd.bool (w0 := w3) w3.heap.size 4 rfl rfl _ _ _ rfl (64 : Int) rfl rfl Tryz.underlying123 _ 1 infoBool rfl (by decide) (by decide) false (ok := fun k => w3.heap.size ≤ k) (okp := fun _ => False) rfl (fun _ h => h.elim) (Nat.le_refl _) (by omega) (by decide) (Below.refl _ _) (Nat.le_refl _) ?_; intro tv w4 h1 hB hgr hb))
  obtain ⟨tb, hb1, hb2⟩ := hb
  obtain ⟨tc, rfl⟩ := R_shape h1 hb1
  obtain ⟨cur, hcur, hcs⟩ := R_cells h1
  have htk : ∀ j : Nat, j < 64 → w4.cell? ⟨tb, j, none⟩ = some (.bool false) := fun j hj => by
    have hr : ReadsOf Value.bool false w4 (some ⟨tb, 0, none⟩) (List.replicate 64 false).length (List.replicate 64 false) := Kd.reads_of_C (Kd.R_reads' h1).2.2
    obtain ⟨ad, e, hc⟩ := hr.2.2 (by simp)
    cases e
    have := hc j (by simpa using hj)
    rw [add_plain] at this
    rw [this, getD_lt (by simpa using hj), List.getElem_replicate]
  rw [List.length_replicate] at h1 ⊢
  have e64 : Int.toNat 64 = 64 := rfl
  rw [e64] at h1 ⊢
  clear e64
  have HT4 := Aside0.mk (And.intro hcur (And.intro hcs (And.intro hb2 (And.intro hB htk))))
  have HB4 := Aside0.mk (below_then hh.out.2 hh.out.2.size hB)
  obtain ⟨r1, r2, r3, r4, r5, r6⟩ := HV.out w4 HB4.out
  have htc : 64 ≤ tc := by obtain ⟨A, c, e, q, _⟩ := Kd.R_reads h1; injection e with _ _ e; rw [e]; simpa using q
  clear hb1 hb2 hcur hcs hB hgr h1 htk hkeys hsort r3 k1 k2 k3 k4 k5 k6
  go_wp2_with (fail)
  have d0 : w4.cell? ⟨nb, 0, none⟩ = some (.string s) := (HT4.out.2.2.2.1.cell (World.block_lt_of_cell? _ _ hh.out.1)).trans hh.out.1
  obtain ⟨A7, c7, hlk⟩ : ∃ A7 c7, (Instr.lookup tObjs (.map (some bm)) (.string s) false).run Tryz.prog w4 = .ok (.slice A7 data.length c7) w4 := by
    rcases arena_look (HT.out w4 (below_then HB1.out HB1.out.size HB4.out)) s with ⟨q, _⟩ | ⟨d, A, c, q, _, q2, _⟩
    · simp [sget] at q
    · simp [sget] at q
      subst q
      exact ⟨A, c, q2⟩
  have hnd := fun W => need_any W s A7 data.length c7 hs hd
  rw [hneed] at hnd
  have hco := fun (W : World) (hB : Below W1.heap.size W1 W) => coinS_any W w.heap.size g seed 1 s hs (HV.out W hB).1 (HV.out W hB).2.2.2.1
  obtain ⟨cn, hcn⟩ : ∃ cn, cn = coin seed 1 (bytesI s) := ⟨_, rfl⟩
  rw [← hcn] at hco
  have hcr := coin_range seed 1 (bytesI s) (by rw [bytesI_length]; omega)
  rw [← hcn] at hcr
  obtain ⟨hm, hhm⟩ : ∃ hm : Nat, hm = (cn % 64).toNat := ⟨_, rfl⟩
  have ht1 : cn.tmod 64 = hm := by rw [Int.tmod_eq_emod_of_nonneg hcr.1]; omega
  have ht2 : cn % 64 = hm := by omega
  have hm64 : (hm : Int) < 64 := by omega
  have e1 : IntKind.u64.wrap (hm : Int) = hm := by unfold IntKind.wrap; simp [IntKind.signed, IntKind.bits]; omega
  have e2 : IntKind.i64.wrap (hm : Int) = hm := IntWalk.i64_in _ (by omega)
  have HM := Aside0.mk hm64
  have ew : IntKind.u64.wrap 64 = 64 := by decide
  clear hcn hcr hhm
  refine wp_loop_rounds 2 ?_
  rw [rounds_succ]
  go_wp2_with (fail)
  go_step3
  go_upto_region 11 with (go_at_call 69; refine (hnd _).mono ?_; rintro e w5 ⟨rfl, hw⟩; cases hw)
  obtain ⟨W5, hW5⟩ : ∃ W5, W5 = w4.alloc (.cells #[.string s, .int .i64 0, .int .i64 1] tExt) := ⟨_, rfl⟩
  rw [← hW5]
  have b45 : Below w4.heap.size w4 W5 := by rw [hW5]; exact below_alloc (Below.refl _ _) _
  have v5 : W5.heap[w4.heap.size]? = some (.cells #[.string s, .int .i64 0, .int .i64 1] tExt (0, 0)) := by rw [hW5]; exact heap_alloc_new w4 _
  have b5 : Below W1.heap.size W1 W5 := below_then HB4.out HB4.out.size b45
  have H5 := Aside0.mk (And.intro b45 (And.intro v5 b5))
  obtain ⟨p1, p2, p3, p4, p5, p6⟩ := HV.out W5 b5
  have hco5 := hco W5.drew b5.drew
  have HKV := Aside0.mk (fun (w6 : World) (hB6 : Below W5.drew.heap.size W5.drew w6) => HV.out w6 (below_then b5.drew b5.drew.size hB6))
  clear hW5 b45 v5 b5 p3 p4 p6 hco d0 r1 r2 r4 r5 r6 hlk hnd
  go_region_held3 (fun w' => w'.cell? ⟨w.heap.size, 0, none⟩ = some (.pointer (some ⟨g, 0, none⟩)) ∧ w'.cell? ⟨w.heap.size + 1, 0, none⟩ = some (.func (.func 70) #[] #[.pointer (some ⟨w.heap.size, 0, none⟩)]) ∧ w'.cell? ⟨g, 1, none⟩ = some (.int .i64 64)) (first | exact ⟨p1, p2, p5⟩ | exact ⟨x1, x2, x5⟩ | go_keep) (first | (go_at_call 70; refine hco5.mono ?_; rintro e w6 ⟨rfl, hB6⟩; obtain ⟨x1, x2, x3, x4, x5, x6⟩ := HKV.out w6 hB6; have HB6 := Aside0.mk (And.intro hB6 x3); clear hB6 x3 x4 x6))
  go_wp2_with (fail)
  have y9 : w6.heap[w4.heap.size]? = some (.cells #[.string s, .int .i64 0, .int .i64 1] tExt (0, 0)) := (HB6.out.1.block _ (blk_lt H5.out.2.1)).trans H5.out.2.1
  have ytb : w6.heap[tb]? = some (.cells cur 4 (0, 0)) := (HB6.out.1.block _ (Nat.lt_of_lt_of_le (blk_lt HT4.out.1) H5.out.1.size)).trans ((H5.out.1.block _ (blk_lt HT4.out.1)).trans HT4.out.1)
  have yb : w6.cell? ⟨tb, hm, none⟩ = some (.bool false) := by rw [blk_cell ytb, ← blk_cell HT4.out.1]; exact HT4.out.2.2.2.2 hm (by omega)
  have yf := blk_frozen ytb hm
  have y0 : w6.cell? ⟨w4.heap.size, 0, none⟩ = some (.string s) := by rw [blk_cell y9]; rfl
  have y1 : w6.cell? ⟨w4.heap.size, 1, none⟩ = some (.int .i64 0) := by rw [blk_cell y9]; rfl
  have y2 : w6.cell? ⟨w4.heap.size, 2, none⟩ = some (.int .i64 1) := by rw [blk_cell y9]; rfl
  have yf1 := blk_frozen y9 1
  have hne : ¬ w4.heap.size = tb := by have := blk_lt HT4.out.1; omega
  have hne2 : ¬ tb = w4.heap.size := fun e => hne e.symm
  have e3 : IntKind.i64.wrap ((hm : Int) + 1) = (hm : Int) + 1 := IntWalk.i64_in _ (by omega)
  have ht3 : (hm : Int).tmod 64 = hm := by rw [Int.tmod_eq_emod_of_nonneg (by omega)]; omega
  have ht4 : (hm : Int) % 64 = hm := by omega
  have t1 : ¬ (64 : Int) < (hm : Int) + 1 := by omega
  have t2 : ¬ tc = hm := by omega
  have t3 : (hm : Int) + 1 ≤ tc := by omega
  have HY := Aside0.mk (And.intro y9 ytb)
  clear y9 ytb
  go_step3
  go_wp2_with (fail)
  refine wp_loop_rounds 1 ?_
  rw [rounds_succ]
  go_upto_region 16 with (fail)
  obtain ⟨W7, hW7⟩ : ∃ W7, W7 = w6.setCell ⟨w4.heap.size, 1, none⟩ (.int .i64 hm) := ⟨_, rfl⟩
  rw [← hW7]
  have z9 : W7.heap[w4.heap.size]? = some (.cells #[.string s, .int .i64 hm, .int .i64 1] tExt (0, 0)) := by rw [hW7]; exact blk_set HY.out.1 1 _
  have b67 : Below w4.heap.size w6 W7 := by rw [hW7]; exact (Below.refl _ _).setCell (p := ⟨w4.heap.size, 1, none⟩) (Nat.le_refl _) _
  have ztb : W7.heap[tb]? = some (.cells cur 4 (0, 0)) := (b67.block _ (blk_lt HT4.out.1)).trans HY.out.2
  have z46 : Below w4.heap.size w4 W7 := (below_then H5.out.1.drew H5.out.1.size HB6.out.1).trans b67
  have q0 : W7.cell? ⟨w4.heap.size, 0, none⟩ = some (.string s) := by rw [blk_cell z9]; rfl
  have q1 : W7.cell? ⟨w4.heap.size, 1, none⟩ = some (.int .i64 hm) := by rw [blk_cell z9]; rfl
  have q2 : W7.cell? ⟨w4.heap.size, 2, none⟩ = some (.int .i64 1) := by rw [blk_cell z9]; rfl
  have qb : W7.cell? ⟨tb, hm, none⟩ = some (.bool false) := by rw [blk_cell ztb, ← blk_cell HT4.out.1]; exact HT4.out.2.2.2.2 hm (by omega)
  have qf := blk_frozen ztb hm
  obtain ⟨q3, q4, q5, q6, q7, q8⟩ := HV.out W7 (below_then HB4.out HB4.out.size z46)
  have HZ := Aside0.mk (And.intro z9 (And.intro ztb z46))
  clear hW7 z9 ztb b67 z46 q5 q6 q8 y0 y1 y2 yf1 yb yf x1 x2 x5 hne hne2
  go_quiet (fail)
  go_upto_region 18 with (fail)
  refine wp_loop_rounds 2 ?_
  rw [rounds_succ]
  go_wp2_with (fail)
  rw [rounds_succ]
  go_wp2_with (fail)
  refine wp_loop_rounds 2 ?_
  rw [rounds_succ]
  go_wp2_with (fail)
  rw [rounds_succ]
  go_upto_region 28 with (fail)
  obtain ⟨W8, hW8⟩ : ∃ W8, W8 = (W7.drewN nq).setCell ⟨tb, hm, none⟩ (.bool true) := ⟨_, rfl⟩
  rw [← hW8]
  have b78 : Below w.heap.size W7 W8 := by rw [hW8]; exact (pw_below_drewN (Below.refl _ _) nq).setCell (p := ⟨tb, hm, none⟩) (Nat.le_trans HB1.out.size (Nat.le_trans hh.out.2.size HT4.out.2.2.1)) _
  have b08 : Below w.heap.size w W8 := (HV.out W7 (below_then HB4.out HB4.out.size HZ.out.2.2)).2.2.1.trans b78
  have z8 : W8.heap[w4.heap.size]? = some (.cells #[.string s, .int .i64 hm, .int .i64 1] tExt (0, 0)) := by
    rw [hW8, Deep.blk_setCell_other _ _ _ _ (by have := blk_lt HT4.out.1; show w4.heap.size ≠ tb; omega)]
    exact HZ.out.1
  have d8 : W8.cell? ⟨w4.heap.size, 0, none⟩ = some (.string s) := by rw [blk_cell z8]; rfl
  have d9 : W8.cell? ⟨w4.heap.size, 1, none⟩ = some (.int .i64 hm) := by rw [blk_cell z8]; rfl
  have d10 : W8.cell? ⟨w4.heap.size, 2, none⟩ = some (.int .i64 1) := by rw [blk_cell z8]; rfl
  have HB8 := Aside0.mk b08
  clear hW8 b78 b08 z8 q0 q1 q2 q3 q4 q7 qb qf
  go_upto_region 29 with (at_builtin; refine Kd.R_append kExt (w0 := w) (W := W8) w.heap.size rfl _ _ 70 tExt _ 32 rfl Tryz.underlying70 infoExt rfl (by decide) (by decide) _ [] (s, ((hm : Int), (1 : Int))) [.string s, .int .i64 hm, .int .i64 1] (fun k => w.heap.size ≤ k) (fun _ => False) rfl rfl (ext_M _ _ _ _ _ _) (fun _ h => h.elim) (fun k hk => Nat.le_trans HB8.out.size hk) (Kd.R_nil _ _ _ _ _) HB8.out HB8.out.size (by simp) ?_; intro v1 w9 h1 hB9 hg9 ha9)
  have HX : ∃ x c, v1 = .slice (some ⟨x, 0, none⟩) 1 c ∧ w9.cell? ⟨x, 0, none⟩ = some (.string s) ∧ w9.cell? ⟨x, 1, none⟩ = some (.int .i64 hm) ∧ w9.cell? ⟨x, 2, none⟩ = some (.int .i64 1) := by
    obtain ⟨A, c, rfl, _, hC⟩ := Kd.R_reads h1
    obtain ⟨ad, cc, hA, hcl, hK, hc⟩ := ReadsRow.get_ hC (s, ((hm : Int), (1 : Int))) (0 : Int) (by omega) (by simp)
    obtain ⟨x, rfl⟩ : ∃ x, ad = ⟨x, 0, none⟩ := by
      subst hA
      obtain ⟨x, hx⟩ := Kd.R_head h1
      exact ⟨x, hx⟩
    subst hA
    obtain ⟨a0, a1, rfl, k0, b0, b1, rfl, k1, k2⟩ := hK
    have k0' : a0 = [.string s] := k0
    have k1' : b0 = [.int .i64 hm] := k1
    have k2' : b1 = [.int .i64 1] := k2
    subst k0' k1' k2'
    refine ⟨x, c, rfl, ?_, ?_, ?_⟩
    · have := hc 0 _ rfl; rw [add_plain] at this; simpa using this
    · have := hc 1 _ rfl; rw [add_plain] at this; simpa using this
    · have := hc 2 _ rfl; rw [add_plain] at this; simpa using this
  obtain ⟨x, c, rfl, f0, f1, f2⟩ := HX
  have HE := Aside0.mk (And.intro f0 (And.intro f1 (And.intro f2 hB9)))
  have hst := fun W f => sort1_E W (some ⟨x, 0, none⟩) c f
  clear h1 hg9 ha9 f0 f1 f2 hB9 d8 d9 d10
  go_wp2_with (fail)
  rw [Exit.noGoto_normal]
  go_wp2_with (fail)
  rw [rounds_succ]
  go_wp2_with (go_at_call 78; refine (hst _ _).mono ?_; rintro e w10 ⟨rfl, hw⟩; cases hw)
  go_ret
  exact ⟨x, c, hm, rfl, by have := HM.out; omega, HE.out⟩
end Go.Proofs.YtkjplffpihfliaaGreatDoor
