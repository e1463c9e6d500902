/- Bytes of an arena of one object of one unit: their number. -/
import Derived.Test.YtkjplffpihfliaaGreatDoorPlaces
import Derived.Laws.CopyOwn
namespace Go.Proofs.YtkjplffpihfliaaGreatDoor
open Go.RowKit Go.Proofs.YtkjplffpihfliaaGreatDoorW.PrintWords PAll

theorem own_lit {W : World} (base : Nat) (cs : Array Value) (xs : List Int) (h : cs.toList = xs.map (Value.int .u8)) (hl : xs.length ≤ 100) (hb : base ≤ W.heap.size) :
    (W.alloc (.cells cs 5)).ownsRow base 5 1 (.slice (some ⟨W.heap.size, 0, none⟩) xs.length xs.length) xs.length (nums .u8 xs) := by
  refine ⟨by simp [nums], .inr ⟨W.heap.size, xs.length, cs, rfl, hb, heap_alloc_new W _, Nat.le_refl _, by unfold maxLen; omega, ?_, ?_⟩⟩
  · rw [← Array.length_toList, h]; simp
  · rw [h, List.take_of_length_le (by simp)]; rfl
theorem copy_fact {w : World} {base : Nat} {ok : Nat → Prop} {v : Value} {xs : List Int} (h : Kd.R kU 5 w base ok v xs) (hl : 0 < xs.length) :
    ∃ ad c, v = .slice (some ad) xs.length c ∧ ∀ (j : Nat) (u : Value), (xs.map (Value.int .u8))[j]? = some u → w.cell? (ad.add j) = some u := by
  obtain ⟨A, c, rfl, _, hC⟩ := Kd.R_reads h
  have hr : ReadsOf (Value.int .u8) 0 w A xs.length xs := Kd.reads_of_C hC
  obtain ⟨ad, rfl, hc⟩ := hr.2.2 hl
  refine ⟨ad, c, rfl, fun j u hu => ?_⟩
  have hj : j < xs.length := by have := (List.getElem?_eq_some_iff.1 hu).1; simpa using this
  rw [hc j hj]
  rw [List.getElem?_map, List.getElem?_eq_getElem hj] at hu
  rw [getD_lt hj]
  exact hu
theorem sizeU : (Tryz.prog.info? 5).map (·.size) = some 1 := by kernel_rfl
theorem copy_keep {w w9 w10 : World} {ob B7 : Nat} {cur : List Value} {v9 : Value} (h1 : w9.heap[ob]? = some (.cells cur.toArray 5 (0, 0))) (h2 : Below w.heap.size w w9) (h3 : ∀ k, v9.ownBlock = some k → B7 ≤ k) (hg : w9.grownBy w10 v9.ownBlock) (h4 : w.heap.size ≤ B7) (h5 : ob < B7) :
    w10.heap[ob]? = some (.cells cur.toArray 5 (0, 0)) ∧ Below w.heap.size w w10 :=
  ⟨(hg.block ob (blk_lt h1) (fun e => by have := h3 ob e.symm; omega)).trans h1, pw_below_grown h2 _ h2.size hg (fun k hk => Nat.le_trans h4 (h3 k hk))⟩
set_option maxRecDepth 100000 in
set_option maxHeartbeats 2000000 in
theorem bytes1 (w : World) (base : Nat) (ok : Nat → Prop) (g bm : Nat) (seed : Int) (s : ByteArray) (data : List Int) (hs : s.size ≤ 100000) (hd : data.length ≤ 100000) (hneed : needI s data.length = 1) (h : ArenaIs w base ok g bm seed 64 [(s, data)]) :
    Calls Tryz.prog 35 #[.pointer (some ⟨g, 0, none⟩)] w fun e w' => ∃ A c, e = .returned (.slice A 1024 c) ∧ Below w.heap.size w w' := by
  have HT := Aside0.mk (fun (W : World) (hB : Below w.heap.size w W) => (h.kept (KeptE.of_below hB (fun _ => False)) (fun _ _ h => h) : ArenaIs W base ok g bm seed 64 [(s, data)]))
  have hreal := arena_real (by decide) h.2.2.2.1
  have HC := Aside0.mk (fun (W : World) (hB : Below w.heap.size w W) => (⟨by rw [blk_cell (HT.out W hB).2.2.2.1]; rfl, by rw [blk_cell (HT.out W hB).2.2.2.1]; rfl⟩ : W.cell? ⟨g, 1, none⟩ = some (.int .i64 64) ∧ W.cell? ⟨g, 2, none⟩ = some (.map (some bm))))
  have HP := Aside0.mk (fun (W : World) (hB : Below w.heap.size w W) => places1 W base ok g bm seed s data hs hd hneed (HT.out W hB))
  have hsd : 3 + s.size + data.length ≤ 16 := by unfold needI at hneed; omega
  obtain ⟨k1, k2⟩ := HC.out w (Below.refl _ _)
  clear h
  go_enter Tryz.func35, Tryz.ntmps35
  go_upto_region 4 with (first | (go_at_call 66; refine hreal.mono ?_; rintro e w2 ⟨rfl, hw⟩; cases hw) | (at_make; refine Kd.R_make kU (w0 := w) w.heap.size 5 rfl rfl _ _ _ rfl (1024 : Int) rfl rfl Tryz.underlying31 _ 1 info5 rfl (by decide) (by decide) 0 (ok := fun k => w.heap.size ≤ k) (okp := fun _ => False) rfl (fun _ h => h.elim) (Nat.le_refl _) (by omega) (by decide) (Below.refl _ _) (Nat.le_refl _) ?_; intro ov w4 h1 hB hgr hb))
  obtain ⟨ob, hb1, hb2⟩ := hb
  obtain ⟨oc, rfl⟩ := R_shape h1 hb1
  obtain ⟨cur, hcur, hcs⟩ := R_cells h1
  rw [List.length_replicate] at h1 hcs ⊢
  have e64 : Int.toNat 1024 = 1024 := rfl
  rw [e64] at h1 hcs ⊢
  have hoc : 1024 ≤ oc := by obtain ⟨A, c, e, q, _⟩ := Kd.R_reads h1; injection e with _ _ e; rw [e]; simpa using q
  have hpl := HP.out w4 hB
  have H4 := Aside0.mk (And.intro hcur (And.intro hcs (And.intro hb2 hB)))
  clear e64 hcur hcs hb1 hb2 hB hgr h1 k1 k2
  go_upto_region 5 with (go_at_call 34; refine hpl.mono ?_; rintro e w5 ⟨x, xc, hm, rfl, hh, d0, d1, d2, hB5⟩)
  have hb5 : Below w.heap.size w w5 := below_then H4.out.2.2.2 H4.out.2.2.2.size hB5
  have hB5s := hB5.size
  have hob : w5.heap[ob]? = some (.cells cur 5 (0, 0)) := (hB5.block _ (blk_lt H4.out.1)).trans H4.out.1
  have H5 := Aside0.mk (And.intro hob (And.intro hb5 hB5s))
  have e1 : IntKind.u8.wrap (s.size : Int) = s.size := by show (s.size : Int) % 256 = _; omega
  obtain ⟨n, hn⟩ : ∃ n, n = s.size := ⟨_, rfl⟩
  rw [← hn] at e1
  have hn' : s.size = n := hn.symm
  obtain ⟨k16, hk⟩ : ∃ k16, k16 = hm * 16 := ⟨_, rfl⟩
  have e2 : IntKind.i64.wrap ((hm : Int) * 16) = (k16 : Int) := by rw [IntWalk.i64_in _ (by omega)]; omega
  have hkk : (k16 : Int) ≤ 1024 := by omega
  have hk16 : k16 + 16 ≤ 1024 := by omega
  have t1 : ¬ oc = k16 := by omega
  have HK := Aside0.mk (And.intro hk (And.intro hn (And.intro hoc (And.intro hk16 hsd))))
  clear hob hb5 hB5 hB5s hk hn hoc hpl hreal hneed hh hk16
  refine wp_loop_rounds 2 ?_
  rw [rounds_succ]
  go_upto_region 7 with (fail)
  obtain ⟨W6, hW6⟩ : ∃ W6, W6 = w5.alloc (.cells #[.string s, .int .i64 hm, .int .i64 1] tExt) := ⟨_, rfl⟩
  rw [← hW6]
  have b56 : Below w5.heap.size w5 W6 := by rw [hW6]; exact below_alloc (Below.refl _ _) _
  have b6 : Below w.heap.size w W6 := below_then H5.out.2.1 H5.out.2.1.size b56
  have v6 : W6.heap[w5.heap.size]? = some (.cells #[.string s, .int .i64 hm, .int .i64 1] tExt (0, 0)) := by rw [hW6]; exact heap_alloc_new w5 _
  have f0 : W6.cell? ⟨w5.heap.size, 0, none⟩ = some (.string s) := by rw [blk_cell v6]; rfl
  have f1 : W6.cell? ⟨w5.heap.size, 1, none⟩ = some (.int .i64 hm) := by rw [blk_cell v6]; rfl
  have f2 := (HC.out W6 b6).2
  obtain ⟨A7, c7, hlk, hC7⟩ : ∃ A7 c7, (Instr.lookup tObjs (.map (some bm)) (.string s) false).run Tryz.prog W6.drew = .ok (.slice A7 data.length c7) W6.drew ∧ Aside0 (Kd.C kU W6.drew A7 data.length data) := by
    rcases arena_look (HT.out W6.drew b6.drew) s with ⟨q, _⟩ | ⟨d, A, c, q, _, q2, q3⟩
    · simp [sget] at q
    · simp [sget] at q
      subst q
      exact ⟨A, c, q2, ⟨q3⟩⟩
  have H6 := Aside0.mk (And.intro b56 (And.intro v6 b6))
  clear hW6 b56 b6 v6 d0 d1 d2
  go_region
  obtain ⟨W7, hW7⟩ : ∃ W7, W7 = W6.drew := ⟨_, rfl⟩
  rw [← hW7] at hC7 ⊢
  have b7 : Below w.heap.size w W7 := by rw [hW7]; exact H6.out.2.2.drew
  have g0 : W7.cell? ⟨w5.heap.size, 0, none⟩ = some (.string s) := by rw [hW7]; exact f0
  have g1 : W7.cell? ⟨w5.heap.size, 1, none⟩ = some (.int .i64 hm) := by rw [hW7]; exact f1
  have b57 : Below w5.heap.size w5 W7 := by rw [hW7]; exact H6.out.1.drew
  have s57 : w5.heap.size < W7.heap.size := by rw [hW7]; exact blk_lt H6.out.2.1
  have HV7 : Aside0 (W7.heap[w5.heap.size]? = some (.cells #[.string s, .int .i64 hm, .int .i64 1] tExt (0, 0))) := ⟨by rw [hW7]; exact H6.out.2.1⟩
  have H7 := Aside0.mk (And.intro b7 (And.intro b57 s57))
  clear hW7 b7 b57 f0 f1 f2 hlk
  go_upto_region 9 with (at_builtin; refine print_append_str (w0 := W7) W7.heap.size rfl (.tmp 35) (.tmp 37) 31 9 5 rfl Tryz.underlying31 Tryz.underlying9 info5 _ [(n : Int)] s rfl rfl (own_lit _ _ _ rfl (by simp) (Nat.le_refl _)) ((Below.refl _ _).alloc (Nat.le_refl _) _) (by simp) (by simp; have := HK.out; omega) ?_; intro v8 w8 h8 hB8 hg8)
  have hR8 : Kd.R kU 5 w8 W7.heap.size (fun k => W7.heap.size ≤ k) v8 ([(n : Int)] ++ bytesOf s) := Kd.R_of_own h8 (fun _ hk => own_base h8 _ hk)
  have H8 := Aside0.mk (And.intro hR8 hB8)
  have hlen : ([(n : Int)] ++ bytesOf s).length = n + 1 := by simp [bytesOf_length]; omega
  have HL := Aside0.mk hlen
  clear h8 hB8 hg8 hR8 hlen g0 g1
  go_upto_region 10 with (at_builtin; refine ok_appendN (base := W7.heap.size) (ok := fun k => W7.heap.size ≤ k) rfl (.tmp 39) (.tmp 47) rfl v8 ([(n : Int)] ++ bytesOf s) [_, _] _ 2 2 rfl rfl rfl (Kd.R_alloc H8.out.1 _) (C_lit _ [_, _] rfl (by simp)) (fun k hk => Nat.le_trans H8.out.2.size (by simp at hk; omega)) (by have := H8.out.2.size; simp; omega) (by have := HL.out; have := HK.out; omega) ?_; intro v9 w9 h9 hg9)
  obtain ⟨L9, hL9⟩ : ∃ L9, L9 = [(n : Int)] ++ bytesOf s ++ [(data.length : Int) / 256, (data.length : Int)] := ⟨_, rfl⟩
  rw [← hL9] at h9
  have hl9 : L9.length = n + 3 := by rw [hL9, List.length_append, HL.out]; simp
  have b79 : Below W7.heap.size W7 w9 := pw_below_grown ((H8.out.2).alloc H8.out.2.size _) _ (by have := H8.out.2.size; simp; omega) hg9 (fun k hk => H8.out.1.1 k hk)
  have b9 : Below w.heap.size w w9 := below_then H7.out.1 H7.out.1.size b79
  have hob9 : w9.heap[ob]? = some (.cells cur.toList.toArray 5 (0, 0)) := by
    have h1 := H5.out.1
    have h2 := (H7.out.2.1.block _ (blk_lt h1)).trans h1
    have h3 := (b79.block _ (blk_lt h2)).trans h2
    simpa using h3
  have HV9 := Aside0.mk ((b79.block _ s57).trans HV7.out)
  have c51 : w9.cell? ⟨w5.heap.size, 1, none⟩ = some (.int .i64 hm) := by rw [blk_cell HV9.out]; rfl
  have hC9 := Kd.C_below hC7.out b79
  have hs9 := b79.size
  have HN := Aside0.mk (And.intro h9 (And.intro b9 (And.intro hob9 (And.intro hC9 (And.intro hl9 (And.intro b79 hs9))))))
  have HX10 := Aside0.mk (And.intro H7.out.1.size (And.intro (Nat.lt_of_lt_of_le (blk_lt H5.out.1) (Nat.le_of_lt s57)) s57))
  clear h9 b9 hob9 hC9 hl9 b79 hL9 hg9 hs9 s57
  go_region_law (first | (refine ok_appendN_step (base := W7.heap.size) (ok := fun k => W7.heap.size ≤ k) rfl (.tmp 54) (.tmp 55) rfl v9 L9 data A7 data.length c7 rfl rfl rfl ?ho ?hc ?hf ?hb ?hl ?_; (case ho => first | exact HN.out.1 | exact Kd.R_drew HN.out.1); (case hc => first | exact HN.out.2.2.2.1 | exact Kd.C_drew HN.out.2.2.2.1); (case hf => intro k hk; exact Nat.le_trans HN.out.2.2.2.2.2.2 hk); (case hb => exact HN.out.2.2.2.2.2.2); (case hl => have := HN.out.2.2.2.2.1; have := HK.out; omega); intro v10 w10 h10 hg10; (obtain ⟨ad10, c10, rfl, hx10⟩ := copy_fact h10 (by rw [List.length_append, HN.out.2.2.2.2.1]; omega); obtain ⟨L10, hL10⟩ : ∃ L10, L10 = L9 ++ data := ⟨_, rfl⟩; rw [← hL10] at h10 hx10 ⊢; have H10 : Aside0 (w10.heap[ob]? = some (.cells cur.toList.toArray 5 (0, 0)) ∧ Below w.heap.size w w10) := (by first | exact ⟨copy_keep HN.out.2.2.1 HN.out.2.1 HN.out.1.1 hg10 HX10.out.1 HX10.out.2.1⟩ | exact ⟨copy_keep (w9 := w9.drew) HN.out.2.2.1 HN.out.2.1.drew HN.out.1.1 hg10 HX10.out.1 HX10.out.2.1⟩); have c52 : w10.cell? ⟨w5.heap.size, 1, none⟩ = some (.int .i64 hm) := (by have hne : some w5.heap.size ≠ v9.ownBlock := fun e => (by have := HN.out.1.1 _ e.symm; have := HX10.out.2.2; omega); first | (rw [blk_cell ((hg10.block _ (blk_lt HV9.out) hne).trans HV9.out)]; rfl)); have hl10 : L10.length = n + 3 + data.length := (by rw [hL10, List.length_append, HN.out.2.2.2.2.1]); have H11 := Aside0.mk (And.intro hx10 hl10); clear h10 hx10 hg10 hL10 hl10)) | ((have hcn : (L10.map (Value.int .u8)).length = Nat.min L10.length (1024 - k16) := (by rw [List.length_map]; exact (Nat.min_eq_left (by have := H11.out.2; have := HK.out; omega)).symm); have hcf : k16 + (L10.map (Value.int .u8)).length ≤ cur.toList.length := (by rw [List.length_map]; have := H11.out.2; have := HK.out; have h0 : 1024 * 1 ≤ cur.size := H4.out.2.1; have h1 : cur.toList.length = cur.size := Array.length_toList; omega); have hc1 : ∀ v ∈ L10.map (Value.int .u8), v.oneCell' = true := (fun v hv => (by obtain ⟨x, _, rfl⟩ := List.mem_map.1 hv; rfl))); ((refine step_copy_splice rfl (.tmp 53) (.tmp 56) 31 31 rfl 5 Tryz.underlying31 sizeU (some ⟨ob, k16, none⟩) (some ad10) (1024 - k16) (oc - k16) L10.length c10 rfl rfl ob k16 cur.toList 5 H10.out.1 (L10.map (Value.int .u8)) hcn (fun _ => ⟨rfl, _, rfl, H11.out.1⟩) hcf hc1 w.heap.size w H10.out.2 H4.out.2.2.1 ?_)); intro w11 hh11 hB11) | fail)
  all_goals
    go_wp2_with (fail)
    rw [rounds_succ]
    go_wp2_with (fail)
    go_ret
    exact ⟨_, _, rfl, hB11⟩
end Go.Proofs.YtkjplffpihfliaaGreatDoor
