/- alive: a row, an arena and a tree, made and used. -/
import Derived.Test.YtkjplffpihfliaaGreatDoorBytes
import Derived.Lib.SlBytesConst
namespace Go.Proofs.YtkjplffpihfliaaGreatDoor
open Go.RowKit Go.Proofs.YtkjplffpihfliaaGreatDoorW.PrintWords PAll

/-- The three objects that alive makes, in memory that is new since w. -/
def Three (w W : World) (lr : List (List Int)) (la : List (ByteArray × List Int)) (lt : List (ByteArray × NodeD)) : Prop :=
  ∃ okR okA okT : Nat → Prop, (∀ k, okR k → ¬ okA k ∧ ¬ okT k) ∧ (∀ k, okA k → ¬ okT k) ∧ (∀ k, okR k ∨ okA k ∨ okT k → w.heap.size ≤ k ∧ k < W.heap.size) ∧
    RowIs W w.heap.size okR w.heap.size lr ∧ ArenaIs W w.heap.size okA (w.heap.size + 2) (w.heap.size + 1) 3 64 la ∧ TreeIs W w.heap.size okT (w.heap.size + 4) (w.heap.size + 3) 3 lt ∧ Below w.heap.size w W
section
variable {w W : World} {lr : List (List Int)} {la : List (ByteArray × List Int)} {lt : List (ByteArray × NodeD)}
theorem Three.below {W' : World} (h : Three w W lr la lt) (hB : Below W.heap.size W W') : Three w W' lr la lt := by
  obtain ⟨okR, okA, okT, d1, d2, d3, hR, hA, hT, hw⟩ := h
  have hk := KeptE.of_below hB (fun _ => False)
  exact ⟨okR, okA, okT, d1, d2, fun k h => ⟨(d3 k h).1, Nat.lt_of_lt_of_le (d3 k h).2 hB.size⟩, hR.kept hk (fun _ _ h => h), hA.kept hk (fun _ _ h => h), hT.kept hk (fun _ _ h => h), below_then hw hw.size hB⟩
theorem Three.isBelow (h : Three w W lr la lt) : Below w.heap.size w W := by
  obtain ⟨okR, okA, okT, d1, d2, d3, hR, hA, hT, hw⟩ := h
  exact hw
theorem three_insert (h : Three w W lr la lt) (i : Nat) (xs : List Int) (A : Option Addr) (c : Nat) (hx : Kd.C kU W A xs.length xs) (hxl : xs.length ≤ 100) (hi : i ≤ lr.length) (hl : lr.length < 1000) :
    Calls Tryz.prog 11 #[.pointer (some ⟨w.heap.size, 0, none⟩), .int .i64 i, .slice A xs.length c] W fun e w' => e = .returned (.int .i64 0) ∧ Three w w' (lr.take i ++ xs :: lr.drop i) la lt := by
  obtain ⟨okR, okA, okT, d1, d2, d3, hR, hA, hT, hw⟩ := h
  refine (rowInsert_any W w.heap.size okR w.heap.size i lr xs A c hR hx hxl hi hl hw.size).mono ?_
  rintro e w' ⟨rfl, h1, h2⟩
  refine ⟨rfl, okNew okR W w', okA, okT, fun k hk => ?_, d2, fun k hk => ?_, h1, hA.kept h2 (fun k hk hr => (d1 k hr).1 hk), hT.kept h2 (fun k hk hr => (d1 k hr).2 hk), h2.to_below hw hw.size (fun k hk => (d3 k (.inl hk)).1)⟩
  · rcases hk.1 with h | h
    · exact d1 k h
    · exact ⟨fun q => by have := (d3 k (.inr (.inl q))).2; omega, fun q => by have := (d3 k (.inr (.inr q))).2; omega⟩
  · rcases hk with hk | hk | hk
    · refine ⟨?_, hk.2⟩
      rcases hk.1 with h | h
      · exact (d3 k (.inl h)).1
      · exact Nat.le_trans hw.size h
    · exact ⟨(d3 k (.inr (.inl hk))).1, Nat.lt_of_lt_of_le (d3 k (.inr (.inl hk))).2 h2.size⟩
    · exact ⟨(d3 k (.inr (.inr hk))).1, Nat.lt_of_lt_of_le (d3 k (.inr (.inr hk))).2 h2.size⟩
theorem three_put (h : Three w W lr [] lt) (s : ByteArray) (A : Option Addr) (c : Nat) (data : List Int) (hx : Kd.C kU W A data.length data) (hs : s.size ≤ 100000) (hname : isName s = true) (hneed : needI s data.length ≤ 16) (hdl : data.length ≤ 100000) :
    Calls Tryz.prog 32 #[.pointer (some ⟨w.heap.size + 2, 0, none⟩), .string s, .slice A data.length c] W fun e w' => e = .returned (.int .i64 0) ∧ Three w w' lr [(s, data)] lt := by
  obtain ⟨okR, okA, okT, d1, d2, d3, hR, hA, hT, hw⟩ := h
  refine (put_first W w.heap.size okA (w.heap.size + 2) (w.heap.size + 1) 3 64 s A c data (by decide) (by decide) hs hname hneed hw.size hdl hx hA).mono ?_
  rintro e w' ⟨rfl, h1, h2⟩
  have hbm : okA (w.heap.size + 1) := hA.2.1
  refine ⟨rfl, okR, fun k => (okA k ∨ W.heap.size ≤ k) ∧ k < w'.heap.size, okT, fun k hk => ⟨fun q => ?_, (d1 k hk).2⟩, fun k hk q => ?_, fun k hk => ?_, hR.kept h2 (fun k hk e => (d1 k hk).1 (e ▸ hbm)), h1.mono (fun k q1 q2 => ⟨q1, q2⟩), hT.kept h2 (fun k hk e => d2 k (e ▸ hbm) hk), h2.to_below hw hw.size (fun k hk => by omega)⟩
  · rcases q.1 with h | h
    · exact (d1 k hk).1 h
    · have := (d3 k (.inl hk)).2; omega
  · rcases hk.1 with h | h
    · exact d2 k h q
    · have := (d3 k (.inr (.inr q))).2; omega
  · rcases hk with hk | hk | hk
    · exact ⟨(d3 k (.inl hk)).1, Nat.lt_of_lt_of_le (d3 k (.inl hk)).2 h2.size⟩
    · refine ⟨?_, hk.2⟩
      rcases hk.1 with h | h
      · exact (d3 k (.inr (.inl h))).1
      · exact Nat.le_trans hw.size h
    · exact ⟨(d3 k (.inr (.inr hk))).1, Nat.lt_of_lt_of_le (d3 k (.inr (.inr hk))).2 h2.size⟩
theorem three_make (h : Three w W lr la lt) (m : Int) (hm : w.cell? ⟨0, 0, none⟩ = some (.int .i64 m)) (s : ByteArray) (hs : s.size ≤ 100000) :
    Calls Tryz.prog 14 #[.pointer (some ⟨w.heap.size + 4, 0, none⟩), .string s] W fun e w' => e = .returned (.int .i64 (makeT lt s).1) ∧ Three w w' lr la (makeT lt s).2 := by
  obtain ⟨okR, okA, okT, d1, d2, d3, hR, hA, hT, hw⟩ := h
  refine (make_any W w.heap.size okT (w.heap.size + 4) (w.heap.size + 3) 3 m lt s hs ((hw.cell (World.block_lt_of_cell? _ _ hm)).trans hm) hT).mono ?_
  rintro e w' ⟨rfl, h1, h2⟩
  have hbm : okT (w.heap.size + 3) := hT.2.1
  exact ⟨rfl, okR, okA, okT, d1, d2, fun k hk => ⟨(d3 k hk).1, Nat.lt_of_lt_of_le (d3 k hk).2 h2.size⟩, hR.kept h2 (fun k hk e => (d1 k hk).2 (e ▸ hbm)), hA.kept h2 (fun k hk e => d2 k hk (e ▸ hbm)), h1, h2.to_below hw hw.size (fun k hk => by omega)⟩
theorem three_write (h : Three w W lr la lt) (m : Int) (hm : w.cell? ⟨0, 0, none⟩ = some (.int .i64 m)) (s : ByteArray) (hs : s.size ≤ 100000) (A : Option Addr) (c : Nat) (data : List Int) (hx : Kd.C kU W A data.length data) (hdl : data.length ≤ 100000) :
    Calls Tryz.prog 12 #[.pointer (some ⟨w.heap.size + 4, 0, none⟩), .string s, .slice A data.length c] W fun e w' => e = .returned (.int .i64 (writeT lt s data).1) ∧ Three w w' lr la (writeT lt s data).2 := by
  obtain ⟨okR, okA, okT, d1, d2, d3, hR, hA, hT, hw⟩ := h
  refine (write_any W w.heap.size okT (w.heap.size + 4) (w.heap.size + 3) 3 m lt s A c data hs hdl hw.size ((hw.cell (World.block_lt_of_cell? _ _ hm)).trans hm) hx hT).mono ?_
  rintro e w' ⟨rfl, h1, h2⟩
  have hbm : okT (w.heap.size + 3) := hT.2.1
  refine ⟨rfl, okR, okA, fun k => (okT k ∨ W.heap.size ≤ k) ∧ k < w'.heap.size, fun k hk => ⟨(d1 k hk).1, fun q => ?_⟩, fun k hk q => ?_, fun k hk => ?_, hR.kept h2 (fun k hk e => (d1 k hk).2 (e ▸ hbm)), hA.kept h2 (fun k hk e => d2 k hk (e ▸ hbm)), h1.mono (fun k q1 q2 => ⟨q1, q2⟩), h2.to_below hw hw.size (fun k hk => by omega)⟩
  · rcases q.1 with h | h
    · exact (d1 k hk).2 h
    · have := (d3 k (.inl hk)).2; omega
  · rcases q.1 with h | h
    · exact d2 k hk h
    · have := (d3 k (.inr (.inl hk))).2; omega
  · rcases hk with hk | hk | hk
    · exact ⟨(d3 k (.inl hk)).1, Nat.lt_of_lt_of_le (d3 k (.inl hk)).2 h2.size⟩
    · exact ⟨(d3 k (.inr (.inl hk))).1, Nat.lt_of_lt_of_le (d3 k (.inr (.inl hk))).2 h2.size⟩
    · refine ⟨?_, hk.2⟩
      rcases hk.1 with h | h
      · exact (d3 k (.inr (.inr h))).1
      · exact Nat.le_trans hw.size h
end
section
variable {w W : World} {lr : List (List Int)} {la : List (ByteArray × List Int)} {lt : List (ByteArray × NodeD)}
theorem Three.tree (h : Three w W lr la lt) : ∃ ok, TreeIs W w.heap.size ok (w.heap.size + 4) (w.heap.size + 3) 3 lt := by
  obtain ⟨okR, okA, okT, d1, d2, d3, hR, hA, hT, hw⟩ := h
  exact ⟨_, hT⟩
theorem Three.arena (h : Three w W lr la lt) : ∃ ok, ArenaIs W w.heap.size ok (w.heap.size + 2) (w.heap.size + 1) 3 64 la := by
  obtain ⟨okR, okA, okT, d1, d2, d3, hR, hA, hT, hw⟩ := h
  exact ⟨_, hA⟩
theorem Three.row (h : Three w W lr la lt) : ∃ ok, RowIs W w.heap.size ok w.heap.size lr := by
  obtain ⟨okR, okA, okT, d1, d2, d3, hR, hA, hT, hw⟩ := h
  exact ⟨_, hR⟩
end
abbrev nD : ByteArray := ⟨#[100]⟩
abbrev nF : ByteArray := ⟨#[100, 47, 102]⟩
abbrev nX : ByteArray := ⟨#[120]⟩
abbrev tr1 : List (ByteArray × NodeD) := [(nD, (false, []))]
abbrev tr2 : List (ByteArray × NodeD) := [(nD, (false, [])), (nF, (true, [113]))]
theorem mk1 : makeT [] nD = (0, tr1) := by kernel_rfl
theorem mk2 : writeT tr1 nF [113] = (0, tr2) := by kernel_rfl
theorem mk3 : readT tr2 nF = ([113], 0) := by kernel_rfl
theorem mk4 : getT [(nX, [121, 122])] nX = ([121, 122], 0) := by kernel_rfl
theorem mk5 : needI nX [121, 122].length = 1 := by decide
theorem mk6 : rowImage [[97], [98]] = [0, 2, 1, 1, 97, 0, 0, 0, 1, 1, 98, 0, 0, 0] := by kernel_rfl
theorem mk7 : strOfNums [113] = ⟨#[113]⟩ := by kernel_rfl
theorem mk8 : strOfNums [121, 122] = ⟨#[121, 122]⟩ := by kernel_rfl
theorem mk9 : strOfNums [0, 2, 1, 1, 97, 0, 0, 0, 1, 1, 98, 0, 0, 0] = ⟨#[0, 2, 1, 1, 97, 0, 0, 0, 1, 1, 98, 0, 0, 0]⟩ := by kernel_rfl
theorem three_new (w : World) : Three w (((((w.alloc (.cells #[.bool true, .slice none 0 0] tRow)).alloc (.map #[] 0)).alloc (arenaObj 3 64 (w.heap.size + 1))).alloc (.map #[] 0)).alloc (treeObj 3 (w.heap.size + 3))) [] [] [] := by
  obtain ⟨W1, h1⟩ : ∃ W1, W1 = w.alloc (.cells #[.bool true, .slice none 0 0] tRow) := ⟨_, rfl⟩
  have s1 : W1.heap.size = w.heap.size + 1 := by rw [h1]; simp
  have hR := rowIs_new w w.heap.size (fun k => k = w.heap.size) rfl
  rw [← h1] at hR ⊢
  have hA := arenaIs_new W1 w.heap.size (fun k => k = w.heap.size + 1 ∨ k = w.heap.size + 2) 3 64 (by omega) (by omega)
  rw [s1] at hA
  obtain ⟨W2, h2⟩ : ∃ W2, W2 = (W1.alloc (.map #[] 0)).alloc (arenaObj 3 64 (w.heap.size + 1)) := ⟨_, rfl⟩
  have s2 : W2.heap.size = w.heap.size + 3 := by rw [h2]; simp; omega
  have b2 : Below W1.heap.size W1 W2 := by rw [h2]; exact below_alloc (below_alloc (Below.refl _ _) _) _
  rw [← h2] at hA ⊢
  have hT := treeIs_new W2 w.heap.size (fun k => k = w.heap.size + 3 ∨ k = w.heap.size + 4) 3 (by omega) (by omega)
  rw [s2] at hT
  obtain ⟨W3, h3⟩ : ∃ W3, W3 = (W2.alloc (.map #[] 0)).alloc (treeObj 3 (w.heap.size + 3)) := ⟨_, rfl⟩
  have s3 : W3.heap.size = w.heap.size + 5 := by rw [h3]; simp; omega
  have b3 : Below W2.heap.size W2 W3 := by rw [h3]; exact below_alloc (below_alloc (Below.refl _ _) _) _
  rw [← h3] at hT ⊢
  have b13 := below_then b2 b2.size b3
  have b01 : Below w.heap.size w W1 := by rw [h1]; exact below_alloc (Below.refl _ _) _
  exact ⟨_, _, _, fun k hk => ⟨by omega, by omega⟩, fun k hk => by omega, fun k hk => by omega, hR.kept (KeptE.of_below b13 (fun _ => False)) (fun _ _ h => h), hA.kept (KeptE.of_below b3 (fun _ => False)) (fun _ _ h => h), hT, below_then b01 b01.size b13⟩
/-- A constant of bytes, whatever is marked in its block. -/
theorem C_litF {W : World} (cs : Array Value) (fr : Nat × Nat) (xs : List Int) (h : cs.toList = xs.map (Value.int .u8)) (hl : xs.length ≤ 100) : Kd.C kU (W.alloc (.cells cs 5 fr)) (some ⟨W.heap.size, 0, none⟩) xs.length xs := by
  refine Kd.C_of_reads (d := 0) ⟨rfl, by omega, fun _ => ⟨_, rfl, fun j hj => ?_⟩⟩
  have h0 : (W.alloc (.cells cs 5 fr)).heap[W.heap.size]? = some (.cells cs 5 fr) := by
    show (W.heap.push _)[W.heap.size]? = _
    simp
  rw [add_plain, cell_of_row _ _ _ _ _ _ h0, ← Array.getElem?_toList, h, List.getElem?_map, List.getElem?_eq_getElem hj, getD_lt hj]
  rfl

set_option maxRecDepth 100000 in
set_option maxHeartbeats 4000000 in
theorem alive_any (w : World) (m : Int) (hm : w.cell? ⟨0, 0, none⟩ = some (.int .i64 m)) :
    Calls Tryz.prog 22 #[] w fun e w' => e = .returned (.bool true) ∧ Below w.heap.size w w' := by
  have HM := Aside0.mk hm
  have kc := fun (w : World) (C : Array Value) (n c : Nat) => Lib.run_convert_bytes_const (P := Tryz.prog) w 31 5 C n c Tryz.underlying31 Tryz.underlying5
  clear hm
  go_enter Tryz.func22, Tryz.ntmps22
  go_upto_region 6 with (first | (go_at_call 9; refine (row_new _).mono ?_; rintro e w2 ⟨rfl, hw⟩; subst hw) | (go_at_call 58; refine (newArena_any _ 3 64 (by decide) (by decide)).mono ?_; rintro e w2 ⟨rfl, hw⟩; subst hw) | (go_at_call 10; refine (newTree_any _ 3).mono ?_; rintro e w2 ⟨rfl, hw⟩; subst hw))
  rw [show w.heap.size + 1 + 1 + 1 + 1 = w.heap.size + 4 from rfl, show w.heap.size + 1 + 1 + 1 = w.heap.size + 3 from rfl, show w.heap.size + 1 + 1 = w.heap.size + 2 from rfl]
  have h0 := three_new w
  obtain ⟨W0, hW0⟩ : ∃ W0, W0 = ((((w.alloc (.cells #[.bool true, .slice none 0 0] tRow)).alloc (.map #[] 0)).alloc (arenaObj 3 64 (w.heap.size + 1))).alloc (.map #[] 0)).alloc (treeObj 3 (w.heap.size + 3)) := ⟨_, rfl⟩
  rw [← hW0] at h0 ⊢
  clear hW0
  have H0 := Aside0.mk h0
  clear h0
  go_upto_region 7 with (go_at_call 11; refine (three_insert (H0.out.below (below_alloc (Below.refl _ _) _)) 0 [98] _ _ (C_litF _ _ [98] rfl (by simp)) (by simp) (by simp) (by simp)).mono ?_; rintro e W1 ⟨rfl, h1⟩)
  have H1 := Aside0.mk h1
  clear h1
  go_upto_region 8 with (go_at_call 11; refine (three_insert (H1.out.below (below_alloc (Below.refl _ _) _)) 0 [97] _ _ (C_litF _ _ [97] rfl (by simp)) (by simp) (by simp) (by simp)).mono ?_; rintro e W2 ⟨rfl, h2⟩)
  have H2 := Aside0.mk h2
  clear h2
  go_upto_region 9 with (go_at_call 32; refine (three_put (H2.out.below (below_alloc (Below.refl _ _) _)) ⟨#[120]⟩ _ _ [121, 122] (C_litF _ _ [121, 122] rfl (by simp)) (by decide) (by decide) (by decide) (by decide)).mono ?_; rintro e W3 ⟨rfl, h3⟩)
  have H3 := Aside0.mk h3
  clear h3
  go_upto_region 10 with (go_at_call 14; refine (three_make H3.out m HM.out nD (by decide)).mono ?_; rintro e W4 ⟨rfl, h4⟩)
  rw [mk1] at h4 ⊢
  have H4 := Aside0.mk h4
  clear h4
  go_upto_region 11 with (go_at_call 12; refine (three_write (H4.out.below (below_alloc (Below.refl _ _) _)) m HM.out nF (by decide) _ _ [113] (C_litF _ _ [113] rfl (by simp)) (by decide)).mono ?_; rintro e W5 ⟨rfl, h5⟩)
  rw [mk2] at h5 ⊢
  have H5 := Aside0.mk h5
  obtain ⟨okT, hT5⟩ := h5.tree
  have hrd := read_any W5 _ okT _ _ 3 tr2 nF (by decide) hT5
  rw [mk3] at hrd
  clear h5 hT5
  go_upto_region 12 with (go_at_call 26; refine hrd.mono ?_; rintro e W6 ⟨v6, rfl, hv6, hB6⟩)
  obtain ⟨A6, c6, rfl, _, hc6⟩ := hv6.reads
  have h6 := H5.out.below hB6
  obtain ⟨okA, hA6⟩ := h6.arena
  have hgt := get_any W6 _ okA _ _ 3 64 [(nX, [121, 122])] nX (by decide) (by decide) hA6
  rw [mk4] at hgt
  have H6 := Aside0.mk (And.intro h6 hc6)
  clear hv6 hc6 h6 hB6 hrd hA6
  go_upto_region 13 with (go_at_call 29; refine hgt.mono ?_; rintro e W7 ⟨v7, rfl, hv7, hB7⟩)
  obtain ⟨A7, c7, rfl, _, hc7⟩ := hv7.reads
  have h7 := H6.out.1.below hB7
  have hcv6 := Kd.C_string (P := Tryz.prog) (n := [(113 : Int)].length) (c := c6) Tryz.underlying31 Tryz.underlying5 Tryz.underlying9 (Kd.C_below H6.out.2 hB7)
  have hcv7 := Kd.C_string (P := Tryz.prog) (c := c7) Tryz.underlying31 Tryz.underlying5 Tryz.underlying9 hc7
  rw [mk7] at hcv6
  rw [mk8] at hcv7
  obtain ⟨okT, hT7⟩ := h7.tree
  have hln := treeLen_any W7 _ okT _ _ 3 tr2 hT7
  obtain ⟨okA, hA7⟩ := h7.arena
  have hby := bytes1 W7 _ okA _ _ 3 nX [121, 122] (by decide) (by decide) mk5 hA7
  have HPL := Aside0.mk (fun (W8 : World) (hB8 : Below W7.heap.size W7 W8) => places1 W8 _ okA _ _ 3 nX [121, 122] (by decide) (by decide) mk5 (hA7.kept (KeptE.of_below hB8 (fun _ => False)) (fun _ _ h => h)))
  obtain ⟨okR, hR7⟩ := h7.row
  have HIM := Aside0.mk (fun (W8 : World) (hB8 : Below W7.heap.size W7 W8) => rowImage_any W8 _ okR _ [[97], [98]] (hR7.kept (KeptE.of_below hB8 (fun _ => False)) (fun _ _ h => h)) (by decide) (by decide))
  have H7 := Aside0.mk h7
  clear hv7 hc7 h7 hB7 hgt hT7 hA7 hR7
  go_upto_region 15 with (fail)
  have hcv6' : (convert 31 9 (.slice A6 1 c6)).run Tryz.prog W7 = .ok (.string ⟨#[113]⟩) W7 := hcv6
  have hcv7' : (convert 31 9 (.slice A7 2 c7)).run Tryz.prog W7 = .ok (.string ⟨#[121, 122]⟩) W7 := hcv7
  clear kc
  go_wp2_with (first | (go_at_call 18; refine hln.mono ?_; rintro e w8 ⟨rfl, hw⟩; subst hw) | (go_at_call 35; refine hby.mono ?_; rintro e w8 ⟨Ab, cb, rfl, hB8⟩; have hpl := HPL.out w8 hB8) | (go_at_call 34; refine hpl.mono ?_; rintro e w9 ⟨x, cx, hm9, rfl, _, _, _, _, hB9⟩; have hB79 := below_then hB8 hB8.size hB9; have him := HIM.out w9 hB79) | (go_at_call 15; refine him.mono ?_; rintro e w10 ⟨vi, rfl, hvi, hB10⟩; obtain ⟨Ai, ci, rfl, _, hci⟩ := hvi.reads; rw [mk6] at hci ⊢; have hcvi := Kd.C_string (P := Tryz.prog) (c := ci) Tryz.underlying31 Tryz.underlying5 Tryz.underlying9 hci; rw [mk9] at hcvi; have hcvj : (convert 31 9 (.slice Ai 14 ci)).run Tryz.prog w10 = .ok (.string ⟨#[0, 2, 1, 1, 97, 0, 0, 0, 1, 1, 98, 0, 0, 0]⟩) w10 := hcvi; have HB10 := Aside0.mk (below_then hB79 hB79.size hB10)))
  go_ret
  exact ⟨rfl, below_then H7.out.isBelow H7.out.isBelow.size HB10.out⟩
end Go.Proofs.YtkjplffpihfliaaGreatDoor
