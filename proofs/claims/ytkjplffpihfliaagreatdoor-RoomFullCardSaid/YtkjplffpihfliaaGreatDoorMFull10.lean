/- Texts of this claim, merged by wip/merge.py: Alive Duo Full. -/
import Derived.Test.YtkjplffpihfliaaGreatDoorMFull9
import Derived.Lib.SlBytesConst
import Derived.Test.YtkjplffpihfliaaGreatDoorMFull8
section
/- alive: a row, an arena and a tree, made and used. -/
namespace Go.Proofs.YtkjplffpihfliaaGreatDoor
open Go.RowKit Go.Proofs.YtkjplffpihfliaaGreatDoorW.PrintWords PAll

/-- The three objects that alive makes, in memory that is new since w. -/
def Three (w W : World) (lr : List (List Int)) (la : List (ByteArray × List Int)) (lt : List (ByteArray × NodeD)) : Prop :=
  ∃ okR okA okT : Nat → Prop, (∀ k, okR k → ¬ okA k ∧ ¬ okT k) ∧ (∀ k, okA k → ¬ okT k) ∧ (∀ k, okR k ∨ okA k ∨ okT k → w.heap.size ≤ k ∧ k < W.heap.size) ∧
    RowIs W w.heap.size okR w.heap.size lr ∧ ArenaIs W w.heap.size okA (w.heap.size + 2) (w.heap.size + 1) 3 64 la ∧ TreeIs W w.heap.size okT (w.heap.size + 4) (w.heap.size + 3) 3 lt ∧ Below w.heap.size w W
section
variable {w W : World} {lr : List (List Int)} {la : List (ByteArray × List Int)} {lt : List (ByteArray × NodeD)}
theorem Three.below {W' : World} (h : Three w W lr la lt) (hB : Below W.heap.size W W') : Three w W' lr la lt := by
  obtain ⟨okR, okA, okT, d1, d2, d3, hR, hA, hT, hw⟩ := h
  have hk := KeptE.of_below hB (fun _ => False)
  exact ⟨okR, okA, okT, d1, d2, fun k h => ⟨(d3 k h).1, Nat.lt_of_lt_of_le (d3 k h).2 hB.size⟩, hR.kept hk (fun _ _ h => h), hA.kept hk (fun _ _ h => h), hT.kept hk (fun _ _ h => h), below_then hw hw.size hB⟩
theorem Three.isBelow (h : Three w W lr la lt) : Below w.heap.size w W := by
  obtain ⟨okR, okA, okT, d1, d2, d3, hR, hA, hT, hw⟩ := h
  exact hw
theorem three_insert (h : Three w W lr la lt) (i : Nat) (xs : List Int) (A : Option Addr) (c : Nat) (hx : Kd.C kU W A xs.length xs) (hxl : xs.length ≤ 100) (hi : i ≤ lr.length) (hl : lr.length < 1000) :
    Calls Tryz.prog 11 #[.pointer (some ⟨w.heap.size, 0, none⟩), .int .i64 i, .slice A xs.length c] W fun e w' => e = .returned (.int .i64 0) ∧ Three w w' (lr.take i ++ xs :: lr.drop i) la lt := by
  obtain ⟨okR, okA, okT, d1, d2, d3, hR, hA, hT, hw⟩ := h
  refine (rowInsert_any W w.heap.size okR w.heap.size i lr xs A c hR hx hxl hi hl hw.size).mono ?_
  rintro e w' ⟨rfl, h1, h2⟩
  refine ⟨rfl, okNew okR W w', okA, okT, fun k hk => ?_, d2, fun k hk => ?_, h1, hA.kept h2 (fun k hk hr => (d1 k hr).1 hk), hT.kept h2 (fun k hk hr => (d1 k hr).2 hk), h2.to_below hw hw.size (fun k hk => (d3 k (.inl hk)).1)⟩
  · rcases hk.1 with h | h
    · exact d1 k h
    · exact ⟨fun q => by have := (d3 k (.inr (.inl q))).2; omega, fun q => by have := (d3 k (.inr (.inr q))).2; omega⟩
  · rcases hk with hk | hk | hk
    · refine ⟨?_, hk.2⟩
      rcases hk.1 with h | h
      · exact (d3 k (.inl h)).1
      · exact Nat.le_trans hw.size h
    · exact ⟨(d3 k (.inr (.inl hk))).1, Nat.lt_of_lt_of_le (d3 k (.inr (.inl hk))).2 h2.size⟩
    · exact ⟨(d3 k (.inr (.inr hk))).1, Nat.lt_of_lt_of_le (d3 k (.inr (.inr hk))).2 h2.size⟩
theorem three_put (h : Three w W lr [] lt) (s : ByteArray) (A : Option Addr) (c : Nat) (data : List Int) (hx : Kd.C kU W A data.length data) (hs : s.size ≤ 100000) (hname : isName s = true) (hneed : needI s data.length ≤ 16) (hdl : data.length ≤ 100000) :
    Calls Tryz.prog 32 #[.pointer (some ⟨w.heap.size + 2, 0, none⟩), .string s, .slice A data.length c] W fun e w' => e = .returned (.int .i64 0) ∧ Three w w' lr [(s, data)] lt := by
  obtain ⟨okR, okA, okT, d1, d2, d3, hR, hA, hT, hw⟩ := h
  refine (put_first W w.heap.size okA (w.heap.size + 2) (w.heap.size + 1) 3 64 s A c data (by decide) (by decide) hs hname hneed hw.size hdl hx hA).mono ?_
  rintro e w' ⟨rfl, h1, h2⟩
  have hbm : okA (w.heap.size + 1) := hA.2.1
  refine ⟨rfl, okR, fun k => (okA k ∨ W.heap.size ≤ k) ∧ k < w'.heap.size, okT, fun k hk => ⟨fun q => ?_, (d1 k hk).2⟩, fun k hk q => ?_, fun k hk => ?_, hR.kept h2 (fun k hk e => (d1 k hk).1 (e ▸ hbm)), h1.mono (fun k q1 q2 => ⟨q1, q2⟩), hT.kept h2 (fun k hk e => d2 k (e ▸ hbm) hk), h2.to_below hw hw.size (fun k hk => by omega)⟩
  · rcases q.1 with h | h
    · exact (d1 k hk).1 h
    · have := (d3 k (.inl hk)).2; omega
  · rcases hk.1 with h | h
    · exact d2 k h q
    · have := (d3 k (.inr (.inr q))).2; omega
  · rcases hk with hk | hk | hk
    · exact ⟨(d3 k (.inl hk)).1, Nat.lt_of_lt_of_le (d3 k (.inl hk)).2 h2.size⟩
    · refine ⟨?_, hk.2⟩
      rcases hk.1 with h | h
      · exact (d3 k (.inr (.inl h))).1
      · exact Nat.le_trans hw.size h
    · exact ⟨(d3 k (.inr (.inr hk))).1, Nat.lt_of_lt_of_le (d3 k (.inr (.inr hk))).2 h2.size⟩
theorem three_make (h : Three w W lr la lt) (m : Int) (hm : w.cell? ⟨0, 0, none⟩ = some (.int .i64 m)) (s : ByteArray) (hs : s.size ≤ 100000) :
    Calls Tryz.prog 14 #[.pointer (some ⟨w.heap.size + 4, 0, none⟩), .string s] W fun e w' => e = .returned (.int .i64 (makeT lt s).1) ∧ Three w w' lr la (makeT lt s).2 := by
  obtain ⟨okR, okA, okT, d1, d2, d3, hR, hA, hT, hw⟩ := h
  refine (make_any W w.heap.size okT (w.heap.size + 4) (w.heap.size + 3) 3 m lt s hs ((hw.cell (World.block_lt_of_cell? _ _ hm)).trans hm) hT).mono ?_
  rintro e w' ⟨rfl, h1, h2⟩
  have hbm : okT (w.heap.size + 3) := hT.2.1
  exact ⟨rfl, okR, okA, okT, d1, d2, fun k hk => ⟨(d3 k hk).1, Nat.lt_of_lt_of_le (d3 k hk).2 h2.size⟩, hR.kept h2 (fun k hk e => (d1 k hk).2 (e ▸ hbm)), hA.kept h2 (fun k hk e => d2 k hk (e ▸ hbm)), h1, h2.to_below hw hw.size (fun k hk => by omega)⟩
theorem three_write (h : Three w W lr la lt) (m : Int) (hm : w.cell? ⟨0, 0, none⟩ = some (.int .i64 m)) (s : ByteArray) (hs : s.size ≤ 100000) (A : Option Addr) (c : Nat) (data : List Int) (hx : Kd.C kU W A data.length data) (hdl : data.length ≤ 100000) :
    Calls Tryz.prog 12 #[.pointer (some ⟨w.heap.size + 4, 0, none⟩), .string s, .slice A data.length c] W fun e w' => e = .returned (.int .i64 (writeT lt s data).1) ∧ Three w w' lr la (writeT lt s data).2 := by
  obtain ⟨okR, okA, okT, d1, d2, d3, hR, hA, hT, hw⟩ := h
  refine (write_any W w.heap.size okT (w.heap.size + 4) (w.heap.size + 3) 3 m lt s A c data hs hdl hw.size ((hw.cell (World.block_lt_of_cell? _ _ hm)).trans hm) hx hT).mono ?_
  rintro e w' ⟨rfl, h1, h2⟩
  have hbm : okT (w.heap.size + 3) := hT.2.1
  refine ⟨rfl, okR, okA, fun k => (okT k ∨ W.heap.size ≤ k) ∧ k < w'.heap.size, fun k hk => ⟨(d1 k hk).1, fun q => ?_⟩, fun k hk q => ?_, fun k hk => ?_, hR.kept h2 (fun k hk e => (d1 k hk).2 (e ▸ hbm)), hA.kept h2 (fun k hk e => d2 k hk (e ▸ hbm)), h1.mono (fun k q1 q2 => ⟨q1, q2⟩), h2.to_below hw hw.size (fun k hk => by omega)⟩
  · rcases q.1 with h | h
    · exact (d1 k hk).2 h
    · have := (d3 k (.inl hk)).2; omega
  · rcases q.1 with h | h
    · exact d2 k hk h
    · have := (d3 k (.inr (.inl hk))).2; omega
  · rcases hk with hk | hk | hk
    · exact ⟨(d3 k (.inl hk)).1, Nat.lt_of_lt_of_le (d3 k (.inl hk)).2 h2.size⟩
    · exact ⟨(d3 k (.inr (.inl hk))).1, Nat.lt_of_lt_of_le (d3 k (.inr (.inl hk))).2 h2.size⟩
    · refine ⟨?_, hk.2⟩
      rcases hk.1 with h | h
      · exact (d3 k (.inr (.inr h))).1
      · exact Nat.le_trans hw.size h
end
section
variable {w W : World} {lr : List (List Int)} {la : List (ByteArray × List Int)} {lt : List (ByteArray × NodeD)}
theorem Three.tree (h : Three w W lr la lt) : ∃ ok, TreeIs W w.heap.size ok (w.heap.size + 4) (w.heap.size + 3) 3 lt := by
  obtain ⟨okR, okA, okT, d1, d2, d3, hR, hA, hT, hw⟩ := h
  exact ⟨_, hT⟩
theorem Three.arena (h : Three w W lr la lt) : ∃ ok, ArenaIs W w.heap.size ok (w.heap.size + 2) (w.heap.size + 1) 3 64 la := by
  obtain ⟨okR, okA, okT, d1, d2, d3, hR, hA, hT, hw⟩ := h
  exact ⟨_, hA⟩
theorem Three.row (h : Three w W lr la lt) : ∃ ok, RowIs W w.heap.size ok w.heap.size lr := by
  obtain ⟨okR, okA, okT, d1, d2, d3, hR, hA, hT, hw⟩ := h
  exact ⟨_, hR⟩
end
abbrev nD : ByteArray := ⟨#[100]⟩
abbrev nF : ByteArray := ⟨#[100, 47, 102]⟩
abbrev nX : ByteArray := ⟨#[120]⟩
abbrev tr1 : List (ByteArray × NodeD) := [(nD, (false, []))]
abbrev tr2 : List (ByteArray × NodeD) := [(nD, (false, [])), (nF, (true, [113]))]
theorem mk1 : makeT [] nD = (0, tr1) := by kernel_rfl
theorem mk2 : writeT tr1 nF [113] = (0, tr2) := by kernel_rfl
theorem mk3 : readT tr2 nF = ([113], 0) := by kernel_rfl
theorem mk4 : getT [(nX, [121, 122])] nX = ([121, 122], 0) := by kernel_rfl
theorem mk5 : needI nX [121, 122].length = 1 := by decide
theorem mk6 : rowImage [[97], [98]] = [0, 2, 1, 1, 97, 0, 0, 0, 1, 1, 98, 0, 0, 0] := by kernel_rfl
theorem mk7 : strOfNums [113] = ⟨#[113]⟩ := by kernel_rfl
theorem mk8 : strOfNums [121, 122] = ⟨#[121, 122]⟩ := by kernel_rfl
theorem mk9 : strOfNums [0, 2, 1, 1, 97, 0, 0, 0, 1, 1, 98, 0, 0, 0] = ⟨#[0, 2, 1, 1, 97, 0, 0, 0, 1, 1, 98, 0, 0, 0]⟩ := by kernel_rfl
theorem three_new (w : World) : Three w (((((w.alloc (.cells #[.bool true, .slice none 0 0] tRow)).alloc (.map #[] 0)).alloc (arenaObj 3 64 (w.heap.size + 1))).alloc (.map #[] 0)).alloc (treeObj 3 (w.heap.size + 3))) [] [] [] := by
  obtain ⟨W1, h1⟩ : ∃ W1, W1 = w.alloc (.cells #[.bool true, .slice none 0 0] tRow) := ⟨_, rfl⟩
  have s1 : W1.heap.size = w.heap.size + 1 := by rw [h1]; simp
  have hR := rowIs_new w w.heap.size (fun k => k = w.heap.size) rfl
  rw [← h1] at hR ⊢
  have hA := arenaIs_new W1 w.heap.size (fun k => k = w.heap.size + 1 ∨ k = w.heap.size + 2) 3 64 (by omega) (by omega)
  rw [s1] at hA
  obtain ⟨W2, h2⟩ : ∃ W2, W2 = (W1.alloc (.map #[] 0)).alloc (arenaObj 3 64 (w.heap.size + 1)) := ⟨_, rfl⟩
  have s2 : W2.heap.size = w.heap.size + 3 := by rw [h2]; simp; omega
  have b2 : Below W1.heap.size W1 W2 := by rw [h2]; exact below_alloc (below_alloc (Below.refl _ _) _) _
  rw [← h2] at hA ⊢
  have hT := treeIs_new W2 w.heap.size (fun k => k = w.heap.size + 3 ∨ k = w.heap.size + 4) 3 (by omega) (by omega)
  rw [s2] at hT
  obtain ⟨W3, h3⟩ : ∃ W3, W3 = (W2.alloc (.map #[] 0)).alloc (treeObj 3 (w.heap.size + 3)) := ⟨_, rfl⟩
  have s3 : W3.heap.size = w.heap.size + 5 := by rw [h3]; simp; omega
  have b3 : Below W2.heap.size W2 W3 := by rw [h3]; exact below_alloc (below_alloc (Below.refl _ _) _) _
  rw [← h3] at hT ⊢
  have b13 := below_then b2 b2.size b3
  have b01 : Below w.heap.size w W1 := by rw [h1]; exact below_alloc (Below.refl _ _) _
  exact ⟨_, _, _, fun k hk => ⟨by omega, by omega⟩, fun k hk => by omega, fun k hk => by omega, hR.kept (KeptE.of_below b13 (fun _ => False)) (fun _ _ h => h), hA.kept (KeptE.of_below b3 (fun _ => False)) (fun _ _ h => h), hT, below_then b01 b01.size b13⟩
/-- A constant of bytes, whatever is marked in its block. -/
theorem C_litF {W : World} (cs : Array Value) (fr : Nat × Nat) (xs : List Int) (h : cs.toList = xs.map (Value.int .u8)) (hl : xs.length ≤ 100) : Kd.C kU (W.alloc (.cells cs 5 fr)) (some ⟨W.heap.size, 0, none⟩) xs.length xs := by
  refine Kd.C_of_reads (d := 0) ⟨rfl, by omega, fun _ => ⟨_, rfl, fun j hj => ?_⟩⟩
  have h0 : (W.alloc (.cells cs 5 fr)).heap[W.heap.size]? = some (.cells cs 5 fr) := by
    show (W.heap.push _)[W.heap.size]? = _
    simp
  rw [add_plain, cell_of_row _ _ _ _ _ _ h0, ← Array.getElem?_toList, h, List.getElem?_map, List.getElem?_eq_getElem hj, getD_lt hj]
  rfl

set_option maxRecDepth 100000 in
set_option maxHeartbeats 4000000 in
theorem alive_any (w : World) (m : Int) (hm : w.cell? ⟨0, 0, none⟩ = some (.int .i64 m)) :
    Calls Tryz.prog 22 #[] w fun e w' => e = .returned (.bool true) ∧ Below w.heap.size w w' := by
  have HM := Aside0.mk hm
  have kc := fun (w : World) (C : Array Value) (n c : Nat) => Lib.run_convert_bytes_const (P := Tryz.prog) w 31 5 C n c Tryz.underlying31 Tryz.underlying5
  clear hm
  go_enter Tryz.func22, Tryz.ntmps22
  go_upto_region 6 with (first | (go_at_call 9; refine (row_new _).mono ?_; rintro e w2 ⟨rfl, hw⟩; subst hw) | (go_at_call 58; refine (newArena_any _ 3 64 (by decide) (by decide)).mono ?_; rintro e w2 ⟨rfl, hw⟩; subst hw) | (go_at_call 10; refine (newTree_any _ 3).mono ?_; rintro e w2 ⟨rfl, hw⟩; subst hw))
  rw [show w.heap.size + 1 + 1 + 1 + 1 = w.heap.size + 4 from rfl, show w.heap.size + 1 + 1 + 1 = w.heap.size + 3 from rfl, show w.heap.size + 1 + 1 = w.heap.size + 2 from rfl]
  have h0 := three_new w
  obtain ⟨W0, hW0⟩ : ∃ W0, W0 = ((((w.alloc (.cells #[.bool true, .slice none 0 0] tRow)).alloc (.map #[] 0)).alloc (arenaObj 3 64 (w.heap.size + 1))).alloc (.map #[] 0)).alloc (treeObj 3 (w.heap.size + 3)) := ⟨_, rfl⟩
  rw [← hW0] at h0 ⊢
  clear hW0
  have H0 := Aside0.mk h0
  clear h0
  go_upto_region 7 with (go_at_call 11; refine (three_insert (H0.out.below (below_alloc (Below.refl _ _) _)) 0 [98] _ _ (C_litF _ _ [98] rfl (by simp)) (by simp) (by simp) (by simp)).mono ?_; rintro e W1 ⟨rfl, h1⟩)
  have H1 := Aside0.mk h1
  clear h1
  go_upto_region 8 with (go_at_call 11; refine (three_insert (H1.out.below (below_alloc (Below.refl _ _) _)) 0 [97] _ _ (C_litF _ _ [97] rfl (by simp)) (by simp) (by simp) (by simp)).mono ?_; rintro e W2 ⟨rfl, h2⟩)
  have H2 := Aside0.mk h2
  clear h2
  go_upto_region 9 with (go_at_call 32; refine (three_put (H2.out.below (below_alloc (Below.refl _ _) _)) ⟨#[120]⟩ _ _ [121, 122] (C_litF _ _ [121, 122] rfl (by simp)) (by decide) (by decide) (by decide) (by decide)).mono ?_; rintro e W3 ⟨rfl, h3⟩)
  have H3 := Aside0.mk h3
  clear h3
  go_upto_region 10 with (go_at_call 14; refine (three_make H3.out m HM.out nD (by decide)).mono ?_; rintro e W4 ⟨rfl, h4⟩)
  rw [mk1] at h4 ⊢
  have H4 := Aside0.mk h4
  clear h4
  go_upto_region 11 with (go_at_call 12; refine (three_write (H4.out.below (below_alloc (Below.refl _ _) _)) m HM.out nF (by decide) _ _ [113] (C_litF _ _ [113] rfl (by simp)) (by decide)).mono ?_; rintro e W5 ⟨rfl, h5⟩)
  rw [mk2] at h5 ⊢
  have H5 := Aside0.mk h5
  obtain ⟨okT, hT5⟩ := h5.tree
  have hrd := read_any W5 _ okT _ _ 3 tr2 nF (by decide) hT5
  rw [mk3] at hrd
  clear h5 hT5
  go_upto_region 12 with (go_at_call 26; refine hrd.mono ?_; rintro e W6 ⟨v6, rfl, hv6, hB6⟩)
  obtain ⟨A6, c6, rfl, _, hc6⟩ := hv6.reads
  have h6 := H5.out.below hB6
  obtain ⟨okA, hA6⟩ := h6.arena
  have hgt := get_any W6 _ okA _ _ 3 64 [(nX, [121, 122])] nX (by decide) (by decide) hA6
  rw [mk4] at hgt
  have H6 := Aside0.mk (And.intro h6 hc6)
  clear hv6 hc6 h6 hB6 hrd hA6
  go_upto_region 13 with (go_at_call 29; refine hgt.mono ?_; rintro e W7 ⟨v7, rfl, hv7, hB7⟩)
  obtain ⟨A7, c7, rfl, _, hc7⟩ := hv7.reads
  have h7 := H6.out.1.below hB7
  have hcv6 := Kd.C_string (P := Tryz.prog) (n := [(113 : Int)].length) (c := c6) Tryz.underlying31 Tryz.underlying5 Tryz.underlying9 (Kd.C_below H6.out.2 hB7)
  have hcv7 := Kd.C_string (P := Tryz.prog) (c := c7) Tryz.underlying31 Tryz.underlying5 Tryz.underlying9 hc7
  rw [mk7] at hcv6
  rw [mk8] at hcv7
  obtain ⟨okT, hT7⟩ := h7.tree
  have hln := treeLen_any W7 _ okT _ _ 3 tr2 hT7
  obtain ⟨okA, hA7⟩ := h7.arena
  have hby := bytes1 W7 _ okA _ _ 3 nX [121, 122] (by decide) (by decide) mk5 hA7
  have HPL := Aside0.mk (fun (W8 : World) (hB8 : Below W7.heap.size W7 W8) => places1 W8 _ okA _ _ 3 nX [121, 122] (by decide) (by decide) mk5 (hA7.kept (KeptE.of_below hB8 (fun _ => False)) (fun _ _ h => h)))
  obtain ⟨okR, hR7⟩ := h7.row
  have HIM := Aside0.mk (fun (W8 : World) (hB8 : Below W7.heap.size W7 W8) => rowImage_any W8 _ okR _ [[97], [98]] (hR7.kept (KeptE.of_below hB8 (fun _ => False)) (fun _ _ h => h)) (by decide) (by decide))
  have H7 := Aside0.mk h7
  clear hv7 hc7 h7 hB7 hgt hT7 hA7 hR7
  go_upto_region 15 with (fail)
  have hcv6' : (convert 31 9 (.slice A6 1 c6)).run Tryz.prog W7 = .ok (.string ⟨#[113]⟩) W7 := hcv6
  have hcv7' : (convert 31 9 (.slice A7 2 c7)).run Tryz.prog W7 = .ok (.string ⟨#[121, 122]⟩) W7 := hcv7
  clear kc
  go_wp2_with (first | (go_at_call 18; refine hln.mono ?_; rintro e w8 ⟨rfl, hw⟩; subst hw) | (go_at_call 35; refine hby.mono ?_; rintro e w8 ⟨Ab, cb, rfl, hB8⟩; have hpl := HPL.out w8 hB8) | (go_at_call 34; refine hpl.mono ?_; rintro e w9 ⟨x, cx, hm9, rfl, _, _, _, _, hB9⟩; have hB79 := below_then hB8 hB8.size hB9; have him := HIM.out w9 hB79) | (go_at_call 15; refine him.mono ?_; rintro e w10 ⟨vi, rfl, hvi, hB10⟩; obtain ⟨Ai, ci, rfl, _, hci⟩ := hvi.reads; rw [mk6] at hci ⊢; have hcvi := Kd.C_string (P := Tryz.prog) (c := ci) Tryz.underlying31 Tryz.underlying5 Tryz.underlying9 hci; rw [mk9] at hcvi; have hcvj : (convert 31 9 (.slice Ai 14 ci)).run Tryz.prog w10 = .ok (.string ⟨#[0, 2, 1, 1, 97, 0, 0, 0, 1, 1, 98, 0, 0, 0]⟩) w10 := hcvi; have HB10 := Aside0.mk (below_then hB79 hB79.size hB10)))
  go_ret
  exact ⟨rfl, below_then H7.out.isBelow H7.out.isBelow.size HB10.out⟩
end Go.Proofs.YtkjplffpihfliaaGreatDoor
end

section
/- A row and a tree side by side; a tree whose paths are numbered. -/
namespace Go.Proofs.YtkjplffpihfliaaGreatDoor
open Go.RowKit Go.Proofs.YtkjplffpihfliaaGreatDoorW.PrintWords PAll

/-- A tree whose paths are those of the numbers c. -/
def TF (lt : List (ByteArray × NodeD)) (c : List Nat) : Prop := lt.map Prod.fst = c.map numS ∧ (∀ n ∈ c, n ≤ 1000) ∧ ∀ p ∈ lt, p.2.2.length ≤ 500 ∧ Byt p.2.2
section
variable {lt : List (ByteArray × NodeD)} {c : List Nat} {n : Nat}
theorem TF.len (h : TF lt c) : lt.length = c.length := by simpa using congrArg List.length h.1
theorem sget_isSome {α : Type} {s : ByteArray} : ∀ {l : List (ByteArray × α)}, (sget l s).isSome = true ↔ s ∈ l.map Prod.fst
  | [] => by simp [sget]
  | (k, v) :: l => by
    unfold sget
    split
    · rename_i e; simp [e]
    · rename_i e
      rw [sget_isSome, List.map_cons, List.mem_cons]
      exact ⟨.inr, fun h => h.resolve_left e⟩
theorem sput_noneG {α : Type} {s : ByteArray} (v : α) : ∀ {l : List (ByteArray × α)}, sget l s = none → sput l s v = l ++ [(s, v)]
  | [], _ => rfl
  | (k, u) :: l, h => by
    unfold sget at h
    split at h
    · cases h
    · rename_i hne
      simp [sput, hne, sput_noneG v h]
theorem sput_keysG {α : Type} {s : ByteArray} (v : α) : ∀ {l : List (ByteArray × α)}, (sget l s).isSome = true → (sput l s v).map Prod.fst = l.map Prod.fst
  | [], h => by cases h
  | (k, u) :: l, h => by
    unfold sget at h
    unfold sput
    split
    · rename_i he; simp [he]
    · rename_i hne
      rw [if_neg hne] at h
      simp [sput_keysG v h]
theorem sput_mem {α : Type} {s : ByteArray} {v : α} {p : ByteArray × α} : ∀ {l : List (ByteArray × α)}, p ∈ sput l s v → p ∈ l ∨ p = (s, v)
  | [], h => by simpa [sput] using h
  | (k, u) :: l, h => by
    unfold sput at h
    split at h
    · rcases List.mem_cons.1 h with h | h
      · exact .inr h
      · exact .inl (List.mem_cons_of_mem _ h)
    · rcases List.mem_cons.1 h with h | h
      · exact .inl (h ▸ List.mem_cons_self ..)
      · rcases sput_mem h with h | h
        · exact .inl (List.mem_cons_of_mem _ h)
        · exact .inr h
theorem sget_sput {α : Type} {s k : ByteArray} {v : α} : ∀ {l : List (ByteArray × α)}, sget (sput l s v) k = if k = s then some v else sget l k
  | [] => by simp [sput, sget]
  | (a, u) :: l => by
    unfold sput
    by_cases h1 : s = a
    · subst h1
      rw [if_pos rfl]
      simp only [sget]
      split <;> rfl
    · rw [if_neg h1]
      simp only [sget]
      rw [sget_sput]
      by_cases h2 : k = a
      · have : k ≠ s := fun e => h1 (e ▸ h2)
        simp [h2, Ne.symm h1, fun e : a = s => h1 e.symm]
      · simp [h2]
theorem TF.get (h : TF lt c) (hn : n ≤ 1000) : (sget lt (numS n)).isSome = true ↔ n ∈ c := by
  rw [sget_isSome, h.1, List.mem_map]
  exact ⟨fun ⟨a, ha, e⟩ => numS_inj (h.2.1 a ha) hn e ▸ ha, fun h => ⟨n, h, rfl⟩⟩
theorem TF.getN (h : TF lt c) (hn : n ≤ 1000) (hc : n ∉ c) : sget lt (numS n) = none := by
  cases hs : sget lt (numS n) with
  | none => rfl
  | some v => exact absurd ((h.get hn).1 (by rw [hs]; rfl)) hc
theorem TF.add (h : TF lt c) (hn : n ≤ 1000) (hc : n ∉ c) (d : NodeD) (hd : d.2.length ≤ 500 ∧ Byt d.2) : TF (sput lt (numS n) d) (c ++ [n]) := by
  rw [sput_noneG d (h.getN hn hc)]
  refine ⟨by simp [h.1], fun a ha => ?_, fun p hp => ?_⟩
  · rcases List.mem_append.1 ha with ha | ha
    · exact h.2.1 a ha
    · rw [List.mem_singleton.1 ha]; exact hn
  · rcases List.mem_append.1 hp with hp | hp
    · exact h.2.2 p hp
    · rw [List.mem_singleton.1 hp]; exact hd
theorem TF.put (h : TF lt c) (hn : n ≤ 1000) (hc : n ∈ c) (d : NodeD) (hd : d.2.length ≤ 500 ∧ Byt d.2) : TF (sput lt (numS n) d) c := by
  refine ⟨by rw [sput_keysG d ((h.get hn).2 hc), h.1], h.2.1, fun p hp => ?_⟩
  rcases sput_mem hp with hp | hp
  · exact h.2.2 p hp
  · rw [hp]; exact hd
theorem sdel_keys {s : ByteArray} : ∀ (l : List (ByteArray × NodeD)), (sdel l s).map Prod.fst = (l.map Prod.fst).erase s
  | [] => rfl
  | (k, v) :: l => by
    unfold sdel
    rw [List.map_cons, List.erase_cons]
    by_cases h : s = k
    · rw [if_pos h, if_pos (by rw [ba_beq]; simp [h])]
    · rw [if_neg h, if_neg (by rw [ba_beq]; simpa using fun e : k = s => h e.symm), List.map_cons, sdel_keys l]
theorem map_erase_num : ∀ (c : List Nat), (∀ a ∈ c, a ≤ 1000) → n ≤ 1000 → (c.map numS).erase (numS n) = (c.erase n).map numS
  | [], _, _ => rfl
  | a :: c, h, hn => by
    rw [List.map_cons, List.erase_cons, List.erase_cons]
    by_cases e : a = n
    · rw [if_pos (by rw [ba_beq]; simp [e]), if_pos (by simp [e])]
    · have e2 : ¬ numS a = numS n := fun q => e (numS_inj (h a (List.mem_cons_self ..)) hn q)
      rw [if_neg (by rw [ba_beq]; simpa using e2), if_neg (by simpa using e), List.map_cons, map_erase_num c (fun b hb => h b (List.mem_cons_of_mem _ hb)) hn]
theorem TF.del (h : TF lt c) (hn : n ≤ 1000) : TF (sdel lt (numS n)) (c.erase n) :=
  ⟨by rw [sdel_keys, h.1, map_erase_num c h.2.1 hn], fun a ha => h.2.1 a (List.mem_of_mem_erase ha), fun p hp => h.2.2 p ((sdel_sub _ _).subset hp)⟩
theorem TF.keys (h : TF lt c) : ∀ p ∈ lt, p.1.size = 4 := fun p hp => by
  have : p.1 ∈ lt.map Prod.fst := List.mem_map_of_mem hp
  rw [h.1] at this
  obtain ⟨a, _, e⟩ := List.mem_map.1 this
  rw [← e]; rfl
theorem TF.todo (h : TF lt c) (n : Nat) : todoT lt (numS n) = [] := by
  unfold todoT
  rw [List.filter_eq_nil_iff]
  intro p hp
  have hm := (keysOf_perm lt).mem_iff.1 hp
  obtain ⟨q, hq, rfl⟩ := List.mem_map.1 hm
  rw [inside_short (by rw [h.keys q hq]; exact Nat.le_refl _) (by rw [numS_size]; decide)]
  simp
theorem dir_root (lt : List (ByteArray × NodeD)) : isDir lt ByteArray.empty = true := by
  unfold isDir
  have : ByteArray.empty.toList.isEmpty = true := by kernel_rfl
  rw [this]
  rfl
theorem TF.addOk (_ : TF lt c) (hn : n ≤ 1000) (hl : lt.length < 1000) (d : NodeD) : addT lt (numS n) d = (0, sput lt (numS n) d) := by
  unfold addT
  rw [numS_parent hn, dir_root, if_neg (by simp), if_neg (by omega)]
theorem TF.addFull (_ : TF lt c) (hn : n ≤ 1000) (hl : lt.length = 1000) (d : NodeD) : addT lt (numS n) d = (5, lt) := by
  unfold addT
  rw [numS_parent hn, dir_root, if_neg (by simp), if_pos (by omega)]
theorem TF.make (h : TF lt c) (hn : n ≤ 1000) (hc : n ∉ c) : makeT lt (numS n) = addT lt (numS n) (false, []) := by
  unfold makeT
  rw [numS_path hn, h.getN hn hc]
  rfl
theorem TF.write (h : TF lt c) (hn : n ≤ 1000) (hc : n ∉ c) : writeT lt (numS n) [] = addT lt (numS n) (true, []) := by
  unfold writeT
  rw [numS_path hn, h.getN hn hc]
  rfl
theorem TF.over (hn : n ≤ 1000) (d0 data : List Int) (hg : sget lt (numS n) = some (true, d0)) (hd : data.length ≤ 500) : writeT lt (numS n) data = (0, sput lt (numS n) (true, data)) := by
  unfold writeT
  rw [numS_path hn, hg, if_neg (by simp; omega)]
theorem TF.remove (h : TF lt c) (hn : n ≤ 1000) (hc : n ∈ c) : removeT lt (numS n) = (0, sdel lt (numS n)) := by
  unfold removeT
  rw [numS_path hn, (h.get hn).2 hc, h.todo]
  rfl
end
/-- A row and a tree in memory that is new since w. -/
def Duo (w W : World) (seed : Int) (lr : List (List Int)) (lt : List (ByteArray × NodeD)) : Prop :=
  ∃ okR okT : Nat → Prop, (∀ k, okR k → ¬ okT k) ∧ (∀ k, okR k ∨ okT k → w.heap.size ≤ k ∧ k < W.heap.size) ∧
    RowIs W w.heap.size okR w.heap.size lr ∧ TreeIs W w.heap.size okT (w.heap.size + 2) (w.heap.size + 1) seed lt ∧ Below w.heap.size w W
section
variable {w W : World} {seed : Int} {lr : List (List Int)} {lt : List (ByteArray × NodeD)}
theorem duo_new (w : World) (seed : Int) : Duo w (((w.alloc (.cells #[.bool true, .slice none 0 0] tRow)).alloc (.map #[] 0)).alloc (treeObj seed (w.heap.size + 1))) seed [] [] := by
  obtain ⟨W1, h1⟩ : ∃ W1, W1 = w.alloc (.cells #[.bool true, .slice none 0 0] tRow) := ⟨_, rfl⟩
  have s1 : W1.heap.size = w.heap.size + 1 := by rw [h1]; simp
  have hR := rowIs_new w w.heap.size (fun k => k = w.heap.size) rfl
  rw [← h1] at hR ⊢
  have hT := treeIs_new W1 w.heap.size (fun k => k = w.heap.size + 1 ∨ k = w.heap.size + 2) seed (by omega) (by omega)
  rw [s1] at hT
  have b2 : Below W1.heap.size W1 ((W1.alloc (.map #[] 0)).alloc (treeObj seed (w.heap.size + 1))) := below_alloc (below_alloc (Below.refl _ _) _) _
  have s2 : ((W1.alloc (.map #[] 0)).alloc (treeObj seed (w.heap.size + 1))).heap.size = w.heap.size + 3 := by simp [s1]
  have b01 : Below w.heap.size w W1 := by rw [h1]; exact below_alloc (Below.refl _ _) _
  exact ⟨_, _, fun k hk => by omega, fun k hk => by omega, hR.kept (KeptE.of_below b2 (fun _ => False)) (fun _ _ h => h), hT, below_then b01 b01.size b2⟩
theorem Duo.below {W' : World} (h : Duo w W seed lr lt) (hB : Below W.heap.size W W') : Duo w W' seed lr lt := by
  obtain ⟨okR, okT, d1, d2, hR, hT, hw⟩ := h
  have hk := KeptE.of_below hB (fun _ => False)
  exact ⟨okR, okT, d1, fun k h => ⟨(d2 k h).1, Nat.lt_of_lt_of_le (d2 k h).2 hB.size⟩, hR.kept hk (fun _ _ h => h), hT.kept hk (fun _ _ h => h), below_then hw hw.size hB⟩
theorem Duo.isBelow (h : Duo w W seed lr lt) : Below w.heap.size w W := by
  obtain ⟨okR, okT, d1, d2, hR, hT, hw⟩ := h
  exact hw
theorem Duo.row (h : Duo w W seed lr lt) : ∃ ok, RowIs W w.heap.size ok w.heap.size lr := by
  obtain ⟨okR, okT, d1, d2, hR, hT, hw⟩ := h
  exact ⟨_, hR⟩
theorem Duo.tree (h : Duo w W seed lr lt) : ∃ ok, TreeIs W w.heap.size ok (w.heap.size + 2) (w.heap.size + 1) seed lt := by
  obtain ⟨okR, okT, d1, d2, hR, hT, hw⟩ := h
  exact ⟨_, hT⟩
theorem duo_insert (h : Duo w W seed lr lt) (i : Nat) (xs : List Int) (A : Option Addr) (c : Nat) (hx : Kd.C kU W A xs.length xs) (hxl : xs.length ≤ 100) (hi : i ≤ lr.length) (hl : lr.length < 1000) :
    Calls Tryz.prog 11 #[.pointer (some ⟨w.heap.size, 0, none⟩), .int .i64 i, .slice A xs.length c] W fun e w' => e = .returned (.int .i64 0) ∧ Duo w w' seed (lr.take i ++ xs :: lr.drop i) lt := by
  obtain ⟨okR, okT, d1, d2, hR, hT, hw⟩ := h
  refine (rowInsert_any W w.heap.size okR w.heap.size i lr xs A c hR hx hxl hi hl hw.size).mono ?_
  rintro e w' ⟨rfl, h1, h2⟩
  refine ⟨rfl, okNew okR W w', okT, fun k hk => ?_, fun k hk => ?_, h1, hT.kept h2 (fun k hk hr => d1 k hr hk), h2.to_below hw hw.size (fun k hk => (d2 k (.inl hk)).1)⟩
  · rcases hk.1 with h | h
    · exact d1 k h
    · exact fun q => by have := (d2 k (.inr q)).2; omega
  · rcases hk with hk | hk
    · refine ⟨?_, hk.2⟩
      rcases hk.1 with h | h
      · exact (d2 k (.inl h)).1
      · exact Nat.le_trans hw.size h
    · exact ⟨(d2 k (.inr hk)).1, Nat.lt_of_lt_of_le (d2 k (.inr hk)).2 h2.size⟩
theorem duo_rowrm (h : Duo w W seed lr lt) (i : Nat) (hi : i < lr.length) (hl : lr.length ≤ 1000) :
    Calls Tryz.prog 19 #[.pointer (some ⟨w.heap.size, 0, none⟩), .int .i64 i] W fun e w' => e = .returned (.int .i64 0) ∧ Duo w w' seed (lr.eraseIdx i) lt := by
  obtain ⟨okR, okT, d1, d2, hR, hT, hw⟩ := h
  refine (rowRemove_any W w.heap.size okR w.heap.size i lr hR hi hl hw.size).mono ?_
  rintro e w' ⟨rfl, h1, h2⟩
  exact ⟨rfl, okR, okT, d1, fun k hk => ⟨(d2 k hk).1, Nat.lt_of_lt_of_le (d2 k hk).2 h2.size⟩, h1, hT.kept h2 (fun k hk hr => d1 k hr hk), h2.to_below hw hw.size (fun k hk => (d2 k (.inl hk)).1)⟩
theorem duo_make (h : Duo w W seed lr lt) (m : Int) (hm : w.cell? ⟨0, 0, none⟩ = some (.int .i64 m)) (s : ByteArray) (hs : s.size ≤ 100000) :
    Calls Tryz.prog 14 #[.pointer (some ⟨w.heap.size + 2, 0, none⟩), .string s] W fun e w' => e = .returned (.int .i64 (makeT lt s).1) ∧ Duo w w' seed lr (makeT lt s).2 := by
  obtain ⟨okR, okT, d1, d2, hR, hT, hw⟩ := h
  refine (make_any W w.heap.size okT (w.heap.size + 2) (w.heap.size + 1) seed m lt s hs ((hw.cell (World.block_lt_of_cell? _ _ hm)).trans hm) hT).mono ?_
  rintro e w' ⟨rfl, h1, h2⟩
  have hbm : okT (w.heap.size + 1) := hT.2.1
  exact ⟨rfl, okR, okT, d1, fun k hk => ⟨(d2 k hk).1, Nat.lt_of_lt_of_le (d2 k hk).2 h2.size⟩, hR.kept h2 (fun k hk e => d1 k hk (e ▸ hbm)), h1, h2.to_below hw hw.size (fun k hk => by omega)⟩
theorem duo_remove (h : Duo w W seed lr lt) (m : Int) (hm : w.cell? ⟨0, 0, none⟩ = some (.int .i64 m)) (s : ByteArray) (hs : s.size ≤ 100000) (hl : lt.length ≤ 1000) (hk : ∀ p ∈ lt, p.1.size ≤ 100000) :
    Calls Tryz.prog 20 #[.pointer (some ⟨w.heap.size + 2, 0, none⟩), .string s] W fun e w' => e = .returned (.int .i64 (removeT lt s).1) ∧ Duo w w' seed lr (removeT lt s).2 := by
  obtain ⟨okR, okT, d1, d2, hR, hT, hw⟩ := h
  refine (remove_any W w.heap.size okT (w.heap.size + 2) (w.heap.size + 1) seed m lt s hs hl hk ((hw.cell (World.block_lt_of_cell? _ _ hm)).trans hm) hT).mono ?_
  rintro e w' ⟨rfl, h1, h2⟩
  have hbm : okT (w.heap.size + 1) := hT.2.1
  exact ⟨rfl, okR, okT, d1, fun k hk => ⟨(d2 k hk).1, Nat.lt_of_lt_of_le (d2 k hk).2 h2.size⟩, hR.kept h2 (fun k hk e => d1 k hk (e ▸ hbm)), h1, h2.to_below hw hw.size (fun k hk => by omega)⟩
theorem duo_write (h : Duo w W seed lr lt) (m : Int) (hm : w.cell? ⟨0, 0, none⟩ = some (.int .i64 m)) (s : ByteArray) (hs : s.size ≤ 100000) (A : Option Addr) (c : Nat) (data : List Int) (hx : Kd.C kU W A data.length data) (hdl : data.length ≤ 100000) :
    Calls Tryz.prog 12 #[.pointer (some ⟨w.heap.size + 2, 0, none⟩), .string s, .slice A data.length c] W fun e w' => e = .returned (.int .i64 (writeT lt s data).1) ∧ Duo w w' seed lr (writeT lt s data).2 := by
  obtain ⟨okR, okT, d1, d2, hR, hT, hw⟩ := h
  refine (write_any W w.heap.size okT (w.heap.size + 2) (w.heap.size + 1) seed m lt s A c data hs hdl hw.size ((hw.cell (World.block_lt_of_cell? _ _ hm)).trans hm) hx hT).mono ?_
  rintro e w' ⟨rfl, h1, h2⟩
  have hbm : okT (w.heap.size + 1) := hT.2.1
  refine ⟨rfl, okR, fun k => (okT k ∨ W.heap.size ≤ k) ∧ k < w'.heap.size, fun k hk q => ?_, fun k hk => ?_, hR.kept h2 (fun k hk e => d1 k hk (e ▸ hbm)), h1.mono (fun k q1 q2 => ⟨q1, q2⟩), h2.to_below hw hw.size (fun k hk => by omega)⟩
  · rcases q.1 with h | h
    · exact d1 k hk h
    · have := (d2 k (.inl hk)).2; omega
  · rcases hk with hk | hk
    · exact ⟨(d2 k (.inl hk)).1, Nat.lt_of_lt_of_le (d2 k (.inl hk)).2 h2.size⟩
    · refine ⟨?_, hk.2⟩
      rcases hk.1 with h | h
      · exact (d2 k (.inr h)).1
      · exact Nat.le_trans hw.size h
/-- The image of the row, and of the tree, and their strings. -/
theorem duo_rowImage (h : Duo w W seed lr lt) (hl : lr.length ≤ 1000) (hx : ∀ x ∈ lr, x.length ≤ 100) :
    Calls Tryz.prog 15 #[.pointer (some ⟨w.heap.size, 0, none⟩)] W fun e w' => ∃ A n c, e = .returned (.slice A n c) ∧ (convert 31 9 (.slice A n c)).run Tryz.prog w' = .ok (.string (strOfNums (rowImage lr))) w' ∧
      Aside0 (Below W.heap.size W w' ∧ ∀ w'', Below w'.heap.size w' w'' → (convert 31 9 (.slice A n c)).run Tryz.prog w'' = .ok (.string (strOfNums (rowImage lr))) w'') := by
  obtain ⟨ok, hR⟩ := h.row
  refine (rowImage_any W w.heap.size ok w.heap.size lr hR hl hx).mono ?_
  rintro e w' ⟨v, rfl, hb, hB⟩
  obtain ⟨A, c, rfl, _, hC⟩ := hb.reads
  have hcv : ∀ w'', Below w'.heap.size w' w'' → (convert 31 9 (.slice A (rowImage lr).length c)).run Tryz.prog w'' = .ok (.string (strOfNums (rowImage lr))) w'' := fun w'' hB => Kd.C_string (P := Tryz.prog) (c := c) Tryz.underlying31 Tryz.underlying5 Tryz.underlying9 (Kd.C_below hC hB)
  exact ⟨A, _, c, rfl, hcv w' (Below.refl _ _), ⟨hB, hcv⟩⟩
theorem duo_treeImage (h : Duo w W seed lr lt) {c : List Nat} (hf : TF lt c) (hl : lt.length ≤ 1000) :
    Calls Tryz.prog 16 #[.pointer (some ⟨w.heap.size + 2, 0, none⟩)] W fun e w' => ∃ A n c, e = .returned (.slice A n c) ∧ (convert 31 9 (.slice A n c)).run Tryz.prog w' = .ok (.string (strOfNums (treeImg seed lt))) w' ∧
      Aside0 (Below W.heap.size W w' ∧ ∀ w'', Below w'.heap.size w' w'' → (convert 31 9 (.slice A n c)).run Tryz.prog w'' = .ok (.string (strOfNums (treeImg seed lt))) w'') := by
  obtain ⟨ok, hT⟩ := h.tree
  refine (treeImage_any W w.heap.size ok (w.heap.size + 2) (w.heap.size + 1) seed lt hT hl (fun p hp => by rw [hf.keys p hp]; decide) (fun p hp => by have := (hf.2.2 p hp).1; omega) (fun p hp => (hf.2.2 p hp).2)).mono ?_
  rintro e w' ⟨v, rfl, hb, hB⟩
  obtain ⟨A, c, rfl, _, hC⟩ := hb.reads
  have hcv : ∀ w'', Below w'.heap.size w' w'' → (convert 31 9 (.slice A (treeImg seed lt).length c)).run Tryz.prog w'' = .ok (.string (strOfNums (treeImg seed lt))) w'' := fun w'' hB => Kd.C_string (P := Tryz.prog) (c := c) Tryz.underlying31 Tryz.underlying5 Tryz.underlying9 (Kd.C_below hC hB)
  exact ⟨A, _, c, rfl, hcv w' (Below.refl _ _), ⟨hB, hcv⟩⟩
end
end Go.Proofs.YtkjplffpihfliaaGreatDoor
end

section
/- RoomFull: the walk. -/
namespace Go.Proofs.YtkjplffpihfliaaGreatDoor
open Go.RowKit Go.Proofs.YtkjplffpihfliaaGreatDoorW.PrintWords PAll

/-- What the law does when one has gone. -/
theorem stage2 (w : World) (m : Int) (hm : w.cell? ⟨0, 0, none⟩ = some (.int .i64 m)) (seed : Int) (lr : List (List Int)) (lt1 : List (ByteArray × NodeD)) (k : Nat) (hk : k < 1000) (hlr : lr.length = 1000) (hx : ∀ x ∈ lr, x.length ≤ 100) (hT : TF lt1 (List.range 1000)) :
    ∃ lr1 lt2 lr2 lt3,
      (∀ W, Duo w W seed lr lt1 → Calls Tryz.prog 19 #[.pointer (some ⟨w.heap.size, 0, none⟩), .int .i64 k] W fun e w' => e = .returned (.int .i64 0) ∧ Duo w w' seed lr1 lt1) ∧
      (∀ W, Duo w W seed lr1 lt1 → Calls Tryz.prog 20 #[.pointer (some ⟨w.heap.size + 2, 0, none⟩), .string (numS k)] W fun e w' => e = .returned (.int .i64 0) ∧ Duo w w' seed lr1 lt2) ∧
      (∀ W, Duo w W seed lr1 lt2 → ∀ A c, Kd.C kU W A 1 [121] → Calls Tryz.prog 11 #[.pointer (some ⟨w.heap.size, 0, none⟩), .int .i64 0, .slice A 1 c] W fun e w' => e = .returned (.int .i64 0) ∧ Duo w w' seed lr2 lt2) ∧
      (∀ W, Duo w W seed lr2 lt2 → Calls Tryz.prog 14 #[.pointer (some ⟨w.heap.size + 2, 0, none⟩), .string (numS 1000)] W fun e w' => e = .returned (.int .i64 0) ∧ Duo w w' seed lr2 lt3) ∧
      (∀ W, Duo w W seed lr2 lt3 → Calls Tryz.prog 21 #[.pointer (some ⟨w.heap.size, 0, none⟩), .int .i64 0] W fun e w' => ∃ A c, e = .returned (.tuple #[.slice A 1 c, .int .i64 0]) ∧ (convert 31 9 (.slice A 1 c)).run Tryz.prog w' = .ok (.string ⟨#[121]⟩) w' ∧ Aside0 (Below W.heap.size W w')) ∧
      (∀ W, Duo w W seed lr2 lt3 → Calls Tryz.prog 11 #[.pointer (some ⟨w.heap.size, 0, none⟩), .int .i64 0, .slice none 0 0] W fun e w' => e = .returned (.int .i64 5) ∧ w' = W) ∧
      (∀ W, Duo w W seed lr2 lt3 → Calls Tryz.prog 14 #[.pointer (some ⟨w.heap.size + 2, 0, none⟩), .string (numS k)] W fun e w' => e = .returned (.int .i64 5) ∧ Duo w w' seed lr2 lt3) ∧
      (∀ W, Duo w W seed lr2 lt3 → Calls Tryz.prog 17 #[.pointer (some ⟨w.heap.size, 0, none⟩)] W fun e w' => e = .returned (.int .i64 1000) ∧ w' = W) ∧
      (∀ W, Duo w W seed lr2 lt3 → Calls Tryz.prog 18 #[.pointer (some ⟨w.heap.size + 2, 0, none⟩)] W fun e w' => e = .returned (.int .i64 1000) ∧ w' = W) := by
  have hl1 : (lr.eraseIdx k).length = 999 := by rw [List.length_eraseIdx_of_lt (by omega)]; omega
  have hx1 : ∀ x ∈ lr.eraseIdx k, x.length ≤ 100 := fun x h => hx x ((List.eraseIdx_sublist _ _).subset h)
  have hk2 : k ≤ 1000 := by omega
  have hkm : k ∈ List.range 1000 := List.mem_range.2 hk
  have hT2 := hT.del hk2
  have hc2 : ((List.range 1000).erase k).length = 999 := by rw [List.length_erase_of_mem hkm, List.length_range]
  have hno : (1000 : Nat) ∉ (List.range 1000).erase k := fun h => by have := List.mem_range.1 (List.mem_of_mem_erase h); omega
  have hkn : k ∉ (List.range 1000).erase k := fun h => ((List.nodup_range.mem_erase_iff).1 h).1 rfl
  have hT3 := hT2.add (Nat.le_refl _) hno (false, []) ⟨by simp, fun x h => (by cases h)⟩
  have hlt3 : (sput (sdel lt1 (numS k)) (numS 1000) (false, [])).length = 1000 := by rw [hT3.len, List.length_append, hc2]; rfl
  have hk3 : k ∉ (List.range 1000).erase k ++ [1000] := fun h => by
    rcases List.mem_append.1 h with h | h
    · exact hkn h
    · have := List.mem_singleton.1 h; omega
  refine ⟨lr.eraseIdx k, sdel lt1 (numS k), [121] :: lr.eraseIdx k, sput (sdel lt1 (numS k)) (numS 1000) (false, []), fun W h => ?_, fun W h => ?_, fun W h A c hC => ?_, fun W h => ?_, fun W h => ?_, fun W h => ?_, fun W h => ?_, fun W h => ?_, fun W h => ?_⟩
  · exact duo_rowrm h k (by omega) (by omega)
  · have := duo_remove h m hm (numS k) (by rw [numS_size]; decide) (by rw [hT.len, List.length_range]; decide) (fun p hp => by rw [hT.keys p hp]; decide)
    rw [hT.remove hk2 hkm] at this
    exact this
  · exact duo_insert h 0 [121] A c hC (by simp) (by omega) (by omega)
  · have := duo_make h m hm (numS 1000) (by rw [numS_size]; decide)
    rw [hT2.make (Nat.le_refl _) hno, hT2.addOk (Nat.le_refl _) (by rw [hT2.len, hc2]; decide)] at this
    exact this
  · obtain ⟨ok, hR⟩ := h.row
    refine (rowAt_any W _ ok _ 0 _ hR (by simp) (by simp; omega) (fun x hx => ?_)).mono ?_
    · rcases List.mem_cons.1 hx with hx | hx
      · rw [hx]; simp
      · have := hx1 x hx; omega
    · rintro e w' ⟨v, rfl, hb, hB⟩
      obtain ⟨A, c, rfl, _, hC⟩ := hb.reads
      exact ⟨A, c, rfl, Kd.C_string (P := Tryz.prog) (c := c) Tryz.underlying31 Tryz.underlying5 Tryz.underlying9 hC, ⟨hB⟩⟩
  · obtain ⟨ok, hR⟩ := h.row
    exact rowInsert_full W _ ok _ 0 _ 0 none 0 hR (by omega) (by simp) (by simp; omega)
  · have := duo_make h m hm (numS k) (by rw [numS_size]; decide)
    rw [hT3.make hk2 hk3, hT3.addFull hk2 hlt3] at this
    exact this
  · obtain ⟨ok, hR⟩ := h.row
    have := rowLen_any W _ ok _ _ hR
    rw [List.length_cons, hl1] at this
    exact this
  · obtain ⟨ok, hR⟩ := h.tree
    have := treeLen_any W _ ok _ _ seed _ hR
    rw [hlt3] at this
    exact this
set_option maxRecDepth 100000 in
set_option maxHeartbeats 4000000 in
theorem full_any (w : World) (m : Int) (hm : w.cell? ⟨0, 0, none⟩ = some (.int .i64 m)) (seed : Int) (a : Nat) (ha : a < 65536) (odd : Bool) :
    Calls Tryz.prog 3 #[.int .u64 seed, .int .u16 a, .bool odd] w fun e w' => e = .returned (.bool true) ∧ Below w.heap.size w w' := by
  have HM := Aside0.mk hm
  obtain ⟨k, hk⟩ : ∃ k, k = a % 1000 := ⟨_, rfl⟩
  have hk' : (a : Int) % 1000 = (k : Int) := by omega
  have hk1 : (k : Int) < 1000 := by omega
  have HK := Aside0.mk (show k < 1000 by omega)
  have HFf : Aside0 (∃ f : Nat, (odd = true ∧ f = 1) ∨ (odd = false ∧ f = 0)) := ⟨by cases odd; exact ⟨0, .inr ⟨rfl, rfl⟩⟩; exact ⟨1, .inl ⟨rfl, rfl⟩⟩⟩
  have h0 := duo_new w seed
  obtain ⟨W0, hW0⟩ : ∃ W0, W0 = ((w.alloc (.cells #[.bool true, .slice none 0 0] tRow)).alloc (.map #[] 0)).alloc (treeObj seed (w.heap.size + 1)) := ⟨_, rfl⟩
  rw [← hW0] at h0
  have H0 := Aside0.mk h0
  clear hm h0 hk
  go_enter Tryz.func3, Tryz.ntmps3
  go_upto_region 5 with (first | (go_at_call 9; refine (row_new _).mono ?_; rintro e w2 ⟨rfl, hw⟩; subst hw) | (go_at_call 10; refine (newTree_any _ seed).mono ?_; rintro e w2 ⟨rfl, hw⟩; subst hw))
  rw [hk', show w.heap.size + 1 + 1 = w.heap.size + 2 from rfl, ← hW0]
  clear hk' hW0
  go_upto_region 6 with (fail)
  go_loopg [10] 1000 (fun kq v10 W => ∃ i : Nat, v10 = .int .i64 i ∧ Aside0 (i + kq = 1000 ∧ ∃ lr, Duo w W seed lr [] ∧ lr.length = i ∧ ∀ x ∈ lr, x.length ≤ 100))
  case atStart => exact ⟨0, rfl, ⟨by omega, [], H0.out, rfl, fun x hx => by cases hx⟩⟩
  case round =>
    obtain ⟨i, rfl, HI⟩ := hrel
    cases gk with
    | succ gk =>
      obtain ⟨hi, lr, hD, hlr, hx⟩ := HI.out
      have hi1 : (i : Int) < 1000 := by omega
      have HD := Aside0.mk hD
      have HL := Aside0.mk (And.intro hlr hx)
      clear hD hlr hx HI
      have hins := duo_insert (HD.out.below (below_alloc (Below.refl _ _) (.cells #[.int .u8 ((i : Int) % 256), .int .u8 ((i : Int) / 256)] 5))) (min i k) [(i : Int) % 256, (i : Int) / 256] (some ⟨wr.heap.size, 0, none⟩) 2 (C_lit #[.int .u8 ((i : Int) % 256), .int .u8 ((i : Int) / 256)] [(i : Int) % 256, (i : Int) / 256] rfl (by simp)) (by simp) (by have := HL.out.1; omega) (by have := HL.out.1; omega)
      rw [show ((min i k : Nat) : Int) = min (i : Int) (k : Int) by omega] at hins
      go_wp2_with (go_at_call 11; refine hins.mono ?_; rintro e w3 ⟨rfl, hD3⟩; have H3 := Aside0.mk hD3; clear hD3)
      go_roundg gk
      case measure => omega
      case rel =>
        refine ⟨i + 1, by simp, ⟨by omega, _, H3.out, ?_, fun x hx => ?_⟩⟩
        · have := HL.out.1
          simp
          omega
        · rcases List.mem_append.1 hx with hx | hx
          · exact HL.out.2 x (List.mem_of_mem_take hx)
          · rcases List.mem_cons.1 hx with hx | hx
            · rw [hx]; simp
            · exact HL.out.2 x (List.mem_of_mem_drop hx)
    | zero =>
      obtain ⟨hi, lr, hD, hlr, hx⟩ := HI.out
      obtain rfl : i = 1000 := by omega
      have HD := Aside0.mk hD
      have HL := Aside0.mk (And.intro hlr hx)
      clear hD hlr hx HI hi
      go_upto_region 11 with (fail)
      go_loopg [11, 12] 1000 (fun kq v11 v12 W => ∃ i : Nat, v11 = .int .i64 i ∧ Aside0 (i + kq = 1000 ∧ ∃ lt, Duo w W seed lr lt ∧ TF lt (List.range i) ∧ ∀ j, j < i → (odd == ((j : Int) % 2 == 1)) = true → sget lt (numS j) = some (true, [])))
      case atStart => exact ⟨0, rfl, ⟨by omega, [], HD.out, ⟨rfl, fun _ h => (by cases h), fun _ h => (by cases h)⟩, fun j hj => (by omega)⟩⟩
      case round =>
        obtain ⟨i, rfl, HI⟩ := hrel
        cases gk with
        | succ gk =>
          obtain ⟨hi, lt, hD, hT, hG⟩ := HI.out
          have hi1 : (i : Int) < 1000 := by omega
          have hi2 : i ≤ 1000 := by omega
          have hl2 : lt.length < 1000 := by rw [hT.len, List.length_range]; omega
          have hni : i ∉ List.range i := by simp
          have hnum := numbered_any wr i hi2
          have HW := Aside0.mk (fun (W : World) (hB : Below wr.heap.size wr W) => duo_write (hD.below hB) m HM.out (numS i) (by rw [numS_size]; decide) none 0 [] (Kd.R_reads' (Kd.R_nil kU 5 W 0 (fun _ => True))).2.2 (by simp))
          have HMk := Aside0.mk (fun (W : World) (hB : Below wr.heap.size wr W) => duo_make (hD.below hB) m HM.out (numS i) (by rw [numS_size]; decide))
          rw [hT.write hi2 hni, hT.addOk hi2 hl2] at HW
          rw [hT.make hi2 hni, hT.addOk hi2 hl2] at HMk
          have HF := Aside0.mk (fun (b : Bool) => hT.add hi2 hni (b, []) ⟨by simp, fun x hx => by cases hx⟩)
          have HG := Aside0.mk (And.intro hG hi)
          clear hD hT hG HI hni hi2 hl2 hi
          cases hp : (odd == ((i : Int) % 2 == 1)) with
          | true =>
            go_wp2_with (first | (go_at_call 13; refine hnum.mono ?_; rintro e w3 ⟨rfl, hB3⟩; have hwr := HW.out w3 hB3; clear hB3) | (go_at_call 12; refine hwr.mono ?_; rintro e w4 ⟨rfl, hD4⟩; have H4 := Aside0.mk hD4; clear hD4))
            go_roundg gk
            case measure => omega
            case rel =>
              refine ⟨i + 1, by simp, ⟨by have := HG.out.2; omega, _, H4.out, by rw [List.range_succ]; exact HF.out true, fun j hj hpj => ?_⟩⟩
              rw [sget_sput]
              by_cases e : j = i
              · rw [e, if_pos rfl]
              · rw [if_neg (fun q => e (numS_inj (by have := HG.out.2; omega) (by have := HG.out.2; omega) q))]
                exact HG.out.1 j (by omega) hpj
          | false =>
            go_wp2_with (first | (go_at_call 13; refine hnum.mono ?_; rintro e w3 ⟨rfl, hB3⟩; have hmk := HMk.out w3 hB3; clear hB3) | (go_at_call 14; refine hmk.mono ?_; rintro e w4 ⟨rfl, hD4⟩; have H4 := Aside0.mk hD4; clear hD4))
            go_roundg gk
            case measure => omega
            case rel =>
              refine ⟨i + 1, by simp, ⟨by have := HG.out.2; omega, _, H4.out, by rw [List.range_succ]; exact HF.out false, fun j hj hpj => ?_⟩⟩
              rw [sget_sput]
              by_cases e : j = i
              · rw [e, hp] at hpj
                cases hpj
              · rw [if_neg (fun q => e (numS_inj (by have := HG.out.2; omega) (by have := HG.out.2; omega) q))]
                exact HG.out.1 j (by omega) hpj
        | zero =>
          obtain ⟨hi, lt, hD2, hT, hG⟩ := HI.out
          obtain rfl : i = 1000 := by omega
          have hd := Aside0.mk hD2
          obtain ⟨f, hf⟩ := HFf.out
          have hfile : sget lt (numS f) = some (true, []) := hG f (by omega) (by rcases hf with ⟨rfl, rfl⟩ | ⟨rfl, rfl⟩ <;> decide)
          have hf1 : f ≤ 1000 := by omega
          have hlt : lt.length = 1000 := by rw [hT.len, List.length_range]
          have hno : (1000 : Nat) ∉ List.range 1000 := by simp
          have hfm : f ∈ List.range 1000 := List.mem_range.2 (by omega)
          have hkm : k ∈ List.range 1000 := List.mem_range.2 HK.out
          have n0 : ∀ W : World, Calls Tryz.prog 13 #[.int .i64 0] W fun e w' => e = .returned (.string (numS 0)) ∧ Below W.heap.size W w' := fun W => numbered_any W 0 (by omega)
          have n1 : ∀ W : World, Calls Tryz.prog 13 #[.int .i64 1] W fun e w' => e = .returned (.string (numS 1)) ∧ Below W.heap.size W w' := fun W => numbered_any W 1 (by omega)
          have nK : ∀ W : World, Calls Tryz.prog 13 #[.int .i64 1000] W fun e w' => e = .returned (.string (numS 1000)) ∧ Below W.heap.size W w' := fun W => numbered_any W 1000 (by omega)
          have nk : ∀ W : World, Calls Tryz.prog 13 #[.int .i64 k] W fun e w' => e = .returned (.string (numS k)) ∧ Below W.heap.size W w' := fun W => numbered_any W k (by have := HK.out; omega)
          have N0 := Aside0.mk n0
          have N1 := Aside0.mk n1
          have NK := Aside0.mk nK
          have Nk := Aside0.mk nk
          clear n0 n1 nK nk
          -- the images
          have hri := fun (W : World) (h : Duo w W seed lr lt) => duo_rowImage h (by rw [HL.out.1]; exact Nat.le_refl _) HL.out.2
          have hti := fun (W : World) (h : Duo w W seed lr lt) => duo_treeImage h hT (by omega)
          obtain ⟨X, hX⟩ : ∃ X, X = strOfNums (rowImage lr) := ⟨_, rfl⟩
          obtain ⟨Y, hY⟩ : ∃ Y, Y = strOfNums (treeImg seed lt) := ⟨_, rfl⟩
          rw [← hX] at hri
          rw [← hY] at hti
          have RI := Aside0.mk hri
          have TI := Aside0.mk hti
          clear hX hY hri hti
          -- what is refused
          have hmf := fun (W : World) (h : Duo w W seed lr lt) => duo_make h m HM.out (numS 1000) (by rw [numS_size]; decide)
          rw [hT.make (Nat.le_refl _) hno, hT.addFull (Nat.le_refl _) hlt] at hmf
          have hwf := fun (W : World) (h : Duo w W seed lr lt) => duo_write h m HM.out (numS 1000) (by rw [numS_size]; decide) none 0 [] (Kd.R_reads' (Kd.R_nil kU 5 W 0 (fun _ => True))).2.2 (by simp)
          rw [hT.write (Nat.le_refl _) hno, hT.addFull (Nat.le_refl _) hlt] at hwf
          have hif : ∀ W, Duo w W seed lr lt → Calls Tryz.prog 11 #[.pointer (some ⟨w.heap.size, 0, none⟩), .int .i64 k, .slice none 0 0] W fun e w' => e = .returned (.int .i64 5) ∧ w' = W := fun W h => by
            obtain ⟨ok, hR⟩ := h.row
            exact rowInsert_full W _ ok _ k lr 0 none 0 hR (by omega) (by have := HL.out.1; have := HK.out; omega) HL.out.1
          have hrl : ∀ W, Duo w W seed lr lt → Calls Tryz.prog 17 #[.pointer (some ⟨w.heap.size, 0, none⟩)] W fun e w' => e = .returned (.int .i64 1000) ∧ w' = W := fun W h => by
            obtain ⟨ok, hR⟩ := h.row
            have := rowLen_any W _ ok _ lr hR
            rw [HL.out.1] at this
            exact this
          have htl : ∀ W, Duo w W seed lr lt → Calls Tryz.prog 18 #[.pointer (some ⟨w.heap.size + 2, 0, none⟩)] W fun e w' => e = .returned (.int .i64 1000) ∧ w' = W := fun W h => by
            obtain ⟨ok, hR⟩ := h.tree
            have := treeLen_any W _ ok _ _ seed lt hR
            rw [hlt] at this
            exact this
          -- the file gets new data
          have hwx : ∀ W, Duo w W seed lr lt → ∀ A c, Kd.C kU W A 1 [120] → Calls Tryz.prog 12 #[.pointer (some ⟨w.heap.size + 2, 0, none⟩), .string (numS f), .slice A 1 c] W fun e w' => e = .returned (.int .i64 0) ∧ Duo w w' seed lr (sput lt (numS f) (true, [120])) := fun W h A c hx => by
            have := duo_write h m HM.out (numS f) (by rw [numS_size]; decide) A c [120] hx (by simp)
            rw [TF.over hf1 [] [120] hfile (by simp)] at this
            exact this
          have hT1 := hT.put hf1 hfm (true, [120]) ⟨by simp, fun x hx => by rw [List.mem_singleton.1 hx]; omega⟩
          obtain ⟨lt1, hlt1⟩ : ∃ lt1, lt1 = sput lt (numS f) (true, [120]) := ⟨_, rfl⟩
          rw [← hlt1] at hT1 hwx
          have S0 := Aside0.mk (And.intro hmf (And.intro hwf (And.intro hif (And.intro hrl (And.intro htl hwx)))))
          have HT1 := Aside0.mk (And.intro hT1 (And.intro hkm hno))
          clear hmf hwf hif hrl htl hwx hT1 hlt1 hfile hlt hno hfm hkm hD2 hT hG HI hi HD HFf hf1
          have S1 := Aside0.mk (stage2 w m HM.out seed lr lt1 k HK.out HL.out.1 HL.out.2 HT1.out.1)
          obtain ⟨lr1, lt2, lr2, lt3, hS1⟩ := S1.out
          have S1 := Aside0.mk hS1
          clear hS1
          have kc := fun (w : World) (C : Array Value) (n c : Nat) => Lib.run_convert_bytes_const (P := Tryz.prog) w 31 5 C n c Tryz.underlying31 Tryz.underlying5
          rcases hf with ⟨rfl, rfl⟩ | ⟨rfl, rfl⟩
          all_goals
            go_upto_region 22 with (go_at_call 13; (first | (with_reducible refine (N0.out _).mono ?_) | (with_reducible refine (N1.out _).mono ?_)); rintro e w5 ⟨rfl, hB5⟩; have hd := Aside0.mk (hd.out.below hB5); clear hB5)
            have hdd := Aside0.mk (hd.out.below (Below.refl _ _).drew)
            go_region_law (first | (go_simp; go_at_call 15; refine (RI.out _ hdd.out).mono ?_; rintro e w6 ⟨A1, n1, c1, rfl, cv1, K1⟩; have hd6 := Aside0.mk (hdd.out.below K1.out.1)) | (go_simp; go_at_call 16; refine (TI.out _ hd6.out).mono ?_; rintro e w7 ⟨A2, n2, c2, rfl, cv2, K2⟩; have hd7 := Aside0.mk (hd6.out.below K2.out.1); have cv3 := K1.out.2 _ K2.out.1))
          all_goals
            clear hdd hd6
            have hd := hd7
            clear hd7
            go_upto_region 25 with (first | (go_at_call 11; refine (S0.out.2.2.1 _ hd.out).mono ?_; rintro e w8 ⟨rfl, hw⟩; cases hw) | (go_at_call 13; refine (NK.out _).mono ?_; rintro e w8 ⟨rfl, hB8⟩; have hd := Aside0.mk (hd.out.below hB8); clear hB8) | (go_at_call 14; refine (S0.out.1 _ hd.out).mono ?_; rintro e w8 ⟨rfl, hD8⟩; have hd := Aside0.mk hD8; clear hD8) | (go_at_call 12; refine (S0.out.2.1 _ hd.out).mono ?_; rintro e w8 ⟨rfl, hD8⟩; have hd := Aside0.mk hD8; clear hD8))
            go_upto_region 27 with (first | (go_at_call 15; refine (RI.out _ hd.out).mono ?_; rintro e w8 ⟨A3, n3, c3, rfl, cv4, K4⟩; have hd := Aside0.mk (hd.out.below K4.out.1)) | (go_at_call 16; refine (TI.out _ hd.out).mono ?_; rintro e w8 ⟨A3, n3, c3, rfl, cv5, K5⟩; have hd := Aside0.mk (hd.out.below K5.out.1)) | (go_at_call 17; refine (S0.out.2.2.2.1 _ hd.out).mono ?_; rintro e w8 ⟨rfl, hw⟩; cases hw) | (go_at_call 18; refine (S0.out.2.2.2.2.1 _ hd.out).mono ?_; rintro e w8 ⟨rfl, hw⟩; cases hw) | (go_at_call 12; refine (S0.out.2.2.2.2.2 _ (hd.out.below (below_alloc (Below.refl _ _) _)) _ _ (C_litF _ _ [120] rfl (by simp))).mono ?_; rintro e w8 ⟨rfl, hD8⟩; have hd := Aside0.mk hD8; clear hD8))
            go_upto_region 29 with (first | (go_at_call 19; refine (S1.out.1 _ hd.out).mono ?_; rintro e w8 ⟨rfl, hD8⟩; have hd := Aside0.mk hD8; clear hD8) | (go_at_call 20; refine (S1.out.2.1 _ hd.out).mono ?_; rintro e w8 ⟨rfl, hD8⟩; have hd := Aside0.mk hD8; clear hD8) | (go_at_call 11; refine (S1.out.2.2.1 _ (hd.out.below (below_alloc (Below.refl _ _) _)) _ _ (C_litF _ _ [121] rfl (by simp))).mono ?_; rintro e w8 ⟨rfl, hD8⟩; have hd := Aside0.mk hD8; clear hD8) | (go_at_call 13; (first | (with_reducible refine (NK.out _).mono ?_) | (with_reducible refine (Nk.out _).mono ?_)); rintro e w8 ⟨rfl, hB8⟩; have hd := Aside0.mk (hd.out.below hB8); clear hB8) | (go_at_call 14; refine (S1.out.2.2.2.1 _ hd.out).mono ?_; rintro e w8 ⟨rfl, hD8⟩; have hd := Aside0.mk hD8; clear hD8))
            go_upto_region 30 with (first | (go_at_call 21; refine (S1.out.2.2.2.2.1 _ hd.out).mono ?_; rintro e w8 ⟨A4, c4, rfl, cv6, K6⟩; have hd := Aside0.mk (hd.out.below K6.out)))
            go_wp2_with (first | (go_at_call 11; refine (S1.out.2.2.2.2.2.1 _ hd.out).mono ?_; rintro e w8 ⟨rfl, hw⟩; cases hw) | (go_at_call 13; refine (Nk.out _).mono ?_; rintro e w8 ⟨rfl, hB8⟩; have hd := Aside0.mk (hd.out.below hB8); clear hB8) | (go_at_call 14; refine (S1.out.2.2.2.2.2.2.1 _ hd.out).mono ?_; rintro e w8 ⟨rfl, hD8⟩; have hd := Aside0.mk hD8; clear hD8) | (go_at_call 17; refine (S1.out.2.2.2.2.2.2.2.1 _ hd.out).mono ?_; rintro e w8 ⟨rfl, hw⟩; cases hw) | (go_at_call 18; refine (S1.out.2.2.2.2.2.2.2.2 _ hd.out).mono ?_; rintro e w8 ⟨rfl, hw⟩; cases hw) | (go_at_call 22; refine (alive_any _ m ((hd.out.isBelow.cell (World.block_lt_of_cell? _ _ HM.out)).trans HM.out)).mono ?_; rintro e w8 ⟨rfl, hB8⟩; have hd := Aside0.mk (hd.out.below hB8); clear hB8))
            go_ret
            exact ⟨rfl, hd.out.isBelow⟩
end Go.Proofs.YtkjplffpihfliaaGreatDoor
end
