/- The contracts of (*Tree).Make, Write, Read and Len. -/
import Derived.Test.YtkjplffpihfliaaGreatDoorTree
namespace Go.Proofs.YtkjplffpihfliaaGreatDoor
open Go.RowKit Go.Proofs.YtkjplffpihfliaaGreatDoorW.PrintWords PAll

def makeT (t : List (ByteArray × NodeD)) (s : ByteArray) : Int × List (ByteArray × NodeD) :=
  if isPath s = false then (1, t) else if (sget t s).isSome then (4, t) else addT t s (false, [])
theorem nil_node (w : World) (base : Nat) (ok : Nat → Prop) : NodeIs w base ok (.agg #[.bool false, .slice none ([] : List Int).length 0]) (false, []) := ⟨_, rfl, Kd.R_nil _ _ _ _ _⟩

set_option maxRecDepth 100000 in
set_option maxHeartbeats 1000000 in
theorem make_any (w : World) (base : Nat) (ok : Nat → Prop) (g bm : Nat) (seed m : Int) (t : List (ByteArray × NodeD)) (s : ByteArray) (hs : s.size ≤ 100000) (hm : w.cell? ⟨0, 0, none⟩ = some (.int .i64 m)) (h : TreeIs w base ok g bm seed t) :
    Calls Tryz.prog 14 #[.pointer (some ⟨g, 0, none⟩), .string s] w fun e w' => e = .returned (.int .i64 (makeT t s).1) ∧ TreeIs w' base ok g bm seed (makeT t s).2 ∧ KeptE w w' (fun k => k = bm) := by
  have hreal := tree_real h.2.2.2.1
  have hval := valid_any w s m hs hm
  have HT := Aside0.mk (fun (W : World) (hB : Below w.heap.size w W) => (h.kept (KeptE.of_below hB (fun _ => False)) (fun _ _ h => h) : TreeIs W base ok g bm seed t))
  have HA := Aside0.mk (fun (W : World) (hB : Below w.heap.size w W) => add_any W base ok g bm seed t s hs false none 0 [] (HT.out W hB) (nil_node _ _ _))
  have HF := Aside0.mk (fun (W : World) (hB : Below w.heap.size w W) (W' : World) (hk : KeptE W W' (fun k => k = bm)) => ((KeptE.of_below hB (fun k => k = bm)).then_ hk (fun k h => .inl h) : KeptE w W' (fun k => k = bm)))
  obtain ⟨b, hb⟩ : ∃ b, b = isPath s := ⟨_, rfl⟩
  rw [← hb] at hval
  have HB := Aside0.mk hb
  clear hb h hm
  go_enter Tryz.func14, Tryz.ntmps14
  cases b with
  | false =>
    have e : makeT t s = (1, t) := by unfold makeT; rw [if_pos HB.out.symm]
    rw [e]
    go_wp2_with (first | (go_at_call 49; refine hreal.mono ?_; rintro e w ⟨rfl, hw⟩; cases hw) | (go_at_call 50; refine hval.mono ?_; rintro e w2 ⟨rfl, hB⟩))
    go_ret
    exact ⟨rfl, HT.out _ hB, KeptE.of_below hB _⟩
  | true =>
    go_upto_region 3 with (first | (go_at_call 49; refine hreal.mono ?_; rintro e w ⟨rfl, hw⟩; cases hw) | (go_at_call 50; refine hval.mono ?_; rintro e w2 ⟨rfl, hB⟩))
    have hT2 := HT.out _ hB
    have c2 : w2.cell? ⟨g, 2, none⟩ = some (.map (some bm)) := by rw [blk_cell hT2.2.2.2.1]; rfl
    rcases tree_look hT2 s with ⟨h1, h2, _⟩ | ⟨f, d, A, c, h1, h2, _⟩
    · have e : makeT t s = addT t s (false, []) := by unfold makeT; rw [if_neg (by rw [← HB.out]; simp), h1]; rfl
      have HE := Aside0.mk e
      have hB3 : Below w.heap.size w (w2.alloc (.cells #[.bool false, .slice none 0 0] tNode)) := below_alloc hB _
      have hadd := HA.out _ hB3
      have HB3 := Aside0.mk hB3
      clear hT2 h1 e hB3 hB
      go_wp2_with (go_at_call 51; refine hadd.mono ?_; rintro e w3 ⟨rfl, q1, q2⟩)
      go_ret
      rw [HE.out]
      exact ⟨rfl, q1, HF.out _ HB3.out _ q2⟩
    · have e : makeT t s = (4, t) := by unfold makeT; rw [if_neg (by rw [← HB.out]; simp), h1]; rfl
      have HE := Aside0.mk e
      have HB3 := Aside0.mk (below_alloc hB (.cells #[.bool f, .slice A d.length c] tNode))
      clear hT2 h1 e hB
      go_wp2_with (fail)
      go_ret
      rw [HE.out]
      exact ⟨rfl, HT.out _ HB3.out, KeptE.of_below HB3.out _⟩

set_option maxRecDepth 100000 in
theorem treeLen_any (w : World) (base : Nat) (ok : Nat → Prop) (g bm : Nat) (seed : Int) (t : List (ByteArray × NodeD)) (h : TreeIs w base ok g bm seed t) :
    Calls Tryz.prog 18 #[.pointer (some ⟨g, 0, none⟩)] w fun e w' => e = .returned (.int .i64 t.length) ∧ w' = w := by
  have hreal := tree_real h.2.2.2.1
  have c2 : w.cell? ⟨g, 2, none⟩ = some (.map (some bm)) := by rw [blk_cell h.2.2.2.1]; rfl
  have m1 := tree_len h 3
  clear h
  go_enter Tryz.func18, Tryz.ntmps18
  go_wp2_with (go_at_call 49; refine hreal.mono ?_; rintro e w ⟨rfl, rfl⟩)
  go_ret
  exact ⟨rfl, rfl⟩
theorem newTree_any (w : World) (seed : Int) : Calls Tryz.prog 10 #[.int .u64 seed] w fun e w' => e = .returned (.pointer (some ⟨w.heap.size + 1, 0, none⟩)) ∧ w' = (w.alloc (.map #[] 0)).alloc (treeObj seed w.heap.size) := by
  have hmm := @run_makeMap Tryz.prog
  go_enter Tryz.func10, Tryz.ntmps10
  go_wp2
  go_ret
  refine ⟨?_, rfl⟩
  simp

def writeT (t : List (ByteArray × NodeD)) (s : ByteArray) (data : List Int) : Int × List (ByteArray × NodeD) :=
  if isPath s = false ∨ 500 < data.length then (1, t) else
    match sget t s with
    | some (false, _) => (4, t)
    | some (true, _) => (0, sput t s (true, data))
    | none => addT t s (true, data)

set_option maxRecDepth 100000 in
set_option maxHeartbeats 2000000 in
theorem write_any (w : World) (base : Nat) (ok : Nat → Prop) (g bm : Nat) (seed m : Int) (t : List (ByteArray × NodeD)) (s : ByteArray) (A0 : Option Addr) (c0 : Nat) (data : List Int) (hs : s.size ≤ 100000) (hdl : data.length ≤ 100000) (hbase : base ≤ w.heap.size) (hm : w.cell? ⟨0, 0, none⟩ = some (.int .i64 m))
    (hx : Kd.C kU w A0 data.length data) (h : TreeIs w base ok g bm seed t) :
    Calls Tryz.prog 12 #[.pointer (some ⟨g, 0, none⟩), .string s, .slice A0 data.length c0] w fun e w' => e = .returned (.int .i64 (writeT t s data).1) ∧ TreeIs w' base (fun k => ok k ∨ w.heap.size ≤ k) g bm seed (writeT t s data).2 ∧ KeptE w w' (fun k => k = bm) := by
  have hreal := tree_real h.2.2.2.1
  have hval := valid_any w s m hs hm
  have HT := Aside0.mk (fun (W : World) (hB : Below w.heap.size w W) => ((h.mono (fun k q _ => .inl q)).kept (KeptE.of_below hB (fun _ => False)) (fun _ _ h => h) : TreeIs W base (fun k => ok k ∨ w.heap.size ≤ k) g bm seed t))
  have HN := Aside0.mk (fun (w2 w3 W : World) (sv : Value) (hB2 : Below w.heap.size w w2) (hb : Buf w3 w2.heap.size sv data) (hB : Below w3.heap.size w3 W) => (⟨sv, rfl, Kd.R_mono (Kd.R_lower (Kd.R_bound (Kd.R_below hb hB)) (Nat.le_trans hbase hB2.size)) (fun k hk => ⟨.inr (Nat.le_trans hB2.size hk.1), by have := blk_lt h.2.2.2.1; have := hB2.size; omega, by obtain ⟨l, h5, _⟩ := h.2.2.2.2; have := h5.lt; have := hB2.size; omega⟩)⟩ : NodeIs W base (fun k => (ok k ∨ w.heap.size ≤ k) ∧ k ≠ g ∧ k ≠ bm) (.agg #[.bool true, sv]) (true, data)))
  have HC := Aside0.mk (fun (w2 : World) (hB2 : Below w.heap.size w w2) => clone_any w2 A0 c0 data (Kd.C_below hx hB2) (by omega))
  obtain ⟨b, hb⟩ : ∃ b, b = isPath s := ⟨_, rfl⟩
  rw [← hb] at hval
  have HB := Aside0.mk hb
  clear hb h hm hx
  by_cases hbl : b = true ∧ data.length ≤ 500
  · obtain ⟨rfl, hl⟩ := hbl
    have hl' : (data.length : Int) ≤ 500 := by omega
    have HE : Aside0 (writeT t s data = match sget t s with | some (false, _) => (4, t) | some (true, _) => (0, sput t s (true, data)) | none => addT t s (true, data)) := ⟨by unfold writeT; rw [if_neg (by rw [← HB.out]; simp; omega)]⟩
    go_enter Tryz.func12, Tryz.ntmps12
    go_upto_region 3 with (first | (go_at_call 49; refine hreal.mono ?_; rintro e w ⟨rfl, hw⟩; cases hw) | (go_at_call 50; refine hval.mono ?_; rintro e w2 ⟨rfl, hB⟩))
    have hcl := HC.out w2 hB
    go_upto_region 4 with (go_at_call 48; refine hcl.mono ?_; rintro e w3 ⟨sv, rfl, hb, hB3⟩; obtain ⟨A3, c3, rfl, _, _⟩ := hb.reads)
    obtain ⟨W4, hW4⟩ : ∃ W4, W4 = w3.alloc (.cells #[.bool true, .slice A3 data.length c3] tNode) := ⟨_, rfl⟩
    rw [← hW4]
    have v4 : W4.heap[w3.heap.size]? = some (.cells #[.bool true, .slice A3 data.length c3] tNode (0, 0)) := by rw [hW4]; exact heap_alloc_new w3 _
    have b34 : Below w3.heap.size w3 W4 := by rw [hW4]; exact below_alloc (Below.refl _ _) _
    have b4 : Below w.heap.size w W4 := below_then (below_then hB hB.size hB3) (Nat.le_trans hB.size hB3.size) b34
    have hT4 := HT.out W4 b4
    have c2 : W4.cell? ⟨g, 2, none⟩ = some (.map (some bm)) := by rw [blk_cell hT4.2.2.2.1]; rfl
    have HK := Aside0.mk (fun (W : World) (hw : Below W4.heap.size W4 W) => (⟨HT.out W (below_then b4 b4.size hw), HN.out w2 w3 W _ hB hb (below_then b34 b34.size hw), by rw [blk_cell ((hw.block _ (blk_lt v4)).trans v4)]; rfl, by rw [blk_cell ((hw.block _ (blk_lt v4)).trans v4)]; rfl, by rw [blk_cell (HT.out W (below_then b4 b4.size hw)).2.2.2.1]; rfl, below_then b4 b4.size hw⟩ :
      TreeIs W base (fun k => ok k ∨ w.heap.size ≤ k) g bm seed t ∧ NodeIs W base (fun k => (ok k ∨ w.heap.size ≤ k) ∧ k ≠ g ∧ k ≠ bm) (.agg #[.bool true, .slice A3 data.length c3]) (true, data) ∧ W.cell? ⟨w3.heap.size, 0, none⟩ = some (.bool true) ∧ W.cell? ⟨w3.heap.size, 1, none⟩ = some (.slice A3 data.length c3) ∧ W.cell? ⟨g, 2, none⟩ = some (.map (some bm)) ∧ Below w.heap.size w W))
    clear hW4 v4 b34 b4 hb hB3 hB hcl
    rcases tree_look hT4 s with ⟨h1, h2, _⟩ | ⟨f, d, A, c, h1, h2, _⟩
    · have HE2 := Aside0.mk (show writeT t s data = addT t s (true, data) by rw [HE.out, h1])
      obtain ⟨k1, k2, k3, k4, k5, k6⟩ := HK.out (W4.alloc (.cells #[.bool false, .slice none 0 0] tNode)) (below_alloc (Below.refl _ _) _)
      have hadd := add_any _ base _ g bm seed t s hs true A3 c3 data k1 k2
      have HB6 := Aside0.mk k6
      clear hT4 h1 k1 k2 k6 HK HT HN HC
      go_wp2_with (go_at_call 51; refine hadd.mono ?_; rintro e w6 ⟨rfl, q1, q2⟩)
      go_ret
      rw [HE2.out]
      exact ⟨rfl, q1, (KeptE.of_below HB6.out (fun k => k = bm)).then_ q2 (fun k h => .inl h)⟩
    · cases f with
      | false =>
        have HE2 := Aside0.mk (show writeT t s data = (4, t) by rw [HE.out, h1])
        obtain ⟨k1, k2, k3, k4, k5, k6⟩ := HK.out (W4.alloc (.cells #[.bool false, .slice A d.length c] tNode)) (below_alloc (Below.refl _ _) _)
        have HB6 := Aside0.mk (And.intro k6 k1)
        clear hT4 h1 k1 k2 k6 HK HT HN HC
        go_wp2_with (fail)
        go_ret
        rw [HE2.out]
        exact ⟨rfl, HB6.out.2, KeptE.of_below HB6.out.1 _⟩
      | true =>
        have HE2 := Aside0.mk (show writeT t s data = (0, sput t s (true, data)) by rw [HE.out, h1])
        obtain ⟨k1, k2, k3, k4, k5, k6⟩ := HK.out (W4.alloc (.cells #[.bool true, .slice A d.length c] tNode)) (below_alloc (Below.refl _ _) _)
        obtain ⟨w7, hu, hT7, hk7, _⟩ := tree_store (w := (W4.alloc (.cells #[.bool true, .slice A d.length c] tNode)).drew) (k1.kept ((KeptE.refl _ (fun _ => False)).drew) (fun _ _ h => h)) s (k2.kept ((KeptE.refl _ (fun _ => False)).drew) (fun _ _ h => h))
        have HB6 := Aside0.mk (And.intro hT7 ((KeptE.of_below k6 (fun k => k = bm)).then_ (W := W4.alloc (.cells #[.bool true, .slice A d.length c] tNode)) hk7 (fun k h => .inl h)))
        clear hT4 h1 k1 k2 k6 hT7 hk7 HK HT HN HC
        go_wp2_with (fail)
        go_region
        go_wp2
        go_ret
        rw [HE2.out]
        exact ⟨rfl, HB6.out.1, HB6.out.2⟩
  · have HE := Aside0.mk (show writeT t s data = (1, t) by
      unfold writeT
      rw [if_pos]
      rw [← HB.out]
      cases b with
      | false => exact .inl rfl
      | true => exact .inr (by simp at hbl; omega))
    have hbl' : b = false ∨ (b = true ∧ ¬ (data.length : Int) ≤ 500) := by
      cases b with
      | false => exact .inl rfl
      | true => exact .inr ⟨rfl, by simp at hbl; omega⟩
    clear hbl
    rcases hbl' with rfl | ⟨rfl, hl⟩
    · go_enter Tryz.func12, Tryz.ntmps12
      go_wp2_with (first | (go_at_call 49; refine hreal.mono ?_; rintro e w ⟨rfl, hw⟩; cases hw) | (go_at_call 50; refine hval.mono ?_; rintro e w2 ⟨rfl, hB⟩))
      go_ret
      rw [HE.out]
      exact ⟨rfl, HT.out _ hB, KeptE.of_below hB _⟩
    · have hl' : (500 : Int) < data.length := by omega
      clear hl
      go_enter Tryz.func12, Tryz.ntmps12
      go_wp2_with (first | (go_at_call 49; refine hreal.mono ?_; rintro e w ⟨rfl, hw⟩; cases hw) | (go_at_call 50; refine hval.mono ?_; rintro e w2 ⟨rfl, hB⟩))
      go_ret
      rw [HE.out]
      exact ⟨rfl, HT.out _ hB, KeptE.of_below hB _⟩

theorem sget_mem {α : Type} {s : ByteArray} {v : α} : ∀ {t : List (ByteArray × α)}, sget t s = some v → (s, v) ∈ t
  | [], h => by cases h
  | (k, u) :: t, h => by
    unfold sget at h
    split at h
    · rename_i he
      injection h with h
      rw [he, h]
      exact List.mem_cons_self ..
    · exact List.mem_cons_of_mem _ (sget_mem h)
theorem fld0 (f : Bool) (A : Option Addr) (n c : Nat) (w : World) : (Instr.field tNode (.agg #[.bool f, .slice A n c]) 0).run Tryz.prog w = .ok (.bool f) w := by kernel_rfl
theorem fld1 (f : Bool) (A : Option Addr) (n c : Nat) (w : World) : (Instr.field tNode (.agg #[.bool f, .slice A n c]) 1).run Tryz.prog w = .ok (.slice A n c) w := by kernel_rfl
/-- What Read gives. -/
def readT (t : List (ByteArray × NodeD)) (s : ByteArray) : List Int × Int :=
  match sget t s with
  | some (true, d) => (d, 0)
  | _ => ([], 3)
set_option maxRecDepth 100000 in
theorem read_any (w : World) (base : Nat) (ok : Nat → Prop) (g bm : Nat) (seed : Int) (t : List (ByteArray × NodeD)) (s : ByteArray) (hl : ∀ p ∈ t, p.2.2.length ≤ 100000) (h : TreeIs w base ok g bm seed t) :
    Calls Tryz.prog 26 #[.pointer (some ⟨g, 0, none⟩), .string s] w fun e w' => ∃ v, e = .returned (.tuple #[v, .int .i64 (readT t s).2]) ∧ Buf w' w.heap.size v (readT t s).1 ∧ Below w.heap.size w w' := by
  have hreal := tree_real h.2.2.2.1
  have F0 := fld0
  have F1 := fld1
  have c2 : w.cell? ⟨g, 2, none⟩ = some (.map (some bm)) := by rw [blk_cell h.2.2.2.1]; rfl
  rcases tree_look h s with ⟨h1, _, h2⟩ | ⟨f, d, A, c, h1, _, h2, hC⟩
  · have HE := Aside0.mk (show readT t s = ([], 3) by unfold readT; rw [h1])
    clear h h1
    go_enter Tryz.func26, Tryz.ntmps26
    go_wp2_with (go_at_call 49; refine hreal.mono ?_; rintro e w ⟨rfl, hw⟩; cases hw)
    go_ret2
    rw [HE.out]
    exact ⟨_, rfl, Kd.R_nil _ _ _ _ _, Below.refl _ _⟩
  · have hd : d.length ≤ 100000 := hl _ (sget_mem h1)
    have hcl := clone_any w A c d hC (by omega)
    cases f with
    | false =>
      have HE := Aside0.mk (show readT t s = ([], 3) by unfold readT; rw [h1])
      clear h h1 hC
      go_enter Tryz.func26, Tryz.ntmps26
      go_wp2_with (go_at_call 49; refine hreal.mono ?_; rintro e w ⟨rfl, hw⟩; cases hw)
      go_ret2
      rw [HE.out]
      exact ⟨_, rfl, Kd.R_nil _ _ _ _ _, Below.refl _ _⟩
    | true =>
      have HE := Aside0.mk (show readT t s = (d, 0) by unfold readT; rw [h1])
      clear h h1 hC
      go_enter Tryz.func26, Tryz.ntmps26
      go_wp2_with (first | (go_at_call 49; refine hreal.mono ?_; rintro e w ⟨rfl, hw⟩; cases hw) | (go_at_call 48; refine hcl.mono ?_; rintro e w2 ⟨v, rfl, hb, hB⟩))
      go_ret2
      rw [HE.out]
      exact ⟨_, rfl, hb, hB⟩
end Go.Proofs.YtkjplffpihfliaaGreatDoor
