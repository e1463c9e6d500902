/- An arena in memory; NewArena, Put into an empty one, Get. -/
import Derived.Test.YtkjplffpihfliaaGreatDoorMake
import Derived.Laws.IdiomRangeMap
import Derived.IntWalk
namespace Go.Proofs.YtkjplffpihfliaaGreatDoor
open Go.RowKit Go.Proofs.YtkjplffpihfliaaGreatDoorW.PrintWords PAll

abbrev tArena : Nat := 62
abbrev tObjs : Nat := 60
def arenaObj (seed units : Int) (bm : Nat) : Obj := .cells #[.int .u64 seed, .int .i64 units, .map (some bm)] tArena (0, 0)
/-- The entries of a map of byte slices, read. -/
def MatchB (w : World) (base : Nat) (ok : Nat → Prop) : List (ByteArray × Value) → List (ByteArray × List Int) → Prop
  | [], [] => True
  | (k, v) :: l, (k', d) :: t => k = k' ∧ Kd.R kU 5 w base ok v d ∧ MatchB w base ok l t
  | _, _ => False
def ArenaIs (w : World) (base : Nat) (ok : Nat → Prop) (g bm : Nat) (seed units : Int) (t : List (ByteArray × List Int)) : Prop :=
  ok g ∧ ok bm ∧ g ≠ bm ∧ w.heap[g]? = some (arenaObj seed units bm) ∧ ∃ l, SMap w bm l ∧ MatchB w base (fun k => ok k ∧ k ≠ g ∧ k ≠ bm) l t
theorem MatchB.imp {w w' : World} {base : Nat} {ok ok' : Nat → Prop} (hi : ∀ v d, Kd.R kU 5 w base ok v d → Kd.R kU 5 w' base ok' v d) : ∀ {l : List (ByteArray × Value)} {t : List (ByteArray × List Int)}, MatchB w base ok l t → MatchB w' base ok' l t
  | [], [], h => h
  | (k, v) :: l, (k', d) :: t, ⟨h1, h2, h3⟩ => ⟨h1, hi v d h2, MatchB.imp hi h3⟩
  | [], _ :: _, h => h.elim
  | _ :: _, [], h => h.elim
theorem matchB_get {w : World} {base : Nat} {ok : Nat → Prop} {s : ByteArray} : ∀ {l : List (ByteArray × Value)} {t : List (ByteArray × List Int)}, MatchB w base ok l t →
    (sget l s = none ∧ sget t s = none) ∨ ∃ v d, sget l s = some v ∧ sget t s = some d ∧ Kd.R kU 5 w base ok v d
  | [], [], _ => .inl ⟨rfl, rfl⟩
  | (k, v) :: l, (k', d) :: t, ⟨h, hn, hr⟩ => by
    subst h
    by_cases he : s = k
    · exact .inr ⟨v, d, by simp [sget, he], by simp [sget, he], hn⟩
    · rcases matchB_get (s := s) hr with ⟨h1, h2⟩ | ⟨v', d', h1, h2, h3⟩
      · exact .inl ⟨by simp [sget, he, h1], by simp [sget, he, h2]⟩
      · exact .inr ⟨v', d', by simp [sget, he, h1], by simp [sget, he, h2], h3⟩
  | [], _ :: _, h => h.elim
  | _ :: _, [], h => h.elim
theorem MatchB.put {w : World} {base : Nat} {ok : Nat → Prop} {s : ByteArray} {v : Value} {d : List Int} (hn : Kd.R kU 5 w base ok v d) : ∀ {l : List (ByteArray × Value)} {t : List (ByteArray × List Int)}, MatchB w base ok l t → MatchB w base ok (sput l s v) (sput t s d)
  | [], [], _ => ⟨rfl, hn, trivial⟩
  | (k, v0) :: l, (k', d0) :: t, ⟨h1, h2, h3⟩ => by
    subst h1
    unfold sput
    by_cases he : s = k
    · rw [if_pos he, if_pos he]; exact ⟨rfl, hn, h3⟩
    · rw [if_neg he, if_neg he]; exact ⟨rfl, h2, MatchB.put hn h3⟩
  | [], _ :: _, h => h.elim
  | _ :: _, [], h => h.elim
theorem ArenaIs.kept {w w' : World} {base : Nat} {ok S : Nat → Prop} {g bm : Nat} {seed units : Int} {t : List (ByteArray × List Int)} (h : ArenaIs w base ok g bm seed units t) (hk : KeptE w w' S) (hs : ∀ k, ok k → ¬ S k) : ArenaIs w' base ok g bm seed units t := by
  obtain ⟨h1, h2, h3, h4, l, h5, h6⟩ := h
  exact ⟨h1, h2, h3, (hk.1.2 g (blk_lt h4) (hs g h1)).trans h4, l, h5.kept hk (hs bm h2), h6.imp (fun v d hn => Kd.R_kept hn hk.1 (fun k hk => hs k hk.1))⟩
theorem ArenaIs.mono {w : World} {base : Nat} {ok ok' : Nat → Prop} {g bm : Nat} {seed units : Int} {t : List (ByteArray × List Int)} (h : ArenaIs w base ok g bm seed units t) (hs : ∀ k, ok k → k < w.heap.size → ok' k) : ArenaIs w base ok' g bm seed units t := by
  obtain ⟨h1, h2, h3, h4, l, h5, h6⟩ := h
  exact ⟨hs g h1 (blk_lt h4), hs bm h2 h5.lt, h3, h4, l, h5, h6.imp (fun v d hn => Kd.R_mono (Kd.R_bound hn) (fun k hk => ⟨hs k hk.1.1 hk.2.2.1, hk.1.2⟩))⟩
theorem zeroB (w : World) : (zeroValue tB).run Tryz.prog w = .ok (.slice none 0 0) w := Tryz.zeroValue31 w
/-- What a look-up in the arena's map gives. -/
theorem arena_look {w : World} {base : Nat} {ok : Nat → Prop} {g bm : Nat} {seed units : Int} {t : List (ByteArray × List Int)} (h : ArenaIs w base ok g bm seed units t) (s : ByteArray) :
    (sget t s = none ∧ (Instr.lookup tObjs (.map (some bm)) (.string s) true).run Tryz.prog w = .ok (.tuple #[.slice none 0 0, .bool false]) w ∧ (Instr.lookup tObjs (.map (some bm)) (.string s) false).run Tryz.prog w = .ok (.slice none 0 0) w) ∨
    ∃ d A c, sget t s = some d ∧ (Instr.lookup tObjs (.map (some bm)) (.string s) true).run Tryz.prog w = .ok (.tuple #[.slice A d.length c, .bool true]) w ∧ (Instr.lookup tObjs (.map (some bm)) (.string s) false).run Tryz.prog w = .ok (.slice A d.length c) w ∧ Kd.C kU w A d.length d := by
  obtain ⟨_, _, _, _, l, h5, h6⟩ := h
  have hlk := smap_lookup (P := Tryz.prog) h5 tObjs 9 tB Tryz.underlying60 Tryz.underlying9 _ (zeroB w) s
  rcases matchB_get (s := s) h6 with ⟨h1, h2⟩ | ⟨v, d, h1, h2, h3⟩
  · refine .inl ⟨h2, ?_, ?_⟩
    · rw [hlk true, h1]; rfl
    · rw [hlk false, h1]; rfl
  · obtain ⟨A, c, rfl, _, hC⟩ := Kd.R_reads h3
    refine .inr ⟨d, A, c, h2, ?_, ?_, hC⟩
    · rw [hlk true, h1]; rfl
    · rw [hlk false, h1]; rfl
theorem arena_store {w : World} {base : Nat} {ok : Nat → Prop} {g bm : Nat} {seed units : Int} {t : List (ByteArray × List Int)} (h : ArenaIs w base ok g bm seed units t) (s : ByteArray) {v : Value} {d : List Int} (hn : Kd.R kU 5 w base (fun k => ok k ∧ k ≠ g ∧ k ≠ bm) v d) :
    ∃ w', (Instr.mapUpdate tObjs (.map (some bm)) (.string s) v).run Tryz.prog w = .ok () w' ∧ ArenaIs w' base ok g bm seed units (sput t s d) ∧ KeptE w w' (fun k => k = bm) ∧ w'.heap.size = w.heap.size := by
  obtain ⟨h1, h2, h3, h4, l, h5, h6⟩ := h
  obtain ⟨o, hr, hm⟩ := smap_update (P := Tryz.prog) h5 tObjs 9 tB Tryz.underlying60 Tryz.underlying9 s v
  have hk := setBlock_kept w bm o
  refine ⟨_, hr, ⟨h1, h2, h3, (hk.1.2 g (blk_lt h4) h3).trans h4, _, hm, ?_⟩, hk, by simp⟩
  exact MatchB.imp (fun v d hv => Kd.R_kept hv hk.1 (fun k hk => hk.2.2)) (MatchB.put hn h6)

theorem arena_real {w : World} {g bm : Nat} {seed units : Int} (hu : 0 < units) (h : w.heap[g]? = some (arenaObj seed units bm)) :
    Calls Tryz.prog 66 #[.pointer (some ⟨g, 0, none⟩)] w fun e w' => e = .returned (.bool true) ∧ w' = w := by
  have c1 : w.cell? ⟨g, 1, none⟩ = some (.int .i64 units) := by rw [blk_cell h]; rfl
  clear h
  go_enter Tryz.func66, Tryz.ntmps66
  go_wp2
  go_ret
  exact ⟨by simp [hu], rfl⟩
theorem arena_real_none (w : World) : Calls Tryz.prog 66 #[.pointer none] w fun e w' => e = .returned (.bool false) ∧ w' = w := by
  go_enter Tryz.func66, Tryz.ntmps66
  go_wp2
  go_ret
  exact ⟨rfl, rfl⟩
/-- What Get gives. -/
def getT (t : List (ByteArray × List Int)) (s : ByteArray) : List Int × Int :=
  match sget t s with
  | some d => (d, 0)
  | none => ([], 3)
set_option maxRecDepth 100000 in
theorem get_any (w : World) (base : Nat) (ok : Nat → Prop) (g bm : Nat) (seed units : Int) (t : List (ByteArray × List Int)) (s : ByteArray) (hu : 0 < units) (hl : ∀ p ∈ t, p.2.length ≤ 100000) (h : ArenaIs w base ok g bm seed units t) :
    Calls Tryz.prog 29 #[.pointer (some ⟨g, 0, none⟩), .string s] w fun e w' => ∃ v, e = .returned (.tuple #[v, .int .i64 (getT t s).2]) ∧ Buf w' w.heap.size v (getT t s).1 ∧ Below w.heap.size w w' := by
  have hreal := arena_real hu h.2.2.2.1
  have c2 : w.cell? ⟨g, 2, none⟩ = some (.map (some bm)) := by rw [blk_cell h.2.2.2.1]; rfl
  rcases arena_look h s with ⟨h1, h2, _⟩ | ⟨d, A, c, h1, h2, _, hC⟩
  · have HE := Aside0.mk (show getT t s = ([], 3) by unfold getT; rw [h1])
    clear h h1
    go_enter Tryz.func29, Tryz.ntmps29
    go_wp2_with (go_at_call 66; refine hreal.mono ?_; rintro e w ⟨rfl, hw⟩; cases hw)
    go_ret2
    rw [HE.out]
    exact ⟨_, rfl, Kd.R_nil _ _ _ _ _, Below.refl _ _⟩
  · have hd : d.length ≤ 100000 := hl _ (sget_mem h1)
    have hcl := clone_any w A c d hC (by omega)
    have HE := Aside0.mk (show getT t s = (d, 0) by unfold getT; rw [h1])
    clear h h1 hC
    go_enter Tryz.func29, Tryz.ntmps29
    go_wp2_with (first | (go_at_call 66; refine hreal.mono ?_; rintro e w ⟨rfl, hw⟩; cases hw) | (go_at_call 48; refine hcl.mono ?_; rintro e w2 ⟨v, rfl, hb, hB⟩))
    go_ret2
    rw [HE.out]
    exact ⟨_, rfl, hb, hB⟩

/-- How many units an object needs. -/
def needI (name : ByteArray) (n : Nat) : Int := (3 + (name.size : Int) + n + 15) / 16
set_option maxRecDepth 100000 in
theorem need_any (w : World) (s : ByteArray) (A : Option Addr) (n c : Nat) (hs : s.size ≤ 100000) (hn : n ≤ 100000) : Calls Tryz.prog 69 #[.string s, .slice A n c] w fun e w' => e = .returned (.int .i64 (needI s n)) ∧ w' = w := by
  obtain ⟨k, hk⟩ : ∃ k, k = s.size := ⟨_, rfl⟩
  have hk1 : (k : Int) ≤ 100000 := by omega
  have hn1 : (n : Int) ≤ 100000 := by omega
  have e1 : IntKind.i64.wrap (3 + (k : Int)) = 3 + k := IntWalk.i64_in _ (by omega)
  have e2 : IntKind.i64.wrap (3 + (k : Int) + n) = 3 + k + n := IntWalk.i64_in _ (by omega)
  have e3 : IntKind.i64.wrap (3 + (k : Int) + n + 16) = 3 + k + n + 16 := IntWalk.i64_in _ (by omega)
  have e4 : IntKind.i64.wrap (3 + (k : Int) + n + 16 - 1) = 3 + k + n + 15 := by rw [IntWalk.i64_in _ (by omega)]; omega
  have HE : Aside0 (needI s n = (3 + (k : Int) + n + 15) / 16) := ⟨by unfold needI; rw [hk]⟩
  have hk' : s.size = k := hk.symm
  clear hk hs hn
  go_enter Tryz.func69, Tryz.ntmps69
  go_wp2
  go_ret
  rw [HE.out]
  exact ⟨rfl, rfl⟩
set_option maxRecDepth 100000 in
theorem newArena_any (w : World) (seed : Int) (u : Nat) (h1 : 64 ≤ u) (h2 : u ≤ 4096) : Calls Tryz.prog 58 #[.int .u64 seed, .int .i64 u] w fun e w' => e = .returned (.tuple #[.pointer (some ⟨w.heap.size + 1, 0, none⟩), .int .i64 0]) ∧ w' = (w.alloc (.map #[] 0)).alloc (arenaObj seed u w.heap.size) := by
  have hmm := @run_makeMap Tryz.prog
  have t1 : ¬ (u : Int) < 64 := by omega
  have t2 : ¬ (4096 : Int) < u := by omega
  go_enter Tryz.func58, Tryz.ntmps58
  go_wp2
  go_ret2
  refine ⟨?_, rfl⟩
  simp
theorem arenaIs_new (w : World) (base : Nat) (ok : Nat → Prop) (seed units : Int) (h1 : ok w.heap.size) (h2 : ok (w.heap.size + 1)) : ArenaIs ((w.alloc (.map #[] 0)).alloc (arenaObj seed units w.heap.size)) base ok (w.heap.size + 1) w.heap.size seed units [] := by
  refine ⟨h2, h1, by omega, ?_, [], ?_, trivial⟩
  · have := heap_alloc_new (w.alloc (.map #[] 0)) (arenaObj seed units w.heap.size)
    simpa using this
  · exact (SMap.made w).kept (S := fun _ => False) ((KeptE.refl _ _).alloc _) (fun h => h)
theorem treeIs_new (w : World) (base : Nat) (ok : Nat → Prop) (seed : Int) (h1 : ok w.heap.size) (h2 : ok (w.heap.size + 1)) : TreeIs ((w.alloc (.map #[] 0)).alloc (treeObj seed w.heap.size)) base ok (w.heap.size + 1) w.heap.size seed [] := by
  refine ⟨h2, h1, by omega, ?_, [], ?_, trivial⟩
  · have := heap_alloc_new (w.alloc (.map #[] 0)) (treeObj seed w.heap.size)
    simpa using this
  · exact (SMap.made w).kept (S := fun _ => False) ((KeptE.refl _ _).alloc _) (fun h => h)

set_option maxRecDepth 100000 in
set_option maxHeartbeats 1000000 in
/-- Put into an empty arena. -/
theorem put_first (w : World) (base : Nat) (ok : Nat → Prop) (g bm : Nat) (seed units : Int) (s : ByteArray) (A0 : Option Addr) (c0 : Nat) (data : List Int) (hu : 46 ≤ units) (hu2 : units ≤ 4096) (hs : s.size ≤ 100000) (hname : isName s = true) (hneed : needI s data.length ≤ 16) (hbase : base ≤ w.heap.size)
    (hdl : data.length ≤ 100000) (hx : Kd.C kU w A0 data.length data) (h : ArenaIs w base ok g bm seed units []) :
    Calls Tryz.prog 32 #[.pointer (some ⟨g, 0, none⟩), .string s, .slice A0 data.length c0] w fun e w' => e = .returned (.int .i64 0) ∧ ArenaIs w' base (fun k => ok k ∨ w.heap.size ≤ k) g bm seed units [(s, data)] ∧ KeptE w w' (fun k => k = bm) := by
  have hreal := arena_real (by omega) h.2.2.2.1
  have hnm := named_any w s hs
  rw [hname] at hnm
  have hnd := fun W => need_any W s A0 data.length c0 hs hdl
  obtain ⟨n, hn⟩ : ∃ n, n = needI s data.length := ⟨_, rfl⟩
  rw [← hn] at hnd hneed
  have HT := Aside0.mk (fun (W : World) (hB : Below w.heap.size w W) => ((h.mono (fun k q _ => .inl q)).kept (KeptE.of_below hB (fun _ => False)) (fun _ _ h => h) : ArenaIs W base (fun k => ok k ∨ w.heap.size ≤ k) g bm seed units []))
  have HC := Aside0.mk (fun (w2 : World) (hB2 : Below w.heap.size w w2) => clone_any w2 A0 c0 data (Kd.C_below hx hB2) (by omega))
  have hn0 : 0 ≤ n := by rw [hn]; unfold needI; omega
  clear hn hx h
  go_enter Tryz.func32, Tryz.ntmps32
  go_upto_region 4 with (first | (go_at_call 66; refine hreal.mono ?_; rintro e w ⟨rfl, hw⟩; cases hw) | (go_at_call 68; refine hnm.mono ?_; rintro e w2 ⟨rfl, hB⟩) | (go_at_call 69; refine (hnd _).mono ?_; rintro e w3 ⟨rfl, hw⟩; cases hw))
  have hT2 := HT.out w2 hB
  have c2 : w2.cell? ⟨g, 2, none⟩ = some (.map (some bm)) := by rw [blk_cell hT2.2.2.2.1]; rfl
  obtain ⟨clock, hmap⟩ : ∃ clock, w2.heap[bm]? = some (.map #[] clock) := by
    obtain ⟨_, _, _, _, l, ⟨es, clock, hb, h1, _⟩, h6⟩ := hT2
    have hl : l = [] := by cases l with | nil => rfl | cons p l => exact h6.elim
    subst hl
    have he : es = #[] := by
      have : es.toList = [] := by simpa using h1
      exact Array.toList_eq_nil_iff.1 this
    subst he
    exact ⟨clock, hb⟩
  have hrg := run_range_map (P := Tryz.prog) w2 tObjs 9 tB bm #[] clock Tryz.underlying60 hmap
  obtain ⟨W3, hW3⟩ : ∃ W3, W3 = w2.alloc (.mapIter (some bm) clock #[] clock) := ⟨_, rfl⟩
  have hnx : ∀ ty, (Instr.next (.pointer (some ⟨w2.heap.size, 0, none⟩)) false ty).run Tryz.prog W3 = .ok (.tuple #[.bool false]) W3 := fun ty => by
    rw [hW3]
    rcases run_next_map (P := Tryz.prog) w2 ty bm clock clock #[] #[] clock hmap (fun x hx => by simp at hx) (Nat.le_refl _) with ⟨_, h⟩ | ⟨e, he, _⟩
    · exact h
    · simp [leftOf] at he
  have b3 : Below w.heap.size w W3 := by rw [hW3]; exact below_alloc hB _
  rw [← hW3] at hrg
  have hT3 := HT.out W3 b3
  have c3 : W3.cell? ⟨g, 2, none⟩ = some (.map (some bm)) := by rw [blk_cell hT3.2.2.2.1]; rfl
  have c4 : W3.cell? ⟨g, 1, none⟩ = some (.int .i64 units) := by rw [blk_cell hT3.2.2.2.1]; rfl
  have hcl := HC.out W3.drew b3.drew
  have HU := Aside0.mk (fun (w4 : World) (sv : Value) (hb : Buf w4 W3.drew.heap.size sv data) (hB4 : Below W3.drew.heap.size W3.drew w4) =>
    arena_store (w := w4) (HT.out w4 (below_then b3.drew b3.drew.size hB4)) s (Kd.R_mono (Kd.R_lower (Kd.R_bound hb) (Nat.le_trans hbase b3.size)) (fun k hk => ⟨.inr (Nat.le_trans b3.size hk.1), by have h1 := blk_lt hT3.2.2.2.1; have h2 : W3.heap.size ≤ k := hk.1; omega, by obtain ⟨l, h5, _⟩ := hT3.2.2.2.2; have h1 := h5.lt; have h2 : W3.heap.size ≤ k := hk.1; omega⟩)))
  have HB3 := Aside0.mk b3
  have e1 : IntKind.i64.wrap (n + 30) = n + 30 := IntWalk.i64_in _ (by omega)
  have t1 : ¬ units < n + 30 := by omega
  clear hT2 hT3 hW3 b3 hmap hB HC
  go_wp2_with (fail)
  go_loopg [7, 8, 9, 10] 0 (fun kq v7 v8 v9 v10 w' => v7 = .int .i64 n ∧ v8 = .int .i64 1 ∧ w' = W3)
  case atStart => exact ⟨rfl, rfl, rfl⟩
  case round =>
    obtain ⟨rfl, rfl, rfl⟩ := hrel
    go_upto_region 12 with (fail)
    go_region_held3 (fun w' => w'.cell? ⟨g, 2, none⟩ = some (.map (some bm))) (first | exact c3 | exact d4 | exact d5 | go_keep) (first | (go_at_call 48; refine hcl.mono ?_; rintro e w4 ⟨sv, rfl, hb, hB4⟩; obtain ⟨w5, hu5, hT5, hk5, _⟩ := HU.out w4 sv hb hB4; obtain ⟨A3, c5, rfl, _, _⟩ := hb.reads; have d4 : w4.cell? ⟨g, 2, none⟩ = some (.map (some bm)) := (by rw [blk_cell (HT.out w4 (below_then HB3.out.drew HB3.out.drew.size hB4)).2.2.2.1]; rfl); have d5 : w5.cell? ⟨g, 2, none⟩ = some (.map (some bm)) := (by rw [blk_cell hT5.2.2.2.1]; rfl); have HT5 := Aside0.mk (And.intro hT5 ((KeptE.of_below (below_then HB3.out.drew HB3.out.drew.size hB4) (fun k => k = bm)).then_ hk5 (fun k h => .inl h))); clear hb hB4 hT5 hk5))
    go_wp2
    go_ret
    exact ⟨rfl, HT5.out.1, HT5.out.2⟩
end Go.Proofs.YtkjplffpihfliaaGreatDoor
