/- A tree of directories and files in memory; what its operations leave. -/
import Derived.Test.YtkjplffpihfliaaGreatDoorImg
import Derived.Test.YtkjplffpihfliaaGreatDoorParent
import Derived.Test.YtkjplffpihfliaaGreatDoorRow
namespace Go.Proofs.YtkjplffpihfliaaGreatDoor
open Go.RowKit Go.Proofs.YtkjplffpihfliaaGreatDoorW.PrintWords PAll

abbrev tTree : Nat := 65
abbrev tNode : Nat := 97
abbrev tNodes : Nat := 63
/-- A node: whether it is a file, and its data. -/
abbrev NodeD := Bool × List Int
def NodeIs (w : World) (base : Nat) (ok : Nat → Prop) (v : Value) (d : NodeD) : Prop := ∃ sv, v = .agg #[.bool d.1, sv] ∧ Kd.R kU 5 w base ok sv d.2
def treeObj (seed : Int) (bm : Nat) : Obj := .cells #[.bool true, .int .u64 seed, .map (some bm)] tTree (0, 0)
def Match (w : World) (base : Nat) (ok : Nat → Prop) : List (ByteArray × Value) → List (ByteArray × NodeD) → Prop
  | [], [] => True
  | (k, v) :: l, (k', d) :: t => k = k' ∧ NodeIs w base ok v d ∧ Match w base ok l t
  | _, _ => False
def TreeIs (w : World) (base : Nat) (ok : Nat → Prop) (g bm : Nat) (seed : Int) (t : List (ByteArray × NodeD)) : Prop :=
  ok g ∧ ok bm ∧ g ≠ bm ∧ w.heap[g]? = some (treeObj seed bm) ∧ ∃ l, SMap w bm l ∧ Match w base (fun k => ok k ∧ k ≠ g ∧ k ≠ bm) l t
theorem NodeIs.kept {w w' : World} {base : Nat} {ok S : Nat → Prop} {v : Value} {d : NodeD} (h : NodeIs w base ok v d) (hk : KeptE w w' S) (hs : ∀ k, ok k → ¬ S k) : NodeIs w' base ok v d := by
  obtain ⟨sv, h1, h2⟩ := h
  exact ⟨sv, h1, Kd.R_kept h2 hk.1 hs⟩
theorem NodeIs.mono {w : World} {base : Nat} {ok ok' : Nat → Prop} {v : Value} {d : NodeD} (h : NodeIs w base ok v d) (hs : ∀ k, ok k → base ≤ k → k < w.heap.size → ok' k) : NodeIs w base ok' v d := by
  obtain ⟨sv, h1, h2⟩ := h
  exact ⟨sv, h1, Kd.R_mono (Kd.R_bound h2) (fun k hk => hs k hk.1 hk.2.1 hk.2.2.1)⟩
theorem Match.imp {w w' : World} {base : Nat} {ok ok' : Nat → Prop} (hi : ∀ v d, NodeIs w base ok v d → NodeIs w' base ok' v d) : ∀ {l : List (ByteArray × Value)} {t : List (ByteArray × NodeD)}, Match w base ok l t → Match w' base ok' l t
  | [], [], h => h
  | (k, v) :: l, (k', d) :: t, ⟨h1, h2, h3⟩ => ⟨h1, hi v d h2, Match.imp hi h3⟩
  | [], _ :: _, h => h.elim
  | _ :: _, [], h => h.elim
theorem Match.length {w : World} {base : Nat} {ok : Nat → Prop} : ∀ {l : List (ByteArray × Value)} {t : List (ByteArray × NodeD)}, Match w base ok l t → l.length = t.length
  | [], [], _ => rfl
  | _ :: _, _ :: _, ⟨_, _, h3⟩ => by simp [Match.length h3]
  | [], _ :: _, h => h.elim
  | _ :: _, [], h => h.elim
theorem Match.put {w : World} {base : Nat} {ok : Nat → Prop} {s : ByteArray} {v : Value} {d : NodeD} (hn : NodeIs w base ok v d) : ∀ {l : List (ByteArray × Value)} {t : List (ByteArray × NodeD)}, Match w base ok l t → Match w base ok (sput l s v) (sput t s d)
  | [], [], _ => ⟨rfl, hn, trivial⟩
  | (k, v0) :: l, (k', d0) :: t, ⟨h1, h2, h3⟩ => by
    subst h1
    unfold sput
    by_cases he : s = k
    · rw [if_pos he, if_pos he]; exact ⟨rfl, hn, h3⟩
    · rw [if_neg he, if_neg he]; exact ⟨rfl, h2, Match.put hn h3⟩
  | [], _ :: _, h => h.elim
  | _ :: _, [], h => h.elim
theorem TreeIs.kept {w w' : World} {base : Nat} {ok S : Nat → Prop} {g bm : Nat} {seed : Int} {t : List (ByteArray × NodeD)} (h : TreeIs w base ok g bm seed t) (hk : KeptE w w' S) (hs : ∀ k, ok k → ¬ S k) : TreeIs w' base ok g bm seed t := by
  obtain ⟨h1, h2, h3, h4, l, h5, h6⟩ := h
  refine ⟨h1, h2, h3, (hk.1.2 g (blk_lt h4) (hs g h1)).trans h4, l, h5.kept hk (hs bm h2), h6.imp (fun v d hn => hn.kept hk (fun k hk => hs k hk.1))⟩

theorem zeroNode (w : World) : (zeroValue tNode).run Tryz.prog w = .ok (.agg #[.bool false, .slice none 0 0]) w := Tryz.zeroValue97 w
theorem match_get {w : World} {base : Nat} {ok : Nat → Prop} {s : ByteArray} : ∀ {l : List (ByteArray × Value)} {t : List (ByteArray × NodeD)}, Match w base ok l t →
    (sget l s = none ∧ sget t s = none) ∨ ∃ v d, sget l s = some v ∧ sget t s = some d ∧ NodeIs w base ok v d
  | [], [], _ => .inl ⟨rfl, rfl⟩
  | (k, v) :: l, (k', d) :: t, ⟨h, hn, hr⟩ => by
    subst h
    by_cases he : s = k
    · exact .inr ⟨v, d, by simp [sget, he], by simp [sget, he], hn⟩
    · rcases match_get (s := s) hr with ⟨h1, h2⟩ | ⟨v', d', h1, h2, h3⟩
      · exact .inl ⟨by simp [sget, he, h1], by simp [sget, he, h2]⟩
      · exact .inr ⟨v', d', by simp [sget, he, h1], by simp [sget, he, h2], h3⟩
  | [], _ :: _, h => h.elim
  | _ :: _, [], h => h.elim
/-- What a look-up in the tree's map gives. -/
theorem tree_look {w : World} {base : Nat} {ok : Nat → Prop} {g bm : Nat} {seed : Int} {t : List (ByteArray × NodeD)} (h : TreeIs w base ok g bm seed t) (s : ByteArray) :
    (sget t s = none ∧ (Instr.lookup tNodes (.map (some bm)) (.string s) true).run Tryz.prog w = .ok (.tuple #[.agg #[.bool false, .slice none 0 0], .bool false]) w ∧ (Instr.lookup tNodes (.map (some bm)) (.string s) false).run Tryz.prog w = .ok (.agg #[.bool false, .slice none 0 0]) w) ∨
    ∃ f d A c, sget t s = some (f, d) ∧ (Instr.lookup tNodes (.map (some bm)) (.string s) true).run Tryz.prog w = .ok (.tuple #[.agg #[.bool f, .slice A d.length c], .bool true]) w ∧ (Instr.lookup tNodes (.map (some bm)) (.string s) false).run Tryz.prog w = .ok (.agg #[.bool f, .slice A d.length c]) w ∧ Kd.C kU w A d.length d := by
  obtain ⟨_, _, _, _, l, h5, h6⟩ := h
  have hlk := smap_lookup (P := Tryz.prog) h5 tNodes 9 tNode Tryz.underlying63 Tryz.underlying9 _ (zeroNode w) s
  rcases match_get (s := s) h6 with ⟨h1, h2⟩ | ⟨v, ⟨f, d⟩, h1, h2, sv, rfl, h3⟩
  · refine .inl ⟨h2, ?_, ?_⟩
    · rw [hlk true, h1]; rfl
    · rw [hlk false, h1]; rfl
  · obtain ⟨A, c, rfl, _, hC⟩ := Kd.R_reads h3
    refine .inr ⟨f, d, A, c, h2, ?_, ?_, hC⟩
    · rw [hlk true, h1]; rfl
    · rw [hlk false, h1]; rfl

theorem tree_real {w : World} {g bm : Nat} {seed : Int} (h : w.heap[g]? = some (treeObj seed bm)) :
    Calls Tryz.prog 49 #[.pointer (some ⟨g, 0, none⟩)] w fun e w' => e = .returned (.bool true) ∧ w' = w := by
  have c0 : w.cell? ⟨g, 0, none⟩ = some (.bool true) := by rw [blk_cell h]; rfl
  clear h
  go_enter Tryz.func49, Tryz.ntmps49
  go_wp2
  go_ret
  exact ⟨rfl, rfl⟩
theorem tree_real_none (w : World) : Calls Tryz.prog 49 #[.pointer none] w fun e w' => e = .returned (.bool false) ∧ w' = w := by
  go_enter Tryz.func49, Tryz.ntmps49
  go_wp2
  go_ret
  exact ⟨rfl, rfl⟩
/-- Whether a directory is at a path. -/
def isDir (t : List (ByteArray × NodeD)) (s : ByteArray) : Bool := s.toList.isEmpty || (match sget t s with | some (f, _) => !f | none => false)
set_option maxRecDepth 100000 in
theorem directory_any (w : World) (base : Nat) (ok : Nat → Prop) (g bm : Nat) (seed : Int) (t : List (ByteArray × NodeD)) (s : ByteArray) (h : TreeIs w base ok g bm seed t) :
    Calls Tryz.prog 59 #[.pointer (some ⟨g, 0, none⟩), .string s] w fun e w' => e = .returned (.bool (isDir t s)) ∧ Below w.heap.size w w' := by
  have c2 : w.cell? ⟨g, 2, none⟩ = some (.map (some bm)) := by rw [blk_cell h.2.2.2.1]; rfl
  rcases tree_look h s with ⟨h1, h2, _⟩ | ⟨f, d, A, c, h1, h2, _⟩
  · have HD : Aside0 (isDir t s = s.toList.isEmpty) := ⟨by unfold isDir; rw [h1]; simp⟩
    clear h h1
    go_enter Tryz.func59, Tryz.ntmps59
    go_wp2
    all_goals
      go_ret
      refine ⟨?_, below_alloc (Below.refl _ _) _⟩
      rw [HD.out]
      first
        | (have h : s.toList = [] := by assumption
           rw [h]; rfl)
        | (have h : ¬ s.toList = [] := by assumption
           rfl)
  · have HD : Aside0 (isDir t s = (s.toList.isEmpty || !f)) := ⟨by unfold isDir; rw [h1]⟩
    clear h h1
    go_enter Tryz.func59, Tryz.ntmps59
    go_wp2
    all_goals
      go_ret
      refine ⟨?_, below_alloc (Below.refl _ _) _⟩
      rw [HD.out]
      first
        | (have h : s.toList = [] := by assumption
           rw [h]; rfl)
        | (have h : ¬ s.toList = [] := by assumption
           rfl)

theorem TreeIs.mono {w : World} {base : Nat} {ok ok' : Nat → Prop} {g bm : Nat} {seed : Int} {t : List (ByteArray × NodeD)} (h : TreeIs w base ok g bm seed t) (hs : ∀ k, ok k → k < w.heap.size → ok' k) : TreeIs w base ok' g bm seed t := by
  obtain ⟨h1, h2, h3, h4, l, h5, h6⟩ := h
  exact ⟨hs g h1 (blk_lt h4), hs bm h2 h5.lt, h3, h4, l, h5, h6.imp (fun v d hn => hn.mono (fun k hk _ hlt => ⟨hs k hk.1 hlt, hk.2⟩))⟩
/-- A store into the tree's map. -/
theorem tree_store {w : World} {base : Nat} {ok : Nat → Prop} {g bm : Nat} {seed : Int} {t : List (ByteArray × NodeD)} (h : TreeIs w base ok g bm seed t) (s : ByteArray) {v : Value} {d : NodeD} (hn : NodeIs w base (fun k => ok k ∧ k ≠ g ∧ k ≠ bm) v d) :
    ∃ w', (Instr.mapUpdate tNodes (.map (some bm)) (.string s) v).run Tryz.prog w = .ok () w' ∧ TreeIs w' base ok g bm seed (sput t s d) ∧ KeptE w w' (fun k => k = bm) ∧ w'.heap.size = w.heap.size := by
  obtain ⟨h1, h2, h3, h4, l, h5, h6⟩ := h
  obtain ⟨o, hr, hm⟩ := smap_update (P := Tryz.prog) h5 tNodes 9 tNode Tryz.underlying63 Tryz.underlying9 s v
  have hk := setBlock_kept w bm o
  refine ⟨_, hr, ⟨h1, h2, h3, (hk.1.2 g (blk_lt h4) h3).trans h4, _, hm, ?_⟩, hk, by simp⟩
  exact Match.imp (fun v d hv => hv.kept hk (fun k hk => hk.2.2)) (Match.put hn h6)
theorem tree_size {w : World} {base : Nat} {ok : Nat → Prop} {g bm : Nat} {seed : Int} {t : List (ByteArray × NodeD)} (h : TreeIs w base ok g bm seed t) : ∃ es clock, w.heap[bm]? = some (.map es clock) ∧ es.size = t.length := by
  obtain ⟨_, _, _, _, l, h5, h6⟩ := h
  have h5' := h5
  obtain ⟨es, clock, hb, _⟩ := h5
  exact ⟨es, clock, hb, (h5'.size hb).trans h6.length⟩

theorem tree_len {w : World} {base : Nat} {ok : Nat → Prop} {g bm : Nat} {seed : Int} {t : List (ByteArray × NodeD)} (h : TreeIs w base ok g bm seed t) (ty : TypeId) : (Builtin.len_ #[tNodes] ty #[.map (some bm)]).run Tryz.prog w = .ok (.int .i64 t.length) w := by
  obtain ⟨es, clock, hb, hs⟩ := tree_size h
  simp [Builtin.len_, Builtin.lenOf, MapKept.run_getObj_map hb, hs, goInt, run_underlying Tryz.underlying63]
/-- What adding something gives: the error, and the tree. -/
def addT (t : List (ByteArray × NodeD)) (s : ByteArray) (d : NodeD) : Int × List (ByteArray × NodeD) :=
  if isDir t (parentOf s) = false then (3, t) else if 1000 ≤ t.length then (5, t) else (0, sput t s d)
/-- What an operation on a tree leaves. -/
def TreeOp (w : World) (base : Nat) (ok : Nat → Prop) (g bm : Nat) (seed : Int) (t' : List (ByteArray × NodeD)) (w' : World) : Prop := TreeIs w' base (okNew ok w w') g bm seed t' ∧ KeptE w w' ok
theorem treeOp_of {w w' : World} {base : Nat} {ok : Nat → Prop} {g bm : Nat} {seed : Int} {t t' : List (ByteArray × NodeD)} (h : TreeIs w' base ok g bm seed t') (hk : KeptE w w' ok) : TreeOp w base ok g bm seed t' w' :=
  ⟨h.mono (fun k q1 q2 => ⟨.inl q1, q2⟩), hk⟩

set_option maxRecDepth 100000 in
set_option maxHeartbeats 1000000 in
theorem add_any (w : World) (base : Nat) (ok : Nat → Prop) (g bm : Nat) (seed : Int) (t : List (ByteArray × NodeD)) (s : ByteArray) (hs : s.size ≤ 100000) (f : Bool) (A : Option Addr) (c : Nat) (d : List Int) (h : TreeIs w base ok g bm seed t)
    (hn : NodeIs w base (fun k => ok k ∧ k ≠ g ∧ k ≠ bm) (.agg #[.bool f, .slice A d.length c]) (f, d)) :
    Calls Tryz.prog 51 #[.pointer (some ⟨g, 0, none⟩), .string s, .agg #[.bool f, .slice A d.length c]] w fun e w' => e = .returned (.int .i64 (addT t s (f, d)).1) ∧ TreeIs w' base ok g bm seed (addT t s (f, d)).2 ∧ KeptE w w' (fun k => k = bm) := by
  obtain ⟨W1, hW⟩ : ∃ W1, W1 = w.alloc (.cells #[.bool f, .slice A d.length c] tNode) := ⟨_, rfl⟩
  have hB1 : Below w.heap.size w W1 := by rw [hW]; exact below_alloc (Below.refl _ _) _
  have hT1 : TreeIs W1 base ok g bm seed t := h.kept (KeptE.of_below hB1 (fun _ => False)) (fun _ _ h => h)
  have hpar := parent_any s W1 hs
  have hdir := directory_any W1 base ok g bm seed t (parentOf s) hT1
  have hv1 : W1.heap[w.heap.size]? = some (.cells #[.bool f, .slice A d.length c] tNode (0, 0)) := by rw [hW]; exact heap_alloc_new w _
  have HK := Aside0.mk (fun (W : World) (hB : Below W1.heap.size W1 W) => (⟨hT1.kept (KeptE.of_below hB (fun _ => False)) (fun _ _ h => h), (hB.block w.heap.size (blk_lt hv1)).trans hv1, below_then hB1 hB1.size hB, hn.kept (KeptE.of_below (below_then hB1 hB1.size hB) (fun _ => False)) (fun _ _ h => h)⟩ : TreeIs W base ok g bm seed t ∧ W.heap[w.heap.size]? = some (.cells #[.bool f, .slice A d.length c] tNode (0, 0)) ∧ Below w.heap.size w W ∧ NodeIs W base (fun k => ok k ∧ k ≠ g ∧ k ≠ bm) (.agg #[.bool f, .slice A d.length c]) (f, d)))
  obtain ⟨p, hp⟩ : ∃ p, p = parentOf s := ⟨_, rfl⟩
  rw [← hp] at hpar hdir
  have HP := Aside0.mk hp
  clear hp h hn hT1 hv1
  go_enter Tryz.func51, Tryz.ntmps51
  go_upto_region 1 with (fail)
  rw [← hW]
  clear hW
  go_wp2_with (first | (go_at_call 60; refine hpar.mono ?_; rintro e w ⟨rfl, hw⟩; cases hw) | (go_at_call 59; refine hdir.mono ?_; rintro e w2 ⟨rfl, hB⟩; obtain ⟨k1, k2, k3, k4⟩ := HK.out w2 hB; have c2 : w2.cell? ⟨g, 2, none⟩ = some (.map (some bm)) := (by rw [blk_cell k1.2.2.2.1]; rfl); have m1 := tree_len k1 3; have y0 : w2.cell? ⟨w.heap.size, 0, none⟩ = some (.bool f) := (by rw [blk_cell k2]; rfl); have y1 : w2.cell? ⟨w.heap.size, 1, none⟩ = some (.slice A d.length c) := (by rw [blk_cell k2]; rfl); have HK2 := Aside0.mk (And.intro k1 (And.intro k3 k4)); clear k1 k2 k3 k4 hB))
  · have hd : isDir t p = false := by have h : (!isDir t p) = true := by assumption
                                      simpa using h
    go_ret
    have e : addT t s (f, d) = (3, t) := by unfold addT; rw [← HP.out, if_pos hd]
    rw [e]
    exact ⟨rfl, HK2.out.1, KeptE.of_below HK2.out.2.1 _⟩
  · have hd : isDir t p = true := by have h : (!isDir t p) = false := by assumption
                                     simpa using h
    have hl : 1000 ≤ t.length := by have h : (1000 : Int) ≤ t.length := by assumption
                                    omega
    go_ret
    have e : addT t s (f, d) = (5, t) := by unfold addT; rw [← HP.out, if_neg (by simp [hd]), if_pos hl]
    rw [e]
    exact ⟨rfl, HK2.out.1, KeptE.of_below HK2.out.2.1 _⟩
  · have hd : isDir t p = true := by have h : (!isDir t p) = false := by assumption
                                     simpa using h
    have hl : ¬ 1000 ≤ t.length := by have h : (t.length : Int) < 1000 := by assumption
                                      omega
    have e : addT t s (f, d) = (0, sput t s (f, d)) := by unfold addT; rw [← HP.out, if_neg (by simp [hd]), if_neg hl]
    obtain ⟨w3, hu, hT3, hk3, _⟩ := tree_store (w := w2.drew) (HK2.out.1.kept ((KeptE.refl w2 (fun _ => False)).drew) (fun _ _ h => h)) s (HK2.out.2.2.kept ((KeptE.refl w2 (fun _ => False)).drew) (fun _ _ h => h))
    have HF := Aside0.mk (And.intro e (And.intro hT3 ((KeptE.of_below HK2.out.2.1 (fun k => k = bm)).then_ (W := w2) hk3 (fun k h => .inl h))))
    clear hd hl e hT3 hk3
    go_region
    go_wp2
    go_ret
    rw [HF.out.1]
    exact ⟨rfl, HF.out.2.1, HF.out.2.2⟩
end Go.Proofs.YtkjplffpihfliaaGreatDoor
