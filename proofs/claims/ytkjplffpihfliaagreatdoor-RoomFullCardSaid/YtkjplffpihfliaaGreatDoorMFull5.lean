/- Texts of this claim, merged by wip/merge.py: Del Ord2 Ord3 Ord4 Ord5 Ord6. -/
import Derived.Test.YtkjplffpihfliaaGreatDoorMFull1
import Derived.Test.YtkjplffpihfliaaGreatDoorMFull4
import Derived.Test.YtkjplffpihfliaaGreatDoorMFull2
import Derived.Deep.DeepMust
import Derived.Lib.BytesEntry
import Derived.Lib.Bytealg
import Derived.Lib.Bytes
section
/- Deletion from maps with string keys, and from a tree's map; whether a path lies below another one. -/
namespace Go.Proofs.YtkjplffpihfliaaGreatDoor
open Go.RowKit Go.Proofs.YtkjplffpihfliaaGreatDoorW.PrintWords PAll

def sdel {α : Type} : List (ByteArray × α) → ByteArray → List (ByteArray × α)
  | [], _ => []
  | (k, v) :: r, s => if s = k then r else (k, v) :: sdel r s
theorem sdel_none {α : Type} {s : ByteArray} : ∀ {l : List (ByteArray × α)}, sget l s = none → sdel l s = l
  | [], _ => rfl
  | (k, v) :: l, h => by
    unfold sget at h
    split at h
    · cases h
    · rename_i hne
      unfold sdel
      rw [if_neg hne, sdel_none h]
theorem sdel_sub {α : Type} (s : ByteArray) : ∀ l : List (ByteArray × α), (sdel l s).Sublist l
  | [] => List.Sublist.refl _
  | (k, v) :: l => by
    unfold sdel
    split
    · exact List.sublist_cons_self ..
    · exact (sdel_sub s l).cons_cons _
theorem sdel_filter {α : Type} (s : ByteArray) : ∀ {l : List (ByteArray × α)}, (l.map Prod.fst).Nodup → sdel l s = l.filter (fun p => decide (p.1 ≠ s))
  | [], _ => rfl
  | (k, v) :: l, h => by
    rw [List.map_cons, List.nodup_cons] at h
    unfold sdel
    by_cases he : s = k
    · subst he
      rw [if_pos rfl, List.filter_cons_of_neg (by simp)]
      refine (List.filter_eq_self.2 fun p hp => ?_).symm
      have : p.1 ≠ s := fun e => h.1 (List.mem_map.2 ⟨p, hp, e⟩)
      simpa using this
    · rw [if_neg he, List.filter_cons_of_pos (by simpa using fun e : k = s => he e.symm), sdel_filter s h.2]
theorem erase_s (s : ByteArray) : ∀ (es : List MapEntry) (l : List (ByteArray × Value)) (i j : Nat) (u : Value), es.map (fun e => (e.key, e.val)) = l.map (fun p => (Value.string p.1, p.2)) →
    Instr.findNow .string (.string s) es i = some (some (i + j, u)) → (es.eraseIdx j).map (fun e => (e.key, e.val)) = (sdel l s).map (fun p => (Value.string p.1, p.2)) ∧ (sdel l s).length + 1 = l.length
  | [], [], _, _, _, _, h => by simp [Instr.findNow] at h
  | e :: es, [], _, _, _, h, _ => by simp at h
  | [], p :: l, _, _, _, h, _ => by simp at h
  | e :: es, (k, v0) :: l, i, j, u, h, hf => by
    simp only [List.map_cons, List.cons.injEq, Prod.mk.injEq] at h
    obtain ⟨⟨hk, hv⟩, hr⟩ := h
    by_cases he : s = k
    · subst he
      simp [Instr.findNow, Instr.sameNow, hk, hv, ba_beq] at hf
      have hj : j = 0 := by omega
      subst hj
      simp [sdel, hr]
    · have hne : (s == k) = false := by rw [ba_beq]; simpa using he
      simp [Instr.findNow, Instr.sameNow, hk, hne] at hf
      cases j with
      | zero =>
        exfalso
        rcases findNow_s s es l (i + 1) hr with ⟨h1, _⟩ | ⟨j', u', h1, _⟩
        · rw [h1] at hf; cases hf
        · rw [h1] at hf; simp at hf; omega
      | succ j =>
        have := erase_s s es l (i + 1) j u hr (by rw [hf]; congr 3; omega)
        simp [sdel, he, hk, hv, this]
theorem smap_delete {P : Program} {w : World} {b : Nat} {l : List (ByteArray × Value)} (h : SMap w b l) (mty kt et ty : TypeId) (hm : P.underlying mty = some (.map kt et)) (hk : P.underlying kt = some .string) (s : ByteArray) :
    ∃ o, (Builtin.delete_ #[mty, kt] ty #[.map (some b), .string s]).run P w = .ok (.tuple #[]) { w with heap := w.heap.setIfInBounds b o } ∧ SMap { w with heap := w.heap.setIfInBounds b o } b (sdel l s) := by
  have hlt := h.lt
  obtain ⟨es, clock, hb, h1, hn, hp, hcl⟩ := h
  have hc : (Instr.checkKey false 10000 kt (.string s)).run P w = .ok () w := MapKept.run_checkKey (k := .string s) hk (by simp [MapKept.IsKey]) _ 9999
  have hc2 : ∀ b, (Instr.checkKey b 10000 kt (.string s)).run P w = .ok () w := fun b => MapKept.run_checkKey (k := .string s) hk (by simp [MapKept.IsKey]) _ 9999
  rcases findNow_s s es.toList l 0 h1 with ⟨h2, h3⟩ | ⟨j, u, h2, h3, h4, h5⟩
  · refine ⟨.map es clock, ?_, ?_⟩
    · simp [Builtin.delete_, run_underlying hm, MapKept.run_getObj_map hb, hc2, MapKept.run_findKey hk h2, MapKept.run_setObj_map _ hb, Result.andThen]
    · rw [sdel_none h3]
      exact ⟨_, _, setBlock_at _ hlt, h1, hn, hp, hcl⟩
  · have hsub : (es.eraseIdxIfInBounds j).toList = es.toList.eraseIdx j := by
      unfold Array.eraseIdxIfInBounds
      rw [dif_pos (by simpa using h5)]
      simp
    refine ⟨.map (es.eraseIdxIfInBounds j) clock, ?_, ?_⟩
    · simp [Builtin.delete_, run_underlying hm, MapKept.run_getObj_map hb, hc2, MapKept.run_findKey hk h2, MapKept.run_setObj_map _ hb, Result.andThen]
    · refine ⟨_, _, setBlock_at _ hlt, ?_, ?_, ?_, ?_⟩
      · rw [hsub]
        exact (erase_s s es.toList l 0 j u h1 h2).1
      · exact hn.sublist ((sdel_sub s l).map _)
      · rw [hsub]
        exact hp.sublist ((List.eraseIdx_sublist _ _).map _)
      · intro e he
        rw [hsub] at he
        exact hcl e ((List.eraseIdx_sublist _ _).subset he)
theorem Match.del {w : World} {base : Nat} {ok : Nat → Prop} {s : ByteArray} : ∀ {l : List (ByteArray × Value)} {t : List (ByteArray × NodeD)}, Match w base ok l t → Match w base ok (sdel l s) (sdel t s)
  | [], [], _ => trivial
  | (k, v0) :: l, (k', d0) :: t, ⟨h1, h2, h3⟩ => by
    subst h1
    unfold sdel
    by_cases he : s = k
    · rw [if_pos he, if_pos he]; exact h3
    · rw [if_neg he, if_neg he]; exact ⟨rfl, h2, Match.del h3⟩
  | [], _ :: _, h => h.elim
  | _ :: _, [], h => h.elim
/-- delete(t.nodes, s) -/
theorem tree_delete {w : World} {base : Nat} {ok : Nat → Prop} {g bm : Nat} {seed : Int} {t : List (ByteArray × NodeD)} (h : TreeIs w base ok g bm seed t) (s : ByteArray) (ty : TypeId) :
    ∃ w', (Builtin.delete_ #[tNodes, 9] ty #[.map (some bm), .string s]).run Tryz.prog w = .ok (.tuple #[]) w' ∧ TreeIs w' base ok g bm seed (sdel t s) ∧ KeptE w w' (fun k => k = bm) ∧ w'.heap.size = w.heap.size := by
  obtain ⟨h1, h2, h3, h4, l, h5, h6⟩ := h
  obtain ⟨o, hr, hm⟩ := smap_delete (P := Tryz.prog) h5 tNodes 9 tNode ty Tryz.underlying63 Tryz.underlying9 s
  have hk := setBlock_kept w bm o
  refine ⟨_, hr, ⟨h1, h2, h3, (hk.1.2 g (blk_lt h4) h3).trans h4, _, hm, ?_⟩, hk, by simp⟩
  exact Match.imp (fun v d hv => hv.kept hk (fun k hk => hk.2.2)) (Match.del h6)
/-- Whether a path lies below a directory. -/
def insideT (p dir : ByteArray) : Bool := (room_inside.f p dir).getD false
theorem hasPrefix_some (p q : ByteArray) : ∃ b, strings_HasPrefix.f p q = some b ∧ (p.size < q.size → b = false) ∧ (q.size ≤ p.size → b = ((p.extract 0 q.size).toList == q.toList)) := by
  unfold strings_HasPrefix.f stringslite_HasPrefix.f
  by_cases h : (p.size : Int) ≥ (q.size : Int)
  · rw [if_pos h, if_pos (by omega), if_pos (by omega)]
    exact ⟨_, rfl, fun h => by omega, fun _ => by rw [Int.toNat_natCast]⟩
  · rw [if_neg h]
    exact ⟨_, rfl, fun _ => rfl, fun h => by omega⟩
theorem inside_some (p dir : ByteArray) (h : dir.size ≤ 100000) : room_inside.f p dir = some (insideT p dir) := by
  have hs : ∃ b, room_inside.f p dir = some b := by
    obtain ⟨b, hb, _⟩ := hasPrefix_some p (dir ++ (⟨#[47]⟩ : ByteArray))
    unfold room_inside.f
    have h0 : dir.size + 1 ≤ 9223372036854775807 := by omega
    rw [if_pos h0, hb]
    split
    · split
      · exact ⟨_, rfl⟩
      · exact ⟨_, rfl⟩
    · exact ⟨_, rfl⟩
  obtain ⟨b, hb⟩ := hs
  unfold insideT
  rw [hb]
  rfl
theorem inside_any (p dir : ByteArray) (w : World) (h : dir.size ≤ 100000) : Calls Tryz.prog 61 #[.string p, .string dir] w fun e w' => e = .returned (.bool (insideT p dir)) ∧ Below w.heap.size w w' :=
  (room_inside.calls p dir _ w (inside_some p dir h)).mono (by
    rintro e w' ⟨rfl, ⟨n, rfl⟩⟩
    exact ⟨rfl, ⟨rfl, rfl, rfl, Nat.le_refl _, fun _ _ => rfl⟩⟩)
theorem inside_short {p dir : ByteArray} (h : p.size ≤ dir.size) (hd : dir.size ≠ 0) : insideT p dir = false := by
  obtain ⟨b, hb, h1, _⟩ := hasPrefix_some p (dir ++ (⟨#[47]⟩ : ByteArray))
  have hsz : (dir ++ (⟨#[47]⟩ : ByteArray)).size = dir.size + 1 := by simp [ByteArray.size_append]; rfl
  have hb0 := h1 (by rw [hsz]; omega)
  subst hb0
  unfold insideT room_inside.f
  have hne : dir.toList ≠ [] := fun e => hd (by have := congrArg List.length e; simpa [ByteArray.toList_eq] using this)
  rw [if_neg hne, hb]
  split <;> rfl
end Go.Proofs.YtkjplffpihfliaaGreatDoor
end

section
/- The contract of order.digestOf. -/
namespace Go.Proofs.YtkjplffpihfliaaGreatDoor
open Go.RowKit Go.Proofs.YtkjplffpihfliaaGreatDoorW.PrintWords PAll

set_option maxRecDepth 100000 in
theorem digestOf_any (w : World) (seed left right : Int) (k v : List Int) (A1 A2 : Option Addr) (c1 c2 : Nat)
    (hk : Kd.C (Kd.int .u8) w A1 k.length k) (hkc : k.length ≤ c1) (hv : Kd.C (Kd.int .u8) w A2 v.length v) (hvc : v.length ≤ c2) (hkl : k.length ≤ 255) (hvl : v.length ≤ 5000) :
    Calls Tryz.prog 190 #[.int .u64 seed, .int .u64 left, .slice A1 k.length c1, .slice A2 v.length c2, .int .u64 right] w fun e w' =>
      e = .returned (.int .u64 (digestOf seed left k v right)) ∧ Below w.heap.size w w' := by
  obtain ⟨i0, hi, hz0, hz1, hz2⟩ := info_parts info5
  obtain ⟨w1, hmk, hown1, hgr1⟩ := run_make_own (P := Tryz.prog) (w := w) w.heap.size 31 5 i0 (.int .u8 0) 1 Tryz.underlying31 hi hz0 hz1 .i64 .i64 (19 + k.length + v.length) (by rw [hz2]; omega) (by unfold maxLen; omega) (Nat.le_refl _)
  have hmk' : (Instr.makeSlice 31 (.int .i64 0) (.int .i64 (19 + (k.length : Int) + (v.length : Int)))).run Tryz.prog w = .ok (.slice (some ⟨w.heap.size, 0, none⟩) 0 (19 + k.length + v.length)) w1 := by
    rw [← hmk]; congr 3
  have hB1 : Below w.heap.size w w1 := (Below.refl _ _).grown hgr1 (Nat.le_refl _) (fun _ h => by cases h)
  have hb1 : Buf w1 w.heap.size _ [] := buf_of_own hown1
  clear hmk hi hz0 hz1 hz2 hgr1 hown1
  go_enter Tryz.func190, Tryz.ntmps190
  go_wp2_with fail
  refine (little_buf w w1 hB1 _ [] left 8 (by omega) (by simp) hb1).mono ?_
  rintro e w2 ⟨v2, rfl, hb2, hB2⟩
  clear hmk' hb1
  go_wp2_with (first
    | (at_builtin; refine buf_append1 (w0 := w) rfl (.tmp 22) (.tmp 26) rfl v2 _ rfl rfl hb2 hB2 (by simp [lit_length]) ?_; intro v3 w3 hb3 hB3 _; clear hb2 hB2)
    | (at_builtin; refine buf_appendN (w0 := w) rfl (.tmp 27) (.tmp 28) rfl v3 _ k A1 k.length c1 rfl rfl rfl hb3 (C_old hk hB3) hB3 ?hl ?_; (case hl => simp [lit_length]; omega); intro v4 w4 hb4 hB4 _; clear hb3 hB3)
    | fail)
  refine (little_buf w _ hB4 _ _ _ 2 (by omega) (by simp [lit_length]; omega) hb4).mono ?_
  rintro e w5 ⟨v5, rfl, hb5, hB5⟩
  clear hb4 hB4
  go_wp2_with (first
    | (at_builtin; refine buf_appendN (w0 := w) rfl (.tmp 34) (.tmp 35) rfl v5 _ v A2 v.length c2 rfl rfl rfl hb5 (C_old hv hB5) hB5 ?hl3 ?_; (case hl3 => simp [lit_length]; omega); intro v6 w6 hb6 hB6 _; clear hb5 hB5)
    | fail)
  refine (little_buf w _ hB6 _ _ _ 8 (by omega) (by simp [lit_length]; omega) hb6).mono ?_
  rintro e w7 ⟨v7, rfl, hb7, hB7⟩
  clear hb6 hB6
  obtain ⟨L, hL, hb8⟩ : ∃ L, L = digBytes left k v right ∧ Buf w7 w.heap.size v7 L := ⟨_, rfl, by simpa [digBytes, show (k.length : Int) % 256 = k.length by omega] using hb7⟩
  clear hb7
  have hl : L.length ≤ 140737488355328 := by rw [hL]; simp [digBytes, lit_length]; omega
  have HL := Lib.hid hL
  clear hL
  obtain ⟨A7, c7, rfl, hc7, hr7⟩ := hb8.reads
  go_wp2_with fail
  refine (slots_Coin.calls _ seed 4 A7 c7 L _ _ hr7 hc7 (coin_f seed 4 L hl)).mono ?_
  rintro e w8 ⟨rfl, hd⟩
  have hB8 := hB7.trans (hd.below.mono hB7.size)
  clear hd hB7 hr7 hb8
  go_wp2
  go_ret
  exact ⟨by rw [HL.out]; rfl, hB8⟩
end Go.Proofs.YtkjplffpihfliaaGreatDoor
end

section
/- A tree of nodes: what keeps it; the contract of order.fresh. -/
namespace Go.Proofs.YtkjplffpihfliaaGreatDoor
open Go.RowKit Go.Proofs.YtkjplffpihfliaaGreatDoorW.PrintWords PAll

/-- The blocks of S hold no bytes as far as 'ok' goes. -/
def NoBytes (w : World) (ok S : Nat → Prop) : Prop := ∀ i, ok i → S i → ∀ cells, w.heap[i]? ≠ some (.cells cells 5 (0, 0))
theorem BytesAt.kept {w w' : World} {base : Nat} {ok S : Nat → Prop} {v : Value} {xs : List Int} (h : BytesAt w base ok v xs) (hk : Kept w w' S) (hn : NoBytes w ok S) : BytesAt w' base ok v xs := by
  have h1 := Kd.R_bound h
  refine Kd.R_mono (Kd.R_kept h1 hk ?_) (fun _ hk => hk.1)
  rintro k ⟨h2, _, _, q, hq, cells, hc⟩ hs
  have : q = 5 := by simpa [Kd.int, Kd.scalar] using hq
  subst this
  exact hn k h2 hs cells hc
theorem IsTree.kept {w w' : World} {base : Nat} {ok S : Nat → Prop} (hk : Kept w w' S) (hn : NoBytes w ok S) : ∀ {T : Tr} {p : Option Addr} {N : List Nat}, IsTree w base ok p T N → (∀ i ∈ N, ¬ S i) → IsTree w' base ok p T N
  | .nil, _, _, h, _ => h
  | .node k v h l r sz dg, p, N, ⟨b, kv, vv, pl, pr, Nl, Nr, hp, hb, hblk, h1, h2, h3, h4, hN⟩, hS => by
    refine ⟨b, kv, vv, pl, pr, Nl, Nr, hp, hb, (hk.2 b (blk_lt hblk) (hS b (by simp [hN]))).trans hblk, h1.kept hk hn, h2.kept hk hn, IsTree.kept hk hn h3 ?_, IsTree.kept hk hn h4 ?_, hN⟩
    · intro i hi; exact hS i (by simp [hN, hi])
    · intro i hi; exact hS i (by simp [hN, hi])
theorem NoBytes.none (w : World) (ok : Nat → Prop) : NoBytes w ok (fun _ => False) := fun _ _ h => h.elim
theorem IsTree.drewN {w : World} {base : Nat} {ok : Nat → Prop} {T : Tr} {p : Option Addr} {N : List Nat} (h : IsTree w base ok p T N) (n : Nat) : IsTree (w.drewN n) base ok p T N :=
  IsTree.kept (S := fun _ => False) ((Kept.refl w _).drewN n) (NoBytes.none _ _) h (fun _ _ h => h)
theorem IsTree.drew {w : World} {base : Nat} {ok : Nat → Prop} {T : Tr} {p : Option Addr} {N : List Nat} (h : IsTree w base ok p T N) : IsTree w.drew base ok p T N :=
  IsTree.kept (S := fun _ => False) ((Kept.refl w _).drew) (NoBytes.none _ _) h (fun _ _ h => h)

/-- The cells of a node. -/
theorem node_cells {w : World} {b : Nat} {kv vv : Value} {h sz dg : Int} {pl pr : Option Addr} (hblk : w.heap[b]? = some (nodeObj kv vv h pl pr sz dg)) :
    w.cell? ⟨b, 0, none⟩ = some kv ∧ w.cell? ⟨b, 1, none⟩ = some vv ∧ w.cell? ⟨b, 2, none⟩ = some (.int .u64 h) ∧ w.cell? ⟨b, 3, none⟩ = some (.pointer pl) ∧ w.cell? ⟨b, 4, none⟩ = some (.pointer pr) ∧
      w.cell? ⟨b, 5, none⟩ = some (.int .i64 sz) ∧ w.cell? ⟨b, 6, none⟩ = some (.int .u64 dg) ∧ (∀ i, w.frozen? ⟨b, i, none⟩ = false) :=
  ⟨by rw [blk_cell hblk]; rfl, by rw [blk_cell hblk]; rfl, by rw [blk_cell hblk]; rfl, by rw [blk_cell hblk]; rfl, by rw [blk_cell hblk]; rfl, by rw [blk_cell hblk]; rfl, by rw [blk_cell hblk]; rfl, blk_frozen hblk⟩
theorem node_set3 {w : World} {b : Nat} {kv vv : Value} {h sz dg : Int} {pl pr : Option Addr} (hblk : w.heap[b]? = some (nodeObj kv vv h pl pr sz dg)) (q : Option Addr) :
    (w.setCell ⟨b, 3, none⟩ (.pointer q)).heap[b]? = some (nodeObj kv vv h q pr sz dg) := blk_set hblk 3 _
theorem node_set4 {w : World} {b : Nat} {kv vv : Value} {h sz dg : Int} {pl pr : Option Addr} (hblk : w.heap[b]? = some (nodeObj kv vv h pl pr sz dg)) (q : Option Addr) :
    (w.setCell ⟨b, 4, none⟩ (.pointer q)).heap[b]? = some (nodeObj kv vv h pl q sz dg) := blk_set hblk 4 _
theorem node_set5 {w : World} {b : Nat} {kv vv : Value} {h sz dg : Int} {pl pr : Option Addr} (hblk : w.heap[b]? = some (nodeObj kv vv h pl pr sz dg)) (q : Int) :
    (w.setCell ⟨b, 5, none⟩ (.int .i64 q)).heap[b]? = some (nodeObj kv vv h pl pr q dg) := blk_set hblk 5 _
theorem node_set6 {w : World} {b : Nat} {kv vv : Value} {h sz dg : Int} {pl pr : Option Addr} (hblk : w.heap[b]? = some (nodeObj kv vv h pl pr sz dg)) (q : Int) :
    (w.setCell ⟨b, 6, none⟩ (.int .u64 q)).heap[b]? = some (nodeObj kv vv h pl pr sz q) := blk_set hblk 6 _

set_option maxRecDepth 100000 in
theorem fresh_any (w0 w : World) (hB : Below w0.heap.size w0 w) (ok : Nat → Prop) (bm b : Nat) (seed : Int) (kv vv : Value) (k v : List Int) (h sz dg : Int) (l r : Tr) (pl pr : Option Addr) (Nl Nr : List Nat)
    (hm : w.cell? ⟨bm, 1, none⟩ = some (.int .u64 seed)) (hmb : bm ≠ b) (hb : w0.heap.size ≤ b) (hblk : w.heap[b]? = some (nodeObj kv vv h pl pr sz dg))
    (hk : BytesAt w w0.heap.size ok kv k) (hv : BytesAt w w0.heap.size ok vv v) (hl : IsTree w w0.heap.size ok pl l Nl) (hr : IsTree w w0.heap.size ok pr r Nr)
    (hkl : k.length ≤ 64) (hvl : v.length ≤ 1000) (hNl : ∀ i ∈ Nl, ¬ i = b) (hNr : ∀ i ∈ Nr, ¬ i = b) (h1 : 0 ≤ l.size) (h2 : l.size ≤ 1000000) (h3 : 0 ≤ r.size) (h4 : r.size ≤ 1000000) :
    Calls Tryz.prog 158 #[.pointer (some ⟨bm, 0, none⟩), .pointer (some ⟨b, 0, none⟩)] w fun e w' =>
      e = .returned (.pointer (some ⟨b, 0, none⟩)) ∧ w'.heap[b]? = some (nodeObj kv vv h pl pr (1 + l.size + r.size) (digestOf seed l.dig k v r.dig)) ∧ Below w0.heap.size w0 w' ∧ Kept w w' (fun i => i = b) := by
  have c3 := blk_cell hblk 3
  have c4 := blk_cell hblk 4
  have c5 := blk_cell hblk 5
  have f5 := blk_frozen hblk 5
  unfold nodeObj at hblk
  simp at c3 c4 c5
  have s3 : ∀ u, (w.setCell ⟨b, 5, none⟩ u).cell? ⟨b, 3, none⟩ = some (.pointer pl) := fun u => by rw [blk_cell (blk_set hblk 5 u) 3]; simp
  have s4 : ∀ u, (w.setCell ⟨b, 5, none⟩ u).cell? ⟨b, 4, none⟩ = some (.pointer pr) := fun u => by rw [blk_cell (blk_set hblk 5 u) 4]; simp
  have e1 : IntKind.i64.wrap (1 + l.size) = 1 + l.size := IntWalk.i64_in _ (by omega)
  have e2 : IntKind.i64.wrap (1 + l.size + r.size) = 1 + l.size + r.size := IntWalk.i64_in _ (by omega)
  have cl := count_any w.drew _ _ _ _ _ hl.drew
  have cr := count_any w.drew _ _ _ _ _ hr.drew
  go_enter Tryz.func158, Tryz.ntmps158
  go_wp2
  go_region_held3 (fun w' => w'.cell? ⟨b, 3, none⟩ = some (.pointer pl) ∧ w'.cell? ⟨b, 4, none⟩ = some (.pointer pr)) (go_keep)
    (first | ((with_reducible refine (cl).mono ?_); rintro e w' ⟨rfl, rfl⟩) | ((with_reducible refine (cr).mono ?_); rintro e w' ⟨rfl, rfl⟩))
  have hblk1 : (w.setCell ⟨b, 5, none⟩ (.int .i64 (1 + l.size + r.size))).drew.heap[b]? = some (nodeObj kv vv h pl pr (1 + l.size + r.size) dg) := blk_set hblk 5 _
  have hk1 : Kept w (w.setCell ⟨b, 5, none⟩ (.int .i64 (1 + l.size + r.size))).drew (fun i => i = b) := (Kept.setCell (S := fun i => i = b) (Kept.refl w (fun i => i = b)) (p := ⟨b, 5, none⟩) (.inl rfl) _).drew
  have hB1 : Below w0.heap.size w0 (w.setCell ⟨b, 5, none⟩ (.int .i64 (1 + l.size + r.size))).drew := (hB.setCell (p := ⟨b, 5, none⟩) hb _).drew
  clear s3 s4 cl cr e1 e2 c3 c4 c5 f5
  generalize (w.setCell ⟨b, 5, none⟩ (.int .i64 (1 + l.size + r.size))).drew = w1 at *
  have hn : NoBytes w ok (fun i => i = b) := fun i _ hi cells => by subst hi; rw [hblk]; simp
  have hk2 := (hk.kept hk1 hn).kept (S := fun _ => False) ((Kept.refl w1 _).drew) (NoBytes.none _ _)
  have hv2 := (hv.kept hk1 hn).kept (S := fun _ => False) ((Kept.refl w1 _).drew) (NoBytes.none _ _)
  obtain ⟨A1, c1, rfl, hc1, hr1⟩ := Kd.R_reads hk2
  obtain ⟨A2, c2, rfl, hc2, hr2⟩ := Kd.R_reads hv2
  have hm1 : w1.cell? ⟨bm, 1, none⟩ = some (.int .u64 seed) := cell_kept hm hk1 hmb
  obtain ⟨c0, c1', _, c3, c4, _, _, _⟩ := node_cells hblk1
  have sl := sum_any w1.drew _ _ _ _ _ (IsTree.kept hk1 hn hl hNl).drew
  have sr := sum_any w1.drew _ _ _ _ _ (IsTree.kept hk1 hn hr hNr).drew
  have dg := (digestOf_any w1.drew seed l.dig r.dig k v A1 A2 c1 c2 hr1 hc1 hr2 hc2 (by omega) (by omega)).mono (R' := fun e w2 => e = .returned (.int .u64 (digestOf seed l.dig k v r.dig)) ∧
      w2.cell? ⟨bm, 1, none⟩ = some (.int .u64 seed) ∧ w2.heap[b]? = some (nodeObj (.slice A1 k.length c1) (.slice A2 v.length c2) h pl pr (1 + l.size + r.size) dg) ∧ Aside0 (Below w1.heap.size w1 w2))
    (fun e w2 ⟨he, (hB2 : Below w1.heap.size w1.drew w2)⟩ => ⟨he, (hB2.cell (World.block_lt_of_cell? _ _ hm1)).trans hm1, (hB2.block _ (blk_lt hblk1)).trans hblk1, ⟨⟨hB2.os, hB2.tape, hB2.output, hB2.size, hB2.block⟩⟩⟩)
  clear hk hv hl hr hk2 hv2 hm hblk hr1 hr2
  go_wp2
  go_region_held3 (fun w' => w'.cell? ⟨bm, 1, none⟩ = some (.int .u64 seed) ∧ w'.cell? ⟨b, 0, none⟩ = some (.slice A1 k.length c1) ∧ w'.cell? ⟨b, 1, none⟩ = some (.slice A2 v.length c2) ∧ w'.cell? ⟨b, 3, none⟩ = some (.pointer pl) ∧ w'.cell? ⟨b, 4, none⟩ = some (.pointer pr)) (go_keep)
    (first | ((with_reducible refine (sl).mono ?_); rintro e w' ⟨rfl, rfl⟩) | ((with_reducible refine (sr).mono ?_); rintro e w' ⟨rfl, rfl⟩) | ((with_reducible refine (dg).mono ?_); rintro e w2 ⟨rfl, d1, hblk2, hB2⟩; obtain ⟨d2, d3, _, d4, d5, _, d6, d7⟩ := node_cells hblk2; have d8 := d7 6; obtain ⟨q2, q3, _, q4, q5, _, _, _⟩ := node_cells (node_set6 hblk2 (digestOf seed l.dig k v r.dig)); have q1 : (w2.setCell ⟨b, 6, none⟩ (.int .u64 (digestOf seed l.dig k v r.dig))).cell? ⟨bm, 1, none⟩ = some (.int .u64 seed) := (World.cell?_setCell_other w2 ⟨b, 6, none⟩ ⟨bm, 1, none⟩ _ (by intro e; cases e)).trans d1))
  have HB := hB2.out
  have hw3 : (w2.setCell ⟨b, 6, none⟩ (.int .u64 (digestOf seed l.dig k v r.dig))).heap[b]? = some (nodeObj (.slice A1 k.length c1) (.slice A2 v.length c2) h pl pr (1 + l.size + r.size) (digestOf seed l.dig k v r.dig)) := node_set6 hblk2 _
  have hB3 : Below w0.heap.size w0 (w2.setCell ⟨b, 6, none⟩ (.int .u64 (digestOf seed l.dig k v r.dig))) := (hB1.trans (HB.mono hB1.size)).setCell (p := ⟨b, 6, none⟩) hb _
  have hk3 : Kept w (w2.setCell ⟨b, 6, none⟩ (.int .u64 (digestOf seed l.dig k v r.dig))) (fun i => i = b) := Kept.setCell (hk1.below HB) (p := ⟨b, 6, none⟩) (.inl rfl) _
  have P : Aside0 _ := ⟨And.intro hw3 (And.intro hB3 hk3)⟩
  clear hB1 hB2 HB hk1 hn hw3 hB3 hk3 d1 d2 d3 d4 d5 d6 d7 d8 q1 q2 q3 q4 q5 hblk1 hblk2 c0 c1' c3 c4 hm1 sl sr dg
  go_wp2
  go_ret
  exact ⟨rfl, P.out.1, P.out.2.1, P.out.2.2⟩
end Go.Proofs.YtkjplffpihfliaaGreatDoor
end

section
/- bytes.Compare on slices of bytes. -/
namespace Go.Proofs.YtkjplffpihfliaaGreatDoor
open Go.RowKit Go.Proofs.YtkjplffpihfliaaGreatDoorW.PrintWords PAll

/-- How two keys compare. -/
def cmpI (a b : List Int) : Int := Lib.compareBytes (Lib.bytesOf a) (Lib.bytesOf b)

theorem C_cells {w : World} {A : Option Addr} {n : Nat} {xs : List Int} (h : Kd.C (Kd.int .u8) w A n xs) : xs.length = n ∧ ∀ i, i < n → ∃ ad, A = some ad ∧ w.cell? (ad.add i) = some (.int .u8 (xs.getD i 0)) :=
  have h' : ReadsOf (Value.int .u8) 0 w A n xs := Kd.reads_of_C h
  ⟨h'.1, fun i hi => let ⟨ad, e, hc⟩ := h'.2.2 (by omega); ⟨ad, e, hc i hi⟩⟩
theorem run_bytesOf_C {P : Program} {w : World} {A : Option Addr} {c : Nat} {xs : List Int} (h : Kd.C (Kd.int .u8) w A xs.length xs) :
    (Extern.Bytes.bytesOf (.slice A xs.length c)).run P w = .ok (⟨(Lib.bytesOf xs).toArray⟩) w := by
  obtain ⟨_, h⟩ := C_cells h
  cases A with
  | none =>
    have h0 : xs = [] := by
      cases xs with
      | nil => rfl
      | cons x l => obtain ⟨ad, e, _⟩ := h 0 (by simp); cases e
    subst h0
    rfl
  | some a =>
    have := Lib.run_loadBytesX (P := P) w xs a .empty (fun j x hj => by
      have hjl : j < xs.length := (List.getElem?_eq_some_iff.1 hj).1
      obtain ⟨ad, e, hc⟩ := h j hjl
      cases e
      rw [hc, List.getD_eq_getElem?_getD, hj]; rfl)
    simpa [Extern.Bytes.bytesOf] using this
theorem run_compareBytes {P : Program} {w : World} {A1 A2 : Option Addr} {c1 c2 : Nat} {xs ys : List Int} (h1 : Kd.C (Kd.int .u8) w A1 xs.length xs) (h2 : Kd.C (Kd.int .u8) w A2 ys.length ys) :
    (Extern.BytealgCompare.compare #[.slice A1 xs.length c1, .slice A2 ys.length c2]).run P w = .ok (.int .i64 (cmpI xs ys)) w := by
  change Sem.run P (do pure (goInt (Extern.BytealgCompare.cmp (← Extern.Bytes.bytesOf (.slice A1 xs.length c1)) (← Extern.Bytes.bytesOf (.slice A2 ys.length c2))))) w = _
  simp only [Sem.run_bind, run_bytesOf_C h1, run_bytesOf_C h2, Sem.run_pure, Result.andThen]
  rw [Lib.cmp_eq]
  rfl

set_option maxRecDepth 100000 in
theorem compare_any (w : World) (A1 A2 : Option Addr) (c1 c2 : Nat) (xs ys : List Int) (h1 : Kd.C (Kd.int .u8) w A1 xs.length xs) (h2 : Kd.C (Kd.int .u8) w A2 ys.length ys) :
    Calls Tryz.prog 156 #[.slice A1 xs.length c1, .slice A2 ys.length c2] w fun e w' => e = .returned (.int .i64 (cmpI xs ys)) ∧ w = w' := by
  have hr := run_compareBytes (P := Tryz.prog) (c1 := c1) (c2 := c2) h1 h2
  go_enter Tryz.func156, Tryz.ntmps156
  go_wp2
  rw [run_callFunc_extern Tryz.func189 (by kernel_rfl) (by kernel_rfl) (by kernel_rfl) (e := Extern.BytealgCompare.compare) (by kernel_rfl), hr]
  simp only [Result.andThen]
  rw [Oper.upon_value]
  go_wp2
  go_ret
  exact ⟨rfl, rfl⟩
end Go.Proofs.YtkjplffpihfliaaGreatDoor
end

section
/- The contracts of order.above, side, find. -/
namespace Go.Proofs.YtkjplffpihfliaaGreatDoor
open Go.RowKit Go.Proofs.YtkjplffpihfliaaGreatDoorW.PrintWords PAll

/-- Whether a node stands above another one. -/
def aboveB (h1 : Int) (k1 : List Int) (h2 : Int) (k2 : List Int) : Bool := if h1 = h2 then decide (cmpI k1 k2 < 0) else decide (h2 < h1)

theorem quiet_add_left {P : Program} {f : FuncId} {args : Array Value} {w : World} {a n : Nat} {v : Value}
    (h : Calls P f args (w.drewN (a + n)) fun e w' => e = .returned v ∧ w.drewN (a + n) = w') :
    Calls P f args (w.drewN (a + n)) fun e w'' => e = .returned v ∧ ∃ m, w'' = w.drewN (a + m) :=
  h.mono fun _ _ ⟨he, hm⟩ => ⟨he, n, hm.symm⟩
theorem quiet_left {P : Program} {f : FuncId} {args : Array Value} {w : World} {n : Nat} {v : Value}
    (h : Calls P f args (w.drewN n) fun e w' => e = .returned v ∧ w.drewN n = w') : Calls P f args (w.drewN n) fun e w'' => e = .returned v ∧ ∃ m, w'' = w.drewN m :=
  h.mono fun _ _ ⟨he, hm⟩ => ⟨he, n, hm.symm⟩

set_option maxRecDepth 100000 in
theorem above_any (w : World) (b1 b2 : Nat) (A1 A2 : Option Addr) (c1 c2 : Nat) (vv1 vv2 : Value) (h1 h2 s1 s2 d1 d2 : Int) (pl1 pr1 pl2 pr2 : Option Addr) (k1 k2 : List Int)
    (hb1 : w.heap[b1]? = some (nodeObj (.slice A1 k1.length c1) vv1 h1 pl1 pr1 s1 d1)) (hb2 : w.heap[b2]? = some (nodeObj (.slice A2 k2.length c2) vv2 h2 pl2 pr2 s2 d2))
    (hk1 : Kd.C (Kd.int .u8) w A1 k1.length k1) (hk2 : Kd.C (Kd.int .u8) w A2 k2.length k2) :
    Calls Tryz.prog 159 #[.pointer (some ⟨b1, 0, none⟩), .pointer (some ⟨b2, 0, none⟩)] w fun e w' => e = .returned (.bool (aboveB h1 k1 h2 k2)) ∧ ∃ n, w' = w.drewN n := by
  obtain ⟨x0, x1, x2, x3, x4, x5, x6, _⟩ := node_cells hb1
  obtain ⟨y0, y1, y2, y3, y4, y5, y6, _⟩ := node_cells hb2
  have hc := fun (n : Nat) => compare_any (w.drewN n) A1 A2 c1 c2 k1 k2 (Kd.C_drewN hk1 n) (Kd.C_drewN hk2 n)
  clear hb1 hb2 hk1 hk2
  by_cases h : h1 = h2
  · have e1 : (h1 != h2) = false := by simp [h]
    have e2 : aboveB h1 k1 h2 k2 = decide (cmpI k1 k2 < 0) := by simp [aboveB, h]
    rw [e2]
    clear h e2
    go_enter Tryz.func159, Tryz.ntmps159
    go_wp2
    go_quiet (fail)
    go_wp2
    go_quiet ((go_at_call 156; exact quiet_add_left (hc _)))
    go_wp2
    go_ret
    exact ⟨rfl, _, World.drewN_drewN _ _ _⟩
  · have e1 : (h1 != h2) = true := by simpa using h
    have e2 : aboveB h1 k1 h2 k2 = decide (h2 < h1) := by simp [aboveB, h]
    rw [e2]
    clear h e2
    go_enter Tryz.func159, Tryz.ntmps159
    go_wp2
    go_quiet (fail)
    go_wp2
    go_quiet (fail)
    go_wp2
    go_ret
    exact ⟨rfl, _, World.drewN_drewN _ _ _⟩

/-- The child to which a comparison leads. -/
theorem side_any (w : World) (b : Nat) (c : Int) (kv vv : Value) (h sz dg : Int) (pl pr : Option Addr) (hblk : w.heap[b]? = some (nodeObj kv vv h pl pr sz dg)) :
    Calls Tryz.prog 157 #[.pointer (some ⟨b, 0, none⟩), .int .i64 c] w fun e w' => e = .returned (.pointer (if c < 0 then pl else pr)) ∧ w = w' := by
  obtain ⟨_, _, _, x3, x4, _, _, _⟩ := node_cells hblk
  clear hblk
  by_cases hc : c < 0
  · rw [if_pos hc]
    go_enter Tryz.func157, Tryz.ntmps157
    go_wp2
    go_ret
    exact ⟨rfl, rfl⟩
  · rw [if_neg hc]
    go_enter Tryz.func157, Tryz.ntmps157
    go_wp2
    go_ret
    exact ⟨rfl, rfl⟩

theorem mreal_any (w : World) (bm : Nat) (hm : w.cell? ⟨bm, 0, none⟩ = some (.bool true)) :
    Calls Tryz.prog 111 #[.pointer (some ⟨bm, 0, none⟩)] w fun e w' => e = .returned (.bool true) ∧ w = w' := by
  go_enter Tryz.func111, Tryz.ntmps111
  go_wp2
  go_ret
  exact ⟨rfl, rfl⟩

namespace Tr
def depth : Tr → Nat
  | .nil => 0
  | .node _ _ _ l r _ _ => max l.depth r.depth + 1
/-- Whether a search finds a key. -/
def has (key : List Int) : Tr → Bool
  | .nil => false
  | .node k _ _ l r _ _ => if cmpI key k = 0 then true else if cmpI key k < 0 then l.has key else r.has key
end Tr
theorem IsTree.nil_iff {w : World} {base : Nat} {ok : Nat → Prop} {p : Option Addr} {T : Tr} {N : List Nat} (h : IsTree w base ok p T N) : p = none ↔ T = .nil := by
  cases T with
  | nil => obtain ⟨rfl, _⟩ := h; simp
  | node k v hh l r sz dg => obtain ⟨b, kv, vv, pl, pr, Nl, Nr, rfl, _⟩ := h; simp

set_option maxRecDepth 100000 in
theorem find_any (w : World) (base : Nat) (ok : Nat → Prop) (bm : Nat) (p : Option Addr) (T : Tr) (N : List Nat) (A : Option Addr) (c : Nat) (key : List Int)
    (hm0 : w.cell? ⟨bm, 0, none⟩ = some (.bool true)) (hm2 : w.cell? ⟨bm, 2, none⟩ = some (.pointer p)) (hT : IsTree w base ok p T N) (hk : Kd.C (Kd.int .u8) w A key.length key) :
    Calls Tryz.prog 112 #[.pointer (some ⟨bm, 0, none⟩), .slice A key.length c] w fun e w' => ∃ q, e = .returned (.pointer q) ∧ (q = none ↔ T.has key = false) ∧ w = w' := by
  go_enter Tryz.func112, Tryz.ntmps112
  go_wp2_with (go_at_call 111; refine (mreal_any _ _ hm0).mono ?_; rintro e w' ⟨rfl, rfl⟩)
  go_loopg [5, 6] T.depth (fun kq v5 v6 w' => ∃ (p1 : Option Addr) (T1 : Tr) (N1 : List Nat), v5 = .pointer p1 ∧ IsTree w base ok p1 T1 N1 ∧ Aside0 (T1.depth ≤ kq) ∧ Aside0 (T1.has key = T.has key) ∧ w = w')
  case atStart => exact ⟨p, T, N, rfl, hT, ⟨Nat.le_refl _⟩, ⟨rfl⟩, rfl⟩
  case round =>
    obtain ⟨p1, T1, N1, rfl, hT1, HD, HH, rfl⟩ := hrel
    cases T1 with
    | nil =>
      obtain ⟨rfl, _⟩ := hT1
      go_wp2
      go_ret
      exact ⟨none, rfl, by have := HH.out; simp [Tr.has] at this; simp [← this], rfl⟩
    | node k v hh l r sz dg =>
      obtain ⟨b, kv, vv, pl, pr, Nl, Nr, rfl, hb, hblk, h1, h2, h3, h4, hN⟩ := hT1
      obtain ⟨A1, c1, rfl, hc1, hr1⟩ := Kd.R_reads h1
      cases gk with
      | zero => exact absurd HD.out (by simp [Tr.depth])
      | succ gk =>
      have hd := HD.out
      simp only [Tr.depth] at hd
      obtain ⟨x0, _, _, x3, x4, _, _, _⟩ := node_cells hblk
      have hcmp := compare_any w A A1 c c1 key k hk hr1
      have hside := side_any w b (cmpI key k) _ _ _ _ _ _ _ hblk
      by_cases e0 : cmpI key k = 0
      · have H : Tr.has key T = true := by rw [← HH.out]; simp [Tr.has, e0]
        have H' := Aside0.mk H
        have e1 : (cmpI key k == 0) = true := by simp [e0]
        clear HH HD hd h1 h2 h3 h4 hr1 H hT e0 hside
        go_wp2_with (go_at_call 156; refine hcmp.mono ?_; rintro e w' ⟨rfl, rfl⟩)
        go_ret
        exact ⟨_, rfl, by simp [H'.out], rfl⟩
      · have e1 : (cmpI key k == 0) = false := by simp [e0]
        have HR : ∃ p2 T2 N2, (if cmpI key k < 0 then pl else pr) = p2 ∧ IsTree w base ok p2 T2 N2 ∧ T2.depth ≤ gk ∧ T2.has key = T.has key := by
          by_cases hlt : cmpI key k < 0
          · exact ⟨pl, l, Nl, by simp [hlt], h3, by omega, by rw [← HH.out]; simp [Tr.has, e0, hlt]⟩
          · exact ⟨pr, r, Nr, by simp [hlt], h4, by omega, by rw [← HH.out]; simp [Tr.has, e0, hlt]⟩
        obtain ⟨p2, T2, N2, hp2, hT2, hD2, hH2⟩ := HR
        rw [hp2] at hside
        have HP := Aside0.mk (And.intro hD2 hH2)
        clear HH HD hd h1 h2 h3 h4 hr1 hT e0 hp2 hD2 hH2
        go_wp2_with (first | (go_at_call 156; refine hcmp.mono ?_; rintro e w' ⟨rfl, rfl⟩) | (go_at_call 157; refine hside.mono ?_; rintro e w' ⟨rfl, rfl⟩))
        go_roundg gk
        case measure => omega
        case rel => exact ⟨p2, T2, N2, rfl, hT2, ⟨HP.out.1⟩, ⟨HP.out.2⟩, rfl⟩
end Go.Proofs.YtkjplffpihfliaaGreatDoor
end

section
/- The contract of order.split. -/
namespace Go.Proofs.YtkjplffpihfliaaGreatDoor
open Go.RowKit Go.Proofs.YtkjplffpihfliaaGreatDoorW.PrintWords PAll

def mapObj (seed : Int) (root : Option Addr) : Obj := .cells #[.bool true, .int .u64 seed, .pointer root] 171 (0, 0)
theorem map_cells {w : World} {b : Nat} {seed : Int} {root : Option Addr} (h : w.heap[b]? = some (mapObj seed root)) :
    w.cell? ⟨b, 0, none⟩ = some (.bool true) ∧ w.cell? ⟨b, 1, none⟩ = some (.int .u64 seed) ∧ w.cell? ⟨b, 2, none⟩ = some (.pointer root) ∧ (∀ i, w.frozen? ⟨b, i, none⟩ = false) :=
  ⟨by rw [blk_cell h]; rfl, by rw [blk_cell h]; rfl, by rw [blk_cell h]; rfl, blk_frozen h⟩

namespace Tr
def fresh (seed : Int) (k v : List Int) (h : Int) (l r : Tr) : Tr := .node k v h l r (1 + l.size + r.size) (digestOf seed l.dig k v r.dig)
def split (seed : Int) (key : List Int) : Tr → Tr × Tr
  | .nil => (.nil, .nil)
  | .node k v h l r _ _ => if cmpI k key < 0 then (fresh seed k v h l (r.split seed key).1, (r.split seed key).2) else ((l.split seed key).1, fresh seed k v h (l.split seed key).2 r)
def cnt : Tr → Nat
  | .nil => 0
  | .node _ _ _ l r _ _ => 1 + l.cnt + r.cnt
/-- Lengths are in bounds, and the sizes are told rightly. -/
def Ok : Tr → Prop
  | .nil => True
  | .node k v _ l r sz _ => k.length ≤ 64 ∧ v.length ≤ 1000 ∧ sz = 1 + l.size + r.size ∧ l.Ok ∧ r.Ok
theorem Ok.size : ∀ {T : Tr}, T.Ok → T.size = T.cnt
  | .nil, _ => rfl
  | .node k v h l r sz dg, ⟨_, _, h3, h4, h5⟩ => by
    have e1 := Ok.size h4
    have e2 := Ok.size h5
    show sz = _
    rw [h3, e1, e2]
    simp [cnt]
theorem Ok.fresh {seed : Int} {k v : List Int} {h : Int} {l r : Tr} (h1 : k.length ≤ 64) (h2 : v.length ≤ 1000) (h3 : l.Ok) (h4 : r.Ok) : (fresh seed k v h l r).Ok := ⟨h1, h2, rfl, h3, h4⟩
theorem Ok.split (seed : Int) (key : List Int) : ∀ {T : Tr}, T.Ok → (T.split seed key).1.Ok ∧ (T.split seed key).2.Ok
  | .nil, _ => ⟨trivial, trivial⟩
  | .node k v h l r sz dg, ⟨h1, h2, h3, h4, h5⟩ => by
    simp only [Tr.split]
    split
    · exact ⟨Ok.fresh h1 h2 h4 (Ok.split seed key h5).1, (Ok.split seed key h5).2⟩
    · exact ⟨(Ok.split seed key h4).1, Ok.fresh h1 h2 (Ok.split seed key h4).2 h5⟩
theorem cnt_split (seed : Int) (key : List Int) : ∀ (T : Tr), (T.split seed key).1.cnt + (T.split seed key).2.cnt = T.cnt
  | .nil => rfl
  | .node k v h l r sz dg => by
    have e1 := cnt_split seed key l
    have e2 := cnt_split seed key r
    simp only [Tr.split]
    split <;> simp [Tr.fresh, cnt] <;> omega
end Tr

theorem IsTree.types {w : World} {base : Nat} {ok : Nat → Prop} : ∀ {T : Tr} {p : Option Addr} {N : List Nat}, IsTree w base ok p T N → ∀ i ∈ N, base ≤ i ∧ ∃ cells, w.heap[i]? = some (.cells cells 174 (0, 0))
  | .nil, _, _, ⟨_, hN⟩ => by simp [hN]
  | .node k v h l r sz dg, p, N, ⟨b, kv, vv, pl, pr, Nl, Nr, hp, hb, hblk, h1, h2, h3, h4, hN⟩ => by
    intro i hi
    rw [hN] at hi
    simp only [List.mem_cons, List.mem_append] at hi
    rcases hi with rfl | hi | hi
    · exact ⟨hb, _, hblk⟩
    · exact IsTree.types h3 i hi
    · exact IsTree.types h4 i hi
theorem IsTree.noBytes {w : World} {base : Nat} {ok ok' : Nat → Prop} {T : Tr} {p : Option Addr} {N : List Nat} (h : IsTree w base ok p T N) : NoBytes w ok' (fun i => i ∈ N) := by
  intro i _ hi cells
  obtain ⟨_, c, hc⟩ := h.types i hi
  rw [hc]; simp
theorem IsTree.ne_map {w : World} {base : Nat} {ok : Nat → Prop} {T : Tr} {p : Option Addr} {N : List Nat} (h : IsTree w base ok p T N) {bm : Nat} {seed : Int} {root : Option Addr} (hm : w.heap[bm]? = some (mapObj seed root)) : bm ∉ N := by
  intro hi
  obtain ⟨_, c, hc⟩ := h.types bm hi
  rw [hm] at hc
  simp [mapObj] at hc

theorem noBytes_node {w : World} {ok : Nat → Prop} {b : Nat} {kv vv : Value} {h sz dg : Int} {pl pr : Option Addr} (hblk : w.heap[b]? = some (nodeObj kv vv h pl pr sz dg)) : NoBytes w ok (fun i => i = b) :=
  fun i _ hi cells => by subst hi; rw [hblk]; simp [nodeObj]
theorem kept_set {w : World} {b j : Nat} (u : Value) : Kept w (w.setCell ⟨b, j, none⟩ u) (fun i => i = b) := Kept.setCell (S := fun i => i = b) (Kept.refl w (fun i => i = b)) (p := ⟨b, j, none⟩) (.inl rfl) u
theorem map_kept {w w' : World} {S : Nat → Prop} {bm : Nat} {seed : Int} {root : Option Addr} (hm : w.heap[bm]? = some (mapObj seed root)) (hk : Kept w w' S) (h : ¬ S bm) : w'.heap[bm]? = some (mapObj seed root) := (hk.2 bm (blk_lt hm) h).trans hm
theorem node_ne_map {w : World} {b bm : Nat} {kv vv : Value} {h sz dg seed : Int} {pl pr root : Option Addr} (hblk : w.heap[b]? = some (nodeObj kv vv h pl pr sz dg)) (hm : w.heap[bm]? = some (mapObj seed root)) : bm ≠ b := by
  intro e; subst e; rw [hm] at hblk; simp [mapObj, nodeObj] at hblk

/-- order.fresh at a node whose children are trees: a tree stands there. -/
theorem fresh_tree (w0 w : World) (hB : Below w0.heap.size w0 w) (ok : Nat → Prop) (bm b : Nat) (seed : Int) (root : Option Addr) (kv vv : Value) (k v : List Int) (h sz dg : Int) (l r : Tr) (pl pr : Option Addr) (Nl Nr : List Nat)
    (hm : w.heap[bm]? = some (mapObj seed root)) (hb : w0.heap.size ≤ b) (hblk : w.heap[b]? = some (nodeObj kv vv h pl pr sz dg))
    (hk : BytesAt w w0.heap.size ok kv k) (hv : BytesAt w w0.heap.size ok vv v) (hl : IsTree w w0.heap.size ok pl l Nl) (hr : IsTree w w0.heap.size ok pr r Nr)
    (hkl : k.length ≤ 64) (hvl : v.length ≤ 1000) (hol : l.Ok) (hor : r.Ok) (hcl : l.cnt ≤ 1000000) (hcr : r.cnt ≤ 1000000) (hNl : b ∉ Nl) (hNr : b ∉ Nr) :
    Calls Tryz.prog 158 #[.pointer (some ⟨bm, 0, none⟩), .pointer (some ⟨b, 0, none⟩)] w fun e w' =>
      e = .returned (.pointer (some ⟨b, 0, none⟩)) ∧ IsTree w' w0.heap.size ok (some ⟨b, 0, none⟩) (Tr.fresh seed k v h l r) (b :: (Nl ++ Nr)) ∧ Below w0.heap.size w0 w' ∧ Kept w w' (fun i => i = b) := by
  have e1 := hol.size
  have e2 := hor.size
  have H1 : ∀ i ∈ Nl, ¬ i = b := fun i hi e => hNl (e ▸ hi)
  have H2 : ∀ i ∈ Nr, ¬ i = b := fun i hi e => hNr (e ▸ hi)
  refine (fresh_any w0 w hB ok bm b seed kv vv k v h sz dg l r pl pr Nl Nr (map_cells hm).2.1 (node_ne_map hblk hm) hb hblk hk hv hl hr hkl hvl H1 H2 (by omega) (by omega) (by omega) (by omega)).mono ?_
  rintro e w' ⟨he, h1, h2, h3⟩
  have hn := noBytes_node (ok := ok) hblk
  exact ⟨he, ⟨b, kv, vv, pl, pr, Nl, Nr, rfl, hb, h1, hk.kept h3 hn, hv.kept h3 hn, hl.kept h3 hn H1, hr.kept h3 hn H2, rfl⟩, h2, h3⟩

set_option maxRecDepth 100000 in
theorem split_any (w0 : World) (ok : Nat → Prop) (bm : Nat) (seed : Int) (root : Option Addr) (key : List Int) (A : Option Addr) (c : Nat) (T : Tr) : ∀ (w : World) (p : Option Addr) (N : List Nat)
    (hB : Below w0.heap.size w0 w) (hm : w.heap[bm]? = some (mapObj seed root)) (hT : IsTree w w0.heap.size ok p T N) (hN : N.Nodup) (hOk : T.Ok) (hc : T.cnt ≤ 1000000)
    (hk : ∀ W, Kept w W (fun i => i ∈ N) → Kd.C (Kd.int .u8) W A key.length key),
    Calls Tryz.prog 160 #[.pointer (some ⟨bm, 0, none⟩), .pointer p, .slice A key.length c] w fun e w' => ∃ p1 p2 N1 N2, e = .returned (.tuple #[.pointer p1, .pointer p2]) ∧
      IsTree w' w0.heap.size ok p1 (T.split seed key).1 N1 ∧ IsTree w' w0.heap.size ok p2 (T.split seed key).2 N2 ∧ (N1 ++ N2).Perm N ∧ Below w0.heap.size w0 w' ∧ Kept w w' (fun i => i ∈ N) := by
  induction T with
  | nil =>
    intro w p N hB hm hT hN hOk hc hk
    obtain ⟨rfl, rfl⟩ := hT
    go_enter Tryz.func160, Tryz.ntmps160
    go_wp2
    go_ret2
    exact ⟨none, none, [], [], rfl, ⟨rfl, rfl⟩, ⟨rfl, rfl⟩, by simp, hB, Kept.refl _ _⟩
  | node k v h l r sz dg ihl ihr =>
    intro w p N hB hm hT hN hOk hc hk
    have hT0 := hT
    obtain ⟨b, kv, vv, pl, pr, Nl, Nr, rfl, hb, hblk, h1, h2, h3, h4, rfl⟩ := hT
    obtain ⟨A1, c1, rfl, hc1, hr1⟩ := Kd.R_reads h1
    obtain ⟨hkl, hvl, hsz, hol, hor⟩ := hOk
    simp only [Tr.cnt] at hc
    have hkw := hk w (Kept.refl _ _)
    have hcmp := compare_any w A1 A c1 c k key hr1 hkw
    obtain ⟨_, _, _, x3, x4, _, _, xf⟩ := node_cells hblk
    obtain ⟨x0, _, _, _, _, _, _, _⟩ := node_cells hblk
    have hNd := List.nodup_cons.1 hN
    have hNa := List.nodup_append.1 hNd.2
    by_cases hlt : cmpI k key < 0
    · have e1 : (Tr.node k v h l r sz dg).split seed key = (Tr.fresh seed k v h l (r.split seed key).1, (r.split seed key).2) := by simp [Tr.split, hlt]
      rw [e1]
      have hrec := ihr w pr Nr hB hm h4 hNa.2.1 hor (by omega) (fun W hW => hk W (hW.mono (fun i hi => by simp [hi])))
      have FIN : ∀ (w1 : World) (p1 p2 : Option Addr) (N1 N2 : List Nat), IsTree w1 w0.heap.size ok p1 (r.split seed key).1 N1 → IsTree w1 w0.heap.size ok p2 (r.split seed key).2 N2 → (N1 ++ N2).Perm Nr → Below w0.heap.size w0 w1 → Kept w w1 (fun i => i ∈ Nr) →
          w1.cell? ⟨b, 4, none⟩ = some (.pointer pr) ∧ w1.frozen? ⟨b, 4, none⟩ = false ∧ Calls Tryz.prog 158 #[.pointer (some ⟨bm, 0, none⟩), .pointer (some ⟨b, 0, none⟩)] (w1.setCell ⟨b, 4, none⟩ (.pointer p1)) fun e w' =>
            e = .returned (.pointer (some ⟨b, 0, none⟩)) ∧ ∃ N3, IsTree w' w0.heap.size ok (some ⟨b, 0, none⟩) (Tr.fresh seed k v h l (r.split seed key).1) N3 ∧ IsTree w' w0.heap.size ok p2 (r.split seed key).2 N2 ∧ (N3 ++ N2).Perm (b :: (Nl ++ Nr)) ∧ Below w0.heap.size w0 w' ∧ Kept w w' (fun i => i ∈ b :: (Nl ++ Nr)) := by
        intro w1 p1 p2 N1 N2 g1 g2 g3 g4 g5
        have hbr : b ∉ Nr := fun hi => hNd.1 (by simp [hi])
        have hbl : b ∉ Nl := fun hi => hNd.1 (by simp [hi])
        have hb1 : b ∉ N1 := fun hi => hbr (g3.mem_iff.1 (by simp [hi]))
        have hb2 : b ∉ N2 := fun hi => hbr (g3.mem_iff.1 (by simp [hi]))
        have n1 := h4.noBytes (ok' := ok)
        have hblk1 : w1.heap[b]? = some (nodeObj (.slice A1 k.length c1) vv h pl pr sz dg) := (g5.2 b (blk_lt hblk) hbr).trans hblk
        have n2 := noBytes_node (ok := ok) hblk1
        have ks := kept_set (w := w1) (b := b) (j := 4) (.pointer p1)
        have hl1 := (h3.kept g5 n1 (fun i hi hi2 => hNa.2.2 i hi i hi2 rfl)).kept ks n2 (fun i hi e => hbl (e ▸ hi))
        obtain ⟨_, _, _, _, y4, _, _, yf⟩ := node_cells hblk1
        refine ⟨y4, yf 4, ?_⟩
        have hcn := Tr.cnt_split seed key r
        refine (fresh_tree w0 _ (g4.setCell (p := ⟨b, 4, none⟩) hb _) ok bm b seed root _ vv k v h sz dg l (r.split seed key).1 pl p1 Nl N1 (map_kept (map_kept hm g5 (h4.ne_map hm)) ks (node_ne_map hblk hm)) hb (node_set4 hblk1 p1)
          ((h1.kept g5 n1).kept ks n2) ((h2.kept g5 n1).kept ks n2) hl1 (g1.kept ks n2 (fun i hi e => hb1 (e ▸ hi))) hkl hvl hol (hor.split seed key).1 (by omega) (by omega) hbl hb1).mono ?_
        rintro e w' ⟨he, q1, q2, q3⟩
        refine ⟨he, b :: (Nl ++ N1), q1, (g2.kept ks n2 (fun i hi e => hb2 (e ▸ hi))).kept q3 (noBytes_node (node_set4 hblk1 p1)) (fun i hi e => hb2 (e ▸ hi)), ?_, q2, ?_⟩
        · simp only [List.cons_append, List.append_assoc]
          exact (List.Perm.append_left Nl g3).cons b
        · exact ((g5.mono (fun i hi => by simp [hi])).then_ ks (fun i hi => .inl (by simp [hi]))).then_ q3 (fun i hi => .inl (by simp [hi]))
      have HF := Aside0.mk FIN
      have e2 : decide (cmpI k key < 0) = true := by simp [hlt]
      clear FIN hT0 ihl ihr hc e1 h1 h2 h3 h4 hN hNd hNa hr1 hk hkw hm hblk hB
      go_enter Tryz.func160, Tryz.ntmps160
      go_wp2_with (go_at_call 156; refine hcmp.mono ?_; rintro e w' ⟨rfl, rfl⟩)
      refine hrec.mono ?_
      rintro e w1 ⟨p1, p2, N1, N2, rfl, g1, g2, g3, g4, g5⟩
      obtain ⟨z1, z2, hfr⟩ := HF.out w1 p1 p2 N1 N2 g1 g2 g3 g4 g5
      clear hrec g1 g2 g3 g4 g5 HF hcmp
      go_wp2_with fail
      refine hfr.mono ?_
      rintro e w2 ⟨rfl, N3, q1, q2, q3, q4, q5⟩
      have HQ := Aside0.mk (And.intro q1 (And.intro q2 (And.intro q3 (And.intro q4 q5))))
      clear hfr q1 q2 q3 q4 q5
      go_wp2
      go_ret2
      exact ⟨_, _, N3, N2, rfl, HQ.out.1, HQ.out.2.1, HQ.out.2.2.1, HQ.out.2.2.2.1, HQ.out.2.2.2.2⟩
    · have e1 : (Tr.node k v h l r sz dg).split seed key = ((l.split seed key).1, Tr.fresh seed k v h (l.split seed key).2 r) := by simp [Tr.split, hlt]
      rw [e1]
      have hrec := ihl w pl Nl hB hm h3 hNa.1 hol (by omega) (fun W hW => hk W (hW.mono (fun i hi => by simp [hi])))
      have FIN : ∀ (w1 : World) (p1 p2 : Option Addr) (N1 N2 : List Nat), IsTree w1 w0.heap.size ok p1 (l.split seed key).1 N1 → IsTree w1 w0.heap.size ok p2 (l.split seed key).2 N2 → (N1 ++ N2).Perm Nl → Below w0.heap.size w0 w1 → Kept w w1 (fun i => i ∈ Nl) →
          w1.cell? ⟨b, 3, none⟩ = some (.pointer pl) ∧ w1.frozen? ⟨b, 3, none⟩ = false ∧ Calls Tryz.prog 158 #[.pointer (some ⟨bm, 0, none⟩), .pointer (some ⟨b, 0, none⟩)] (w1.setCell ⟨b, 3, none⟩ (.pointer p2)) fun e w' =>
            e = .returned (.pointer (some ⟨b, 0, none⟩)) ∧ ∃ N3, IsTree w' w0.heap.size ok p1 (l.split seed key).1 N1 ∧ IsTree w' w0.heap.size ok (some ⟨b, 0, none⟩) (Tr.fresh seed k v h (l.split seed key).2 r) N3 ∧ (N1 ++ N3).Perm (b :: (Nl ++ Nr)) ∧ Below w0.heap.size w0 w' ∧ Kept w w' (fun i => i ∈ b :: (Nl ++ Nr)) := by
        intro w1 p1 p2 N1 N2 g1 g2 g3 g4 g5
        have hbr : b ∉ Nr := fun hi => hNd.1 (by simp [hi])
        have hbl : b ∉ Nl := fun hi => hNd.1 (by simp [hi])
        have hb1 : b ∉ N1 := fun hi => hbl (g3.mem_iff.1 (by simp [hi]))
        have hb2 : b ∉ N2 := fun hi => hbl (g3.mem_iff.1 (by simp [hi]))
        have n1 := h3.noBytes (ok' := ok)
        have hblk1 : w1.heap[b]? = some (nodeObj (.slice A1 k.length c1) vv h pl pr sz dg) := (g5.2 b (blk_lt hblk) hbl).trans hblk
        have n2 := noBytes_node (ok := ok) hblk1
        have ks := kept_set (w := w1) (b := b) (j := 3) (.pointer p2)
        have hr1 := (h4.kept g5 n1 (fun i hi hi2 => hNa.2.2 i hi2 i hi rfl)).kept ks n2 (fun i hi e => hbr (e ▸ hi))
        obtain ⟨_, _, _, y3, _, _, _, yf⟩ := node_cells hblk1
        refine ⟨y3, yf 3, ?_⟩
        have hcn := Tr.cnt_split seed key l
        refine (fresh_tree w0 _ (g4.setCell (p := ⟨b, 3, none⟩) hb _) ok bm b seed root _ vv k v h sz dg (l.split seed key).2 r p2 pr N2 Nr (map_kept (map_kept hm g5 (h3.ne_map hm)) ks (node_ne_map hblk hm)) hb (node_set3 hblk1 p2)
          ((h1.kept g5 n1).kept ks n2) ((h2.kept g5 n1).kept ks n2) (g2.kept ks n2 (fun i hi e => hb2 (e ▸ hi))) hr1 hkl hvl (hol.split seed key).2 hor (by omega) (by omega) hb2 hbr).mono ?_
        rintro e w' ⟨he, q1, q2, q3⟩
        refine ⟨he, b :: (N2 ++ Nr), (g1.kept ks n2 (fun i hi e => hb1 (e ▸ hi))).kept q3 (noBytes_node (node_set3 hblk1 p2)) (fun i hi e => hb1 (e ▸ hi)), q1, ?_, q2, ?_⟩
        · refine (List.perm_middle).trans (List.Perm.cons b ?_)
          rw [← List.append_assoc]
          exact g3.append_right Nr
        · exact ((g5.mono (fun i hi => by simp [hi])).then_ ks (fun i hi => .inl (by simp [hi]))).then_ q3 (fun i hi => .inl (by simp [hi]))
      have HF := Aside0.mk FIN
      have e2 : decide (cmpI k key < 0) = false := by simp [hlt]
      clear FIN hT0 ihl ihr hc e1 h1 h2 h3 h4 hN hNd hNa hr1 hk hkw hm hblk hB
      go_enter Tryz.func160, Tryz.ntmps160
      go_wp2_with (go_at_call 156; refine hcmp.mono ?_; rintro e w' ⟨rfl, rfl⟩)
      refine hrec.mono ?_
      rintro e w1 ⟨p1, p2, N1, N2, rfl, g1, g2, g3, g4, g5⟩
      obtain ⟨z1, z2, hfr⟩ := HF.out w1 p1 p2 N1 N2 g1 g2 g3 g4 g5
      clear hrec g1 g2 g3 g4 g5 HF hcmp
      go_wp2_with fail
      refine hfr.mono ?_
      rintro e w2 ⟨rfl, N3, q1, q2, q3, q4, q5⟩
      have HQ := Aside0.mk (And.intro q1 (And.intro q2 (And.intro q3 (And.intro q4 q5))))
      clear hfr q1 q2 q3 q4 q5
      go_wp2
      go_ret2
      exact ⟨_, _, N1, N3, rfl, HQ.out.1, HQ.out.2.1, HQ.out.2.2.1, HQ.out.2.2.2.1, HQ.out.2.2.2.2⟩
end Go.Proofs.YtkjplffpihfliaaGreatDoor
end
