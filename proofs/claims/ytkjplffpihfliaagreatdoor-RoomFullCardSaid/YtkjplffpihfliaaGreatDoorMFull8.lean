/- Texts of this claim, merged by wip/merge.py: ShLen Sort1 CoinS TImg Keyed BelowR Remove Numb RowDel RowOps. -/
import Derived.Shelf.Small.Bits
import Derived.Shelf.Small.Strs
import Derived.Shelf.Strconv.Itoa0
import Derived.Shelf.Strings.Search1
import Derived.Shelf.Strings.Search2
import Derived.Shelf.Strings.Search3
import Derived.Shelf.Strings.Count
import Derived.Shelf.LaysM
import Derived.Shelf.Strings.Shaped
import Derived.Shelf.Strings.Split
import Derived.Shelf.Strings.SplitShaped
import Derived.Shelf.Unicode.DecodeSlow
import Derived.Shelf.Slices.In.SortNone
import Derived.Shelf.Bytes.SlSearch0
import Derived.Ground.SlbNamesProg
import Derived.Shelf.Bytes.SlJoin
import Derived.Ground.SlgmProg
import Derived.Shelf.SortM.Plain
import Derived.Ground.PaProg
import Derived.Shelf.Path.Small
import Derived.Shelf.Bytes.Small
import Derived.Test.YtkjplffpihfliaaGreatDoorProg
import Derived.Test.YtkjplffpihfliaaGreatDoorMFull7
import Derived.Test.YtkjplffpihfliaaGreatDoorMFull4
import Derived.OpenShut
import Derived.Test.YtkjplffpihfliaaGreatDoorMFull5
import Derived.Laws.EntriesVeiled
import Derived.Test.YtkjplffpihfliaaGreatDoorMFull2
import Derived.Lib.SliceRun
import Derived.Test.YtkjplffpihfliaaGreatDoorMFull3
section
/-
  DERIVED: THE SHELF's CONTRACTS AT THIS DUMP, IN PLAIN WORDS (tools/lay-plain.mjs out of 'TryzShelfX.lean', which tools/lay-shelf.mjs wrote): THE SAME DECLARATIONS UNDER THE SAME NAMES: 'import', 'namespace', 'open', 'def', 'theorem' AND NOTHING ELSE: no command of the shelf's: FOR A HAND-IN. Each laying: the table of numbers ('.._ren') and one theorem, a field a fact of the dump's own or the kernel's comparison; each contract: ONE APPLICATION.
-/
namespace Go.Proofs
open Go.Shelf
def Tryz.lays125_ren : Go.Shelf.Ren := ⟨fun | 125 => 130 | 128 => 177 | 129 => 178 | n => n, fun | 46 => 30 | 3 => 3 | 51 => 217 | 53 => 22 | 4 => 4 | 5 => 5 | 9 => 9 | n => n, fun | n => n⟩
theorem Tryz.lays125 : Go.Proofs.Lays.n125 Tryz.prog Tryz.lays125_ren := {
  mixed := by kernel_rfl
  f125 := Tryz.func130.trans (congrArg some (by kernel_rfl))
  f128 := Tryz.func177.trans (congrArg some (by kernel_rfl))
  f129 := Tryz.func178.trans (congrArg some (by kernel_rfl))
  t3 := Tryz.underlying3
  a3 := Tryz.isAgg3
  z3 := Tryz.sizeOf3
  v3 := Tryz.zeroValue3
  t4 := Tryz.underlying4
  a4 := Tryz.isAgg4
  z4 := Tryz.sizeOf4
  v4 := Tryz.zeroValue4
  t5 := Tryz.underlying5
  a5 := Tryz.isAgg5
  z5 := Tryz.sizeOf5
  v5 := Tryz.zeroValue5
  t9 := Tryz.underlying9
  a9 := Tryz.isAgg9
  z9 := Tryz.sizeOf9
  v9 := Tryz.zeroValue9
  t46 := Tryz.underlying30
  a46 := Tryz.isAgg30
  z46 := Tryz.sizeOf30
  v46 := Tryz.zeroValue30
  t51 := Tryz.underlying217
  a51 := Tryz.isAgg217
  z51 := Tryz.sizeOf217
  v51 := Tryz.zeroValue217
  t53 := Tryz.underlying22
  a53 := Tryz.isAgg22
  z53 := Tryz.sizeOf22
  v53 := Tryz.zeroValue22 }
/-- bits.Len: "Len returns the minimum number of bits required to represent x; the result is 0 for x == 0.": IT RETURNS 'Lib.bitLen x'; the world is as it was. (A uint has 64 bits in the model.) ITS CALLEE bits.Len64 IS MET BY ITS OWN CONTRACT OFF THE SHELF (lay that first). (LAID: no walk: one application.) -/
theorem Tryz.bits_Len (x : Int) (w : World) (h0 : 0 ≤ x) (h1 : x ≤ 18446744073709551615) :
    Calls Tryz.prog 130 #[.int .u64 x] w fun e w' => e = .returned (.int .i64 (Lib.bitLen x.toNat)) ∧ w' = w := Any.bits_Len Tryz.lays125 x w h0 h1
end Go.Proofs
end

section
/- slices.SortFunc on one element: nothing is done, nothing is asked. -/
namespace Go.Proofs.YtkjplffpihfliaaGreatDoor
open Go.RowKit Go.Proofs.YtkjplffpihfliaaGreatDoorW.PrintWords PAll

set_option maxRecDepth 100000 in
theorem ins1_E (w : World) (a : Option Addr) (cap : Nat) (f : Value) : Calls Tryz.prog 169 #[.slice a 1 cap, .int .i64 0, .int .i64 1, f] w fun e w' => e = .returned (.tuple #[]) ∧ w' = w := by
  go_enter Tryz.func169, Tryz.ntmps169
  go_wp2
  go_loopg [8] 0 (fun kq v8 w' => v8 = .int .i64 1 ∧ w = w')
  case atStart => exact ⟨rfl, rfl⟩
  case round =>
    obtain ⟨rfl, rfl⟩ := hrel
    go_wp2
    first | (refine bodyPost_ret (results_none rfl _ _ _) rfl ?_) | go_end0
    exact ⟨rfl, rfl⟩
set_option maxRecDepth 100000 in
theorem ins1_S (w : World) (a : Option Addr) (cap : Nat) (f : Value) : Calls Tryz.prog 193 #[.slice a 1 cap, .int .i64 0, .int .i64 1, f] w fun e w' => e = .returned (.tuple #[]) ∧ w' = w := by
  go_enter Tryz.func193, Tryz.ntmps193
  go_wp2
  go_loopg [8] 0 (fun kq v8 w' => v8 = .int .i64 1 ∧ w = w')
  case atStart => exact ⟨rfl, rfl⟩
  case round =>
    obtain ⟨rfl, rfl⟩ := hrel
    go_wp2
    first | (refine bodyPost_ret (results_none rfl _ _ _) rfl ?_) | go_end0
    exact ⟨rfl, rfl⟩
set_option maxRecDepth 100000 in
set_option maxHeartbeats 1000000 in
theorem pdq1_E (w : World) (a : Option Addr) (cap : Nat) (k : Int) (f : Value) : Calls Tryz.prog 129 #[.slice a 1 cap, .int .i64 0, .int .i64 1, .int .i64 k, f] w fun e w' => e = .returned (.tuple #[]) ∧ w' = w := by
  have h := ins1_E w a cap f
  go_enter Tryz.func129, Tryz.ntmps129
  go_wp2
  go_loopg [1, 2, 3] 0 (fun kq v1 v2 v3 w' => v1 = .int .i64 0 ∧ v2 = .int .i64 1 ∧ v3 = .int .i64 k ∧ w = w')
  case atStart => exact ⟨rfl, rfl, rfl, rfl⟩
  case round =>
    obtain ⟨rfl, rfl, rfl, rfl⟩ := hrel
    go_wp2_with (go_at_call 169; refine h.mono ?_; rintro e w ⟨rfl, rfl⟩)
    first | (refine bodyPost_ret (results_none rfl _ _ _) rfl ?_) | go_end0
    exact ⟨rfl, rfl⟩
set_option maxRecDepth 100000 in
set_option maxHeartbeats 1000000 in
theorem pdq1_S (w : World) (a : Option Addr) (cap : Nat) (k : Int) (f : Value) : Calls Tryz.prog 167 #[.slice a 1 cap, .int .i64 0, .int .i64 1, .int .i64 k, f] w fun e w' => e = .returned (.tuple #[]) ∧ w' = w := by
  have h := ins1_S w a cap f
  go_enter Tryz.func167, Tryz.ntmps167
  go_wp2
  go_loopg [1, 2, 3] 0 (fun kq v1 v2 v3 w' => v1 = .int .i64 0 ∧ v2 = .int .i64 1 ∧ v3 = .int .i64 k ∧ w = w')
  case atStart => exact ⟨rfl, rfl, rfl, rfl⟩
  case round =>
    obtain ⟨rfl, rfl, rfl, rfl⟩ := hrel
    go_wp2_with (go_at_call 193; refine h.mono ?_; rintro e w ⟨rfl, rfl⟩)
    first | (refine bodyPost_ret (results_none rfl _ _ _) rfl ?_) | go_end0
    exact ⟨rfl, rfl⟩
set_option maxRecDepth 100000 in
theorem sort1_E (w : World) (a : Option Addr) (cap : Nat) (f : Value) : Calls Tryz.prog 78 #[.slice a 1 cap, f] w fun e w' => e = .returned (.tuple #[]) ∧ w' = w := by
  have h := fun k => pdq1_E w a cap k f
  have hl := Tryz.bits_Len 1 w (by decide) (by decide)
  go_enter Tryz.func78, Tryz.ntmps78
  go_wp2_with (first | (go_at_call 130; refine hl.mono ?_; rintro e w ⟨rfl, rfl⟩) | (go_at_call 129; refine (h _).mono ?_; rintro e w ⟨rfl, rfl⟩))
  go_end0
  exact ⟨rfl, rfl⟩
set_option maxRecDepth 100000 in
theorem sort1_S (w : World) (a : Option Addr) (cap : Nat) (f : Value) : Calls Tryz.prog 125 #[.slice a 1 cap, f] w fun e w' => e = .returned (.tuple #[]) ∧ w' = w := by
  have h := fun k => pdq1_S w a cap k f
  have hl := Tryz.bits_Len 1 w (by decide) (by decide)
  go_enter Tryz.func125, Tryz.ntmps125
  go_wp2_with (first | (go_at_call 130; refine hl.mono ?_; rintro e w ⟨rfl, rfl⟩) | (go_at_call 167; refine (h _).mono ?_; rintro e w ⟨rfl, rfl⟩))
  go_end0
  exact ⟨rfl, rfl⟩
end Go.Proofs.YtkjplffpihfliaaGreatDoor
end

section
/- The coin closure of Places, and slices.SortedFunc over the keys of a map of one key. -/
namespace Go.Proofs.YtkjplffpihfliaaGreatDoor
open Go.RowKit Go.Proofs.YtkjplffpihfliaaGreatDoorW.PrintWords PAll

/-- The bytes of a string as a new slice, read. -/
theorem conv_C (w : World) (s : ByteArray) (hs : s.size ≤ 100000) : ∃ cap W1, (convert 9 31 (.string s)).run Tryz.prog w = .ok (.slice (some ⟨w.heap.size, 0, none⟩) s.size cap) W1 ∧ Below w.heap.size w W1 ∧ s.size ≤ cap ∧ Kd.C kU W1 (some ⟨w.heap.size, 0, none⟩) (bytesI s).length (bytesI s) := by
  obtain ⟨cap, W1, h1, h2, h3⟩ := conv_run w s
  have h4 := run_bytes_of_string (P := Tryz.prog) w 9 31 5 s Tryz.underlying9 Tryz.underlying31 Tryz.underlying5
  rw [h1] at h4
  injection h4 with h5 h6
  injection h5 with _ _ h7
  refine ⟨cap, W1, h1, h2, by rw [h7]; exact grownCap_ge _ _ _ _, Kd.C_of_reads (d := 0) ⟨rfl, by rw [bytesI_length]; omega, fun _ => ⟨_, rfl, fun j hj => ?_⟩⟩⟩
  rw [bytesI_length] at hj
  rw [add_plain]
  exact h3 j hj
set_option maxRecDepth 100000 in
theorem coinS_any (w : World) (bx g : Nat) (seed tag : Int) (s : ByteArray) (hs : s.size ≤ 100000) (h1 : w.cell? ⟨bx, 0, none⟩ = some (.pointer (some ⟨g, 0, none⟩))) (h2 : w.cell? ⟨g, 0, none⟩ = some (.int .u64 seed)) :
    Calls Tryz.prog 70 #[.int .i64 tag, .string s, .pointer (some ⟨bx, 0, none⟩)] w fun e w' => e = .returned (.int .u64 (coin seed tag (bytesI s))) ∧ Below w.heap.size w w' := by
  obtain ⟨cap, W1, hconv, hB, hcap, hC⟩ := conv_C w s hs
  have hc := slots_Coin.calls ((bytesI s).length + 1) seed tag (some ⟨w.heap.size, 0, none⟩) cap (bytesI s) _ W1 hC (by rw [bytesI_length]; exact hcap) (coin_f seed tag (bytesI s) (by rw [bytesI_length]; omega))
  rw [bytesI_length] at hc
  obtain ⟨r, hr⟩ : ∃ r, r = coin seed tag (bytesI s) := ⟨_, rfl⟩
  rw [← hr] at hc ⊢
  obtain ⟨n, hn⟩ : ∃ n, n = s.size := ⟨_, rfl⟩
  rw [← hn] at hc hconv
  have HB := Aside0.mk hB
  clear hr hB hcap hC hs hn
  go_enter Tryz.func70, Tryz.ntmps70
  go_wp2_with (go_at_call 71; refine hc.mono ?_; rintro e w2 ⟨rfl, hd⟩)
  go_ret
  exact ⟨rfl, below_then HB.out HB.out.size hd.below⟩

set_option maxRecDepth 100000 in
theorem sortedFunc1 (w : World) (Bm b : Nat) (s : ByteArray) (v : Value) (f : Value) (hs : s.size ≤ 100000) (hm : w.cell? ⟨Bm, 0, none⟩ = some (.map (some b))) (h : SMap w b [(s, v)]) :
    Calls Tryz.prog 72 #[keyFn 126 Bm, f] w fun e w' => ∃ g c, e = .returned (.slice (some ⟨g, 0, none⟩) 1 c) ∧ w'.cell? ⟨g, 0, none⟩ = some (.string s) ∧ w.heap.size ≤ g ∧ Below w.heap.size w w' := by
  have hc := collectB_any w Bm b _ hm h (by simp) (by intro p hp; simp at hp; subst hp; exact hs)
  have hc' : Calls Tryz.prog 124 #[keyFn 126 Bm] w fun e w' => ∃ g c, e = .returned (.slice (some ⟨g, 0, none⟩) 1 c) ∧ Aside0 (w'.cell? ⟨g, 0, none⟩ = some (.string s) ∧ w.heap.size ≤ g ∧ Below w.heap.size w w') := by
    refine hc.mono ?_
    rintro e w' ⟨u, ss, rfl, ⟨hp, hrow⟩, hB⟩
    have hss : ss = [s.data.toList] := List.perm_singleton.1 hp
    subst hss
    obtain ⟨A, c, rfl⟩ := own_slice hrow
    have hrow' := hrow
    obtain ⟨_, hrow2⟩ := hrow'
    rcases hrow2 with ⟨_, hz⟩ | ⟨g, cap, cur, he, _⟩
    · cases hz
    · cases he
      obtain ⟨cur, _, _, _, _, hb, _, hcell⟩ := own_get hrow
      refine ⟨g, c, rfl, ⟨?_, hb, hB⟩⟩
      have := hcell 0 _ rfl
      rw [this]
  have hst := fun W g c => sort1_S W (some ⟨g, 0, none⟩) c f
  clear hc h hm hs
  go_enter Tryz.func72, Tryz.ntmps72
  go_wp2_with (first | (go_at_call 124; refine hc'.mono ?_; rintro e w2 ⟨g, c, rfl, hh⟩) | (go_at_call 125; refine (hst _ _ _).mono ?_; rintro e w3 ⟨rfl, hw⟩; cases hw))
  go_ret
  exact ⟨g, c, rfl, hh.out⟩
theorem coin_l0_range (x2 : List Int) : ∀ (k : Nat) (h : Int) (xs : List Int) (N i r : Int), slots_Coin.l0 k x2 h xs N i = some r → (Lit.int .u64 r).wf = true
  | 0, h, xs, N, i, r, e => by simp [slots_Coin.l0] at e
  | k + 1, h, xs, N, i, r, e => by
    unfold slots_Coin.l0 at e
    split at e
    · split at e
      · split at e
        · exact coin_l0_range x2 k _ _ _ _ _ e
        · cases e
      · cases e
    · injection e with e
      rw [← e]
      exact Go.wf_bits _ _ _ _
theorem coin_range (seed tag : Int) (l : List Int) (hl : l.length ≤ 140737488355328) : 0 ≤ coin seed tag l ∧ coin seed tag l < 18446744073709551616 := by
  have h := coin_f seed tag l hl
  have h2 : (Lit.int .u64 (coin seed tag l)).wf = true := coin_l0_range _ _ _ _ _ _ _ h
  have := Go.bounds_u64 h2
  omega
end Go.Proofs.YtkjplffpihfliaaGreatDoor
end

section
/- The contract of (*Tree).Image: the image of the treap of its pairs, whatever the order in which the map's entries come. -/
namespace Go.Proofs.YtkjplffpihfliaaGreatDoor
open Go.RowKit Go.Proofs.YtkjplffpihfliaaGreatDoorW.PrintWords PAll

namespace Tr
theorem byts_iff : ∀ {T : Tr}, T.Byts ↔ ∀ p ∈ T.pairs, Byt p.1 ∧ Byt p.2
  | .nil => by simp [Byts, pairs]
  | .node k v h l r sz dg => by
    have h1 := byts_iff (T := l)
    have h2 := byts_iff (T := r)
    simp only [Byts, pairs, List.mem_append, List.mem_cons]
    constructor
    · rintro ⟨a, b, c, d⟩ p (hp | rfl | hp)
      · exact h1.1 c p hp
      · exact ⟨a, b⟩
      · exact h2.1 d p hp
    · intro h
      exact ⟨(h (k, v) (.inr (.inl rfl))).1, (h (k, v) (.inr (.inl rfl))).2, h1.2 (fun p hp => h p (.inl hp)), h2.2 (fun p hp => h p (.inr (.inr hp)))⟩
theorem cnt_pairs : ∀ T : Tr, T.cnt = T.pairs.length
  | .nil => rfl
  | .node k v h l r sz dg => by simp only [cnt, pairs, List.length_append, List.length_cons, cnt_pairs l, cnt_pairs r]; omega
theorem puts_snoc (seed : Int) (ps : List Pr) (p : Pr) : puts seed (ps ++ [p]) = (puts seed ps).put seed p.1 p.2 (coin seed 3 p.1) := by
  unfold puts
  rw [List.foldl_append]
  rfl
theorem puts_cnt (seed : Int) : ∀ (ps : List Pr) (T : Tr), (ps.foldl (fun T p => T.put seed p.1 p.2 (coin seed 3 p.1)) T).cnt ≤ T.cnt + ps.length
  | [], _ => Nat.le_refl _
  | p :: ps, T => by
    have h1 := puts_cnt seed ps (T.put seed p.1 p.2 (coin seed 3 p.1))
    have h2 := cnt_put seed p.1 p.2 (coin seed 3 p.1) T
    simp only [List.foldl_cons, List.length_cons]
    omega
end Tr
theorem bytesI_byt (s : ByteArray) : Byt (bytesI s) := fun x hx => by
  obtain ⟨b, _, rfl⟩ := List.mem_map.1 hx
  have := b.toNat_lt
  omega
theorem bytesI_back (s : ByteArray) : Lib.bytesOf (bytesI s) = s.data.toList := by
  unfold Lib.bytesOf bytesI
  rw [List.map_map]
  conv => rhs; rw [← List.map_id s.data.toList]
  refine List.map_congr_left (fun b _ => ?_)
  show UInt8.ofNat (b.toNat : Int).toNat = b
  rw [Int.toNat_natCast, UInt8.ofNat_toNat]
theorem bytesI_inj {s s' : ByteArray} (h : bytesI s = bytesI s') : s = s' := by
  have h1 := bytesI_back s
  rw [h, bytesI_back s'] at h1
  cases s with | mk a => cases s' with | mk b =>
  congr 1
  exact Array.toList_inj.1 h1.symm
/-- An entry of a tree as a pair of its map. -/
def trPair (p : ByteArray × NodeD) : Tr.Pr := (bytesI p.1, if p.2.1 then 1 :: p.2.2 else [0])
/-- The image of a tree. -/
def treeImg (seed : Int) (t : List (ByteArray × NodeD)) : List Int := (Tr.puts seed (t.map trPair)).image
theorem cmpI_ne {s s' : ByteArray} (h : s ≠ s') : cmpI (bytesI s) (bytesI s') ≠ 0 := fun e => h (bytesI_inj (Byt.inj (bytesI_byt s) (bytesI_byt s') (cb_eq _ _ e)))
theorem trPairs_apart {t : List (ByteArray × NodeD)} (h : (t.map Prod.fst).Nodup) : (t.map trPair).Pairwise (fun p q => cmpI p.1 q.1 ≠ 0) :=
  List.pairwise_map.2 ((List.pairwise_map.1 h).imp (fun hne => cmpI_ne hne))
theorem trPairs_byt (t : List (ByteArray × NodeD)) : ∀ p ∈ t.map trPair, Byt p.1 := fun p hp => by
  obtain ⟨q, _, rfl⟩ := List.mem_map.1 hp
  exact bytesI_byt _
theorem treeImg_perm (seed : Int) {t t' : List (ByteArray × NodeD)} (h : t.Perm t') (hn : (t.map Prod.fst).Nodup) : treeImg seed t = treeImg seed t' := by
  unfold treeImg
  rw [Tr.puts_perm seed (h.map trPair) (trPairs_byt t) (trPairs_apart hn)]
theorem match_mem {w : World} {base : Nat} {ok : Nat → Prop} {p : ByteArray × Value} : ∀ {l : List (ByteArray × Value)} {t : List (ByteArray × NodeD)}, Match w base ok l t → p ∈ l → ∃ d, (p.1, d) ∈ t ∧ NodeIs w base ok p.2 d
  | [], [], _, hp => by cases hp
  | (k, v) :: l, (k', d) :: t, ⟨h1, h2, h3⟩, hp => by
    subst h1
    rcases List.mem_cons.1 hp with rfl | hp
    · exact ⟨d, by simp, h2⟩
    · obtain ⟨d', q1, q2⟩ := match_mem h3 hp
      exact ⟨d', by simp [q1], q2⟩
  | [], _ :: _, h, _ => h.elim
  | _ :: _, [], h, _ => h.elim
theorem match_keys {w : World} {base : Nat} {ok : Nat → Prop} : ∀ {l : List (ByteArray × Value)} {t : List (ByteArray × NodeD)}, Match w base ok l t → l.map Prod.fst = t.map Prod.fst
  | [], [], _ => rfl
  | (k, v) :: l, (k', d) :: t, ⟨h1, _, h3⟩ => by rw [List.map_cons, List.map_cons, match_keys h3]; simp [h1]
  | [], _ :: _, h => h.elim
  | _ :: _, [], h => h.elim
theorem perm_of_keys {t td : List (ByteArray × NodeD)} (h : (td.map Prod.fst).Perm (t.map Prod.fst)) (hs : ∀ q ∈ td, q ∈ t) (hn : (t.map Prod.fst).Nodup) : td.Perm t := by
  have nd : ∀ l : List (ByteArray × NodeD), (l.map Prod.fst).Nodup → l.Nodup := fun l h => (List.pairwise_map.1 h).imp (fun h e => h (by rw [e]))
  have hn' : (td.map Prod.fst).Nodup := h.nodup_iff.2 hn
  have uniq : ∀ l : List (ByteArray × NodeD), (l.map Prod.fst).Nodup → ∀ p ∈ l, ∀ q ∈ l, p.1 = q.1 → p = q := by
    intro l
    induction l with
    | nil => intro _ p hp; cases hp
    | cons x l ih =>
      intro h p hp q hq e
      rw [List.map_cons, List.nodup_cons] at h
      rcases List.mem_cons.1 hp with hp1 | hp1
      · rcases List.mem_cons.1 hq with hq1 | hq1
        · rw [hp1, hq1]
        · exact (h.1 (List.mem_map.2 ⟨q, hq1, by rw [← e, hp1]⟩)).elim
      · rcases List.mem_cons.1 hq with hq1 | hq1
        · exact (h.1 (List.mem_map.2 ⟨p, hp1, by rw [e, hq1]⟩)).elim
        · exact ih h.2 p hp1 q hq1 e
  refine (List.perm_ext_iff_of_nodup (nd _ hn') (nd _ hn)).2 fun q => ⟨hs q, fun hq => ?_⟩
  have hk : q.1 ∈ td.map Prod.fst := h.mem_iff.2 (List.mem_map.2 ⟨q, hq, rfl⟩)
  obtain ⟨q', hq', e⟩ := List.mem_map.1 hk
  exact uniq t hn q' (hs q' hq') q hq e ▸ hq'
theorem SRng.keysNodup {w : World} {b r : Nat} {l sn : List (ByteArray × Value)} (h : SRng w b r l sn) : (l.map Prod.fst).Nodup := by
  obtain ⟨es, clock, since, seen, c0, hb, q1, q2, q3, hr, hold, hsc, hsk, hsn, hmem⟩ := h
  exact q2
theorem SRng.length_le {w : World} {b r : Nat} {l sn : List (ByteArray × Value)} (h : SRng w b r l sn) : sn.length ≤ l.length := by
  classical
  obtain ⟨es, clock, since, seen, c0, hb, q1, q2, q3, hr, hold, hsc, hsk, hsn, hmem⟩ := h
  have hsub : ∀ p ∈ sn, p ∈ l := fun p hp => by
    obtain ⟨e, he, _, hk⟩ := (hmem p).1 hp
    have : (e.key, e.val) ∈ l.map (fun p => (Value.string p.1, p.2)) := by rw [← q1]; exact List.mem_map.2 ⟨e, he, rfl⟩
    obtain ⟨p', hp', hk'⟩ := List.mem_map.1 this
    rw [hk] at hk'
    simp only [Prod.mk.injEq, Value.string.injEq] at hk'
    exact (Prod.ext hk'.1 hk'.2 : p' = p) ▸ hp'
  have hp : sn.Perm (l.filter (fun p => decide (p ∈ sn))) := (List.perm_ext_iff_of_nodup hsn ((nodup_of_keys q2).filter _)).2 fun p => by
    rw [List.mem_filter]
    simp
    exact fun h => hsub p h
  rw [hp.length_eq]
  exact List.length_filter_le _ _
end Go.Proofs.YtkjplffpihfliaaGreatDoor
end

section
/- The sorted keys of a tree's map. -/
namespace Go.Proofs.YtkjplffpihfliaaGreatDoor
open Go.RowKit Go.Proofs.YtkjplffpihfliaaGreatDoorW.PrintWords PAll

/-- The keys, sorted. -/
def keysOf {α : Type} (t : List (ByteArray × α)) : List ByteArray := ((t.map fun p => p.1.data.toList).mergeSort leB).map (fun b => (⟨b.toArray⟩ : ByteArray))
/-- Those of them that lie below a directory. -/
def todoT {α : Type} (t : List (ByteArray × α)) (dir : ByteArray) : List ByteArray := (keysOf t).filter (fun p => insideT p dir)
theorem List.drop_eq_getElem_cons' {α : Type} {l : List α} {j : Nat} {p : α} (h : l[j]? = some p) : l.drop j = p :: l.drop (j + 1) := by
  obtain ⟨hj, e⟩ := List.getElem?_eq_some_iff.1 h
  rw [List.drop_eq_getElem_cons hj, e]
theorem keysOf_length {α : Type} (t : List (ByteArray × α)) : (keysOf t).length = t.length := by simp [keysOf]
theorem keysOf_perm {α : Type} (t : List (ByteArray × α)) : (keysOf t).Perm (t.map Prod.fst) := by
  have h := ((List.mergeSort_perm (t.map fun p => p.1.data.toList) leB).map (fun b => (⟨b.toArray⟩ : ByteArray)))
  rw [List.map_map] at h
  exact h
theorem sorted_tree (w : World) (base : Nat) (ok : Nat → Prop) (g bm : Nat) (seed : Int) (t : List (ByteArray × NodeD)) (hl : t.length ≤ 1000) (hs : ∀ p ∈ t, p.1.size ≤ 100000) (h : TreeIs w base ok g bm seed t) :
    Calls Tryz.prog 119 #[keyFn 163 w.heap.size] (w.alloc (.cells #[.map (some bm)] tNodes)) fun e w' => ∃ A c kb cur, e = .returned (.slice A t.length c) ∧ Aside0 (Below w.heap.size w w' ∧ (keysOf t).length = t.length ∧ w.heap.size ≤ kb ∧ (t.length = 0 ∨ A = some ⟨kb, 0, none⟩) ∧ t.length ≤ c ∧ (0 < t.length → w'.heap[kb]? = some (.cells cur 9 (0, 0))) ∧
      ∀ W : World, W.heap[kb]? = some (.cells cur 9 (0, 0)) → ∀ j p, (keysOf t)[j]? = some p → W.cell? ⟨kb, j, none⟩ = some (.string p)) := by
  obtain ⟨l, hS, hM⟩ := h.2.2.2.2
  have hkeys := match_keys hM
  have hlen := Match.length hM
  have hB := below_alloc (Below.refl w.heap.size w) (.cells #[.map (some bm)] tNodes)
  have hc : (w.alloc (.cells #[.map (some bm)] tNodes)).cell? ⟨w.heap.size, 0, none⟩ = some (.map (some bm)) := by rw [blk_cell (heap_alloc_new w _)]; rfl
  have hls : ∀ p ∈ l, p.1.size ≤ 100000 := fun p hp => by
    have : p.1 ∈ t.map Prod.fst := by rw [← hkeys]; exact List.mem_map.2 ⟨p, hp, rfl⟩
    obtain ⟨q, hq, e⟩ := List.mem_map.1 this
    rw [← e]
    exact hs q hq
  have e1 : (l.map fun p => p.1.data.toList) = t.map fun p => p.1.data.toList := by
    have := congrArg (List.map (fun s : ByteArray => s.data.toList)) hkeys
    rw [List.map_map, List.map_map] at this
    exact this
  refine (sortedN_any _ w.heap.size bm l hc (hS.kept (KeptE.of_below hB (fun _ => False)) (fun h => h)) (by omega) hls).mono ?_
  rintro e w' ⟨v, rfl, hrow, hB2⟩
  have hBB := below_then hB hB.size hB2
  rw [e1, hlen] at hrow
  have e2 : ((t.map fun p => p.1.data.toList).mergeSort leB).map encStr = (keysOf t).map Value.string := by
    unfold keysOf
    rw [List.map_map]
    rfl
  rw [e2] at hrow
  by_cases h0 : t.length = 0
  · obtain ⟨A, c, rfl⟩ := own_slice hrow
    have hnc : t.length ≤ c := by omega
    exact ⟨A, c, w.heap.size, #[], rfl, ⟨hBB, keysOf_length t, Nat.le_refl _, .inl h0, hnc, fun h => by omega, fun W _ j p hj => by
      have := (List.getElem?_eq_some_iff.1 hj).1
      rw [keysOf_length] at this
      omega⟩⟩
  · rcases hrow.2 with ⟨_, h2⟩ | ⟨kb, cap, cur, rfl, q1, q2, q3, q4, q5, q6⟩
    · exact absurd h2 h0
    · refine ⟨_, cap, kb, cur, rfl, ⟨hBB, keysOf_length t, Nat.le_trans hB.size q1, .inr rfl, q3, fun _ => q2, fun W hW j p hj => ?_⟩⟩
      rw [blk_cell hW]
      have h1 : ((keysOf t).map Value.string)[j]? = some (.string p) := by rw [List.getElem?_map, hj]; rfl
      have hjn : j < t.length := by rw [← keysOf_length t]; exact (List.getElem?_eq_some_iff.1 hj).1
      rw [← q6, List.getElem?_take, if_pos (by omega)] at h1
      simpa using h1
end Go.Proofs.YtkjplffpihfliaaGreatDoor
end

section
/- The contract of (*Tree).below with the closure (*amnesty/room.Tree).Remove$1: of higher order. Printed by wip/gen-below.py. -/
namespace Go.Proofs.YtkjplffpihfliaaGreatDoor
open Go.RowKit Go.Proofs.YtkjplffpihfliaaGreatDoorW.PrintWords PAll

set_option maxRecDepth 100000 in
set_option maxHeartbeats 2000000 in
theorem below_R (w : World) (base : Nat) (ok : Nat → Prop) (g bm : Nat) (seed : Int) (t : List (ByteArray × NodeD)) (dir : ByteArray) (hd : dir.size ≤ 100000) (hl : t.length ≤ 1000) (hs : ∀ p ∈ t, p.1.size ≤ 100000) (h : TreeIs w base ok g bm seed t)
    (p1 : Addr) (J : List ByteArray → World → Prop) (S : Nat → Prop) (hS : ∀ k, S k → k < w.heap.size) (hJ0 : ∀ W, Below w.heap.size w W → J [] W) (hJb : ∀ pre W W', J pre W → Below W.heap.size W W' → J pre W')
    (hstep : ∀ pre p rest W, todoT t dir = pre ++ p :: rest → J pre W → KeptE w W S → Calls Tryz.prog 57 #[.string p, .pointer (some p1)] W fun e W' => e = .returned (.tuple #[]) ∧ J (pre ++ [p]) W' ∧ KeptE W W' S) :
    Calls Tryz.prog 56 #[.pointer (some ⟨g, 0, none⟩), .string dir, .func (.func 57) #[] #[.pointer (some p1)]] w fun e w' => e = .returned (.tuple #[]) ∧ J (todoT t dir) w' ∧ KeptE w w' S := by
  have c2 : w.cell? ⟨g, 2, none⟩ = some (.map (some bm)) := by rw [blk_cell h.2.2.2.1]; rfl
  have hsorted := sorted_tree w base ok g bm seed t hl hs h
  have HSTEP := Aside0.mk hstep
  have HJ := Aside0.mk (And.intro hJ0 (And.intro hJb hS))
  have HD := Aside0.mk (fun (p : ByteArray) (W : World) => inside_any p dir W hd)
  obtain ⟨n, hn⟩ : ∃ n, n = t.length := ⟨_, rfl⟩
  rw [← hn] at hsorted hl
  clear h hstep hJ0 hJb hS hs hd hn
  go_enter Tryz.func56, Tryz.ntmps56
  go_upto_region 1 with (first | (go_at_call 120; refine (keysN_any w (some bm)).mono ?_; rintro e w1 ⟨rfl, rfl⟩) | (go_at_call 119; refine hsorted.mono ?_; rintro e w2 ⟨A, c, kb, cur, rfl, H2⟩))
  have hpre : KeptE w w2 S ∧ J [] w2 := ⟨KeptE.of_below H2.out.1 S, HJ.out.1 w2 H2.out.1⟩
  have HA : Aside0 (n = 0 ∨ A = some ⟨kb, 0, none⟩) := ⟨H2.out.2.2.2.1⟩
  have H3 := Aside0.mk (show KeptE w w2 S ∧ J ((keysOf t).take 0 |>.filter (fun p => insideT p dir)) w2 ∧ (0 < n → w2.heap[kb]? = some (.cells cur 9 (0, 0))) from ⟨hpre.1, hpre.2, H2.out.2.2.2.2.2.1⟩)
  clear hpre
  go_loopg [7, 15] n (fun kq v7 v15 W => ∃ j : Nat, v15 = .int .i64 j ∧ Aside0 (j + kq = n ∧ KeptE w W S ∧ J (((keysOf t).take j).filter (fun p => insideT p dir)) W ∧ (0 < n → W.heap[kb]? = some (.cells cur 9 (0, 0)))))
  case atStart => exact ⟨0, rfl, ⟨by omega, H3.out⟩⟩
  case round =>
    obtain ⟨j, rfl, HR⟩ := hrel
    cases gk with
    | zero =>
      have hj : ¬ (j : Int) < n := by have := HR.out.1; omega
      go_wp2_with (fail)
      go_end0
      refine ⟨rfl, ?_, HR.out.2.1⟩
      have := HR.out.2.2.1
      rw [List.take_of_length_le (by rw [H2.out.2.1]; have := HR.out.1; omega)] at this
      exact this
    | succ gk =>
      have hj : (j : Int) < n := by have := HR.out.1; omega
      have hj2 : j < n := by omega
      obtain rfl : A = some ⟨kb, 0, none⟩ := by
        rcases HA.out with h | h
        · omega
        · exact h
      obtain ⟨p, hp⟩ : ∃ p, (keysOf t)[j]? = some p := ⟨_, List.getElem?_eq_getElem (by rw [H2.out.2.1]; omega)⟩
      have hc := H2.out.2.2.2.2.2.2 wr (HR.out.2.2.2 (by omega)) j p hp
      have hins := HD.out p wr
      have htk : (keysOf t).take (j + 1) = (keysOf t).take j ++ [p] := by rw [List.take_add_one, hp]; rfl
      obtain ⟨b, hb⟩ : ∃ b, b = insideT p dir := ⟨_, rfl⟩
      rw [← hb] at hins
      have HB := Aside0.mk (And.intro hb htk)
      have HKB := Aside0.mk H2.out.2.2.1
      have HP := Aside0.mk hp
      clear hb htk hp
      cases b with
      | false =>
        go_wp2_with (go_at_call 61; refine hins.mono ?_; rintro e w5 ⟨rfl, hB5⟩; have H5 := Aside0.mk hB5; clear hB5)
        go_roundg gk
        case measure => omega
        case rel =>
          refine ⟨j + 1, by simp, ⟨by have := HR.out.1; omega, HR.out.2.1.below H5.out, ?_, fun h0 => (H5.out.block kb (blk_lt (HR.out.2.2.2 h0))).trans (HR.out.2.2.2 h0)⟩⟩
          rw [HB.out.2, List.filter_append, List.filter_cons_of_neg (by rw [← HB.out.1]; simp), List.filter_nil, List.append_nil]
          exact HJ.out.2.1 _ _ _ HR.out.2.2.1 H5.out
      | true =>
        have htd : todoT t dir = ((keysOf t).take j).filter (fun p => insideT p dir) ++ p :: ((keysOf t).drop (j + 1)).filter (fun p => insideT p dir) := by
          have e1 : keysOf t = (keysOf t).take j ++ p :: (keysOf t).drop (j + 1) := by
            rw [← List.drop_eq_getElem_cons' HP.out, List.take_append_drop]
          unfold todoT
          conv => lhs; rw [e1]
          rw [List.filter_append, List.filter_cons_of_pos (by rw [← HB.out.1])]
        have HT := Aside0.mk htd
        have HW := Aside0.mk (fun (W : World) (hB : Below wr.heap.size wr W) => HSTEP.out _ p _ W HT.out (HJ.out.2.1 _ _ _ HR.out.2.2.1 hB) (HR.out.2.1.below hB))
        clear htd
        go_wp2_with (first | (go_at_call 61; refine hins.mono ?_; rintro e w5 ⟨rfl, hB5⟩; have H5 := Aside0.mk hB5; have hst := HW.out w5 hB5; clear hB5) | (go_at_call 57; refine hst.mono ?_; rintro e w6 ⟨rfl, hJ6, hK6⟩; have H6 := Aside0.mk (And.intro hJ6 hK6); clear hJ6 hK6))
        go_roundg gk
        case measure => omega
        case rel =>
          refine ⟨j + 1, by simp, ⟨by have := HR.out.1; omega, (HR.out.2.1.below H5.out).then_ H6.out.2 (fun k h => .inl h), ?_, fun h0 => ?_⟩⟩
          · rw [HB.out.2, List.filter_append, List.filter_cons_of_pos (by rw [← HB.out.1]), List.filter_nil]
            exact H6.out.1
          · have h1 := (H5.out.block kb (blk_lt (HR.out.2.2.2 h0))).trans (HR.out.2.2.2 h0)
            exact (H6.out.2.1.2 kb (blk_lt h1) (fun hs => by have := HJ.out.2.2 kb hs; have := HKB.out; omega)).trans h1
end Go.Proofs.YtkjplffpihfliaaGreatDoor
end

section
/- The contract of (*Tree).Remove. -/
namespace Go.Proofs.YtkjplffpihfliaaGreatDoor
open Go.RowKit Go.Proofs.YtkjplffpihfliaaGreatDoorW.PrintWords PAll

theorem TreeIs.keptL {w w' : World} {base : Nat} {ok S : Nat → Prop} {g bm : Nat} {seed : Int} {t : List (ByteArray × NodeD)} (h : TreeIs w base ok g bm seed t) (hk : KeptE w w' S) (hs : ∀ k, ok k → k < w.heap.size → ¬ S k) : TreeIs w' base ok g bm seed t :=
  ((h.mono (ok' := fun k => ok k ∧ k < w.heap.size) (fun _ a b => ⟨a, b⟩)).kept hk (fun k a => hs k a.1 a.2)).mono (fun _ a _ => a.1)
/-- What Remove gives: the error, and the tree. -/
def removeT (t : List (ByteArray × NodeD)) (s : ByteArray) : Int × List (ByteArray × NodeD) :=
  if isPath s = false then (1, t) else if (sget t s).isSome = false then (3, t) else if (todoT t s).isEmpty = false then (7, t) else (0, sdel t s)
theorem removeFn_any (W : World) (p : ByteArray) (kb : Nat) (b : Bool) (h : W.heap[kb]? = some (.cells #[.bool b] 4 (0, 0))) :
    Calls Tryz.prog 57 #[.string p, .pointer (some ⟨kb, 0, none⟩)] W fun e w' => e = .returned (.tuple #[]) ∧ w' = W.setCell ⟨kb, 0, none⟩ (.bool false) := by
  have c0 : W.cell? ⟨kb, 0, none⟩ = some (.bool b) := by rw [blk_cell h]; rfl
  have f0 : W.frozen? ⟨kb, 0, none⟩ = false := blk_frozen h 0
  clear h
  go_enter Tryz.func57, Tryz.ntmps57
  go_wp2
  go_end0
  exact ⟨rfl, rfl⟩
set_option maxRecDepth 100000 in
set_option maxHeartbeats 2000000 in
theorem remove_any (w : World) (base : Nat) (ok : Nat → Prop) (g bm : Nat) (seed m : Int) (t : List (ByteArray × NodeD)) (s : ByteArray) (hs : s.size ≤ 100000) (hl : t.length ≤ 1000) (hkl : ∀ p ∈ t, p.1.size ≤ 100000) (hm : w.cell? ⟨0, 0, none⟩ = some (.int .i64 m)) (h : TreeIs w base ok g bm seed t) :
    Calls Tryz.prog 20 #[.pointer (some ⟨g, 0, none⟩), .string s] w fun e w' => e = .returned (.int .i64 (removeT t s).1) ∧ TreeIs w' base ok g bm seed (removeT t s).2 ∧ KeptE w w' (fun k => k = bm) := by
  have hreal := tree_real h.2.2.2.1
  have hval := valid_any w s m hs hm
  have hmf : ∀ (fn : Fn) (first cap : Array Value) (w : World), (Instr.makeFunc fn first cap).run Tryz.prog w = .ok (.func fn first cap) w := fun _ _ _ _ => rfl
  have HT := Aside0.mk (fun (W : World) (hB : Below w.heap.size w W) => (h.kept (KeptE.of_below hB (fun _ => False)) (fun _ _ h => h) : TreeIs W base ok g bm seed t))
  have HTK := Aside0.mk (fun (W W' : World) (hB : Below w.heap.size w W) (kb : Nat) (hkb : w.heap.size ≤ kb) (hk : KeptE W W' (fun k => k = kb)) =>
    ((((h.mono (ok' := fun k => ok k ∧ k < w.heap.size) (fun _ a b => ⟨a, b⟩)).kept (KeptE.of_below hB (fun _ => False)) (fun _ _ h => h)).kept hk (fun k a e => by have := a.2; have e' : k = kb := e; omega)).mono (fun _ a _ => a.1) : TreeIs W' base ok g bm seed t))
  have HF := Aside0.mk (fun (W : World) (hB : Below w.heap.size w W) (W' : World) (hk : KeptE W W' (fun k => k = bm)) => ((KeptE.of_below hB (fun k => k = bm)).then_ hk (fun k h => .inl h) : KeptE w W' (fun k => k = bm)))
  have HL := Aside0.mk (And.intro hl (And.intro hkl hs))
  obtain ⟨b, hb⟩ : ∃ b, b = isPath s := ⟨_, rfl⟩
  rw [← hb] at hval
  have HB := Aside0.mk hb
  clear hb h hm hl hkl hs
  go_enter Tryz.func20, Tryz.ntmps20
  cases b with
  | false =>
    have e : removeT t s = (1, t) := by unfold removeT; rw [if_pos HB.out.symm]
    rw [e]
    go_wp2_with (first | (go_at_call 49; refine hreal.mono ?_; rintro e w ⟨rfl, hw⟩; cases hw) | (go_at_call 50; refine hval.mono ?_; rintro e w2 ⟨rfl, hB⟩))
    go_ret
    exact ⟨rfl, HT.out _ hB, KeptE.of_below hB _⟩
  | true =>
    go_upto_region 3 with (first | (go_at_call 49; refine hreal.mono ?_; rintro e w ⟨rfl, hw⟩; cases hw) | (go_at_call 50; refine hval.mono ?_; rintro e w2 ⟨rfl, hB⟩))
    have hT2 := HT.out _ hB
    have c2 : w2.cell? ⟨g, 2, none⟩ = some (.map (some bm)) := by rw [blk_cell hT2.2.2.2.1]; rfl
    rcases tree_look hT2 s with ⟨h1, h2, _⟩ | ⟨f, d, A, c, h1, h2, _⟩
    · have e : removeT t s = (3, t) := by unfold removeT; rw [if_neg (by rw [← HB.out]; simp), h1]; rfl
      have HE := Aside0.mk e
      have HB3 := Aside0.mk (below_alloc hB (.cells #[.bool false, .slice none 0 0] tNode))
      clear hT2 h1 e hB
      go_wp2_with (fail)
      go_ret
      rw [HE.out]
      exact ⟨rfl, HT.out _ HB3.out, KeptE.of_below HB3.out _⟩
    · have e : removeT t s = if (todoT t s).isEmpty = false then (7, t) else (0, sdel t s) := by unfold removeT; rw [if_neg (by rw [← HB.out]; simp), h1, if_neg (by simp)]
      have HE := Aside0.mk e
      have HB2 := Aside0.mk hB
      clear hT2 h1 e hB
      go_upto_region 7 with (fail)
      obtain ⟨W4, hW4⟩ : ∃ W4, W4 = (w2.alloc (.cells #[.bool f, .slice A d.length c] tNode)).alloc (.cells #[.bool true] 4) := ⟨_, rfl⟩
      rw [← hW4]
      have b4 : Below w.heap.size w W4 := by rw [hW4]; exact below_alloc (below_alloc HB2.out _) _
      obtain ⟨kb, hkb⟩ : ∃ kb, kb = w2.heap.size + 1 := ⟨_, rfl⟩
      have v4 : W4.heap[kb]? = some (.cells #[.bool true] 4 (0, 0)) := by
        rw [hW4, hkb]
        have := heap_alloc_new (w2.alloc (.cells #[.bool f, .slice A d.length c] tNode)) (.cells #[.bool true] 4)
        simpa using this
      have hlo : w.heap.size ≤ kb := by have := HB2.out.size; omega
      have hbel := below_R W4 base ok g bm seed t s HL.out.2.2 HL.out.1 HL.out.2.1 (HT.out W4 b4) ⟨kb, 0, none⟩ (fun pre W => W.heap[kb]? = some (.cells #[.bool pre.isEmpty] 4 (0, 0))) (fun k => k = kb)
        (fun k e => by rw [e]; exact blk_lt v4) (fun W hB => (hB.block kb (blk_lt v4)).trans v4) (fun pre W W' h hB => (hB.block kb (blk_lt h)).trans h)
        (fun pre p rest W _ hJ hK => (removeFn_any W p kb _ hJ).mono (by
          rintro e w' ⟨rfl, rfl⟩
          refine ⟨rfl, ?_, (KeptE.refl W (fun k => k = kb)).setCell (p := ⟨kb, 0, none⟩) (.inl rfl) _⟩
          have e0 : (pre ++ [p]).isEmpty = false := by cases pre <;> rfl
          have := blk_set hJ 0 (.bool false)
          rw [e0]
          simpa using this))
      have H4 := Aside0.mk (And.intro b4 hlo)
      clear b4 v4 hW4 hlo hreal hval
      rw [← hkb]
      clear hkb
      go_upto_region 8 with (go_at_call 56; refine hbel.mono ?_; rintro e w8 ⟨rfl, hJ8, hK8⟩)
      have hT8 := HTK.out W4 w8 H4.out.1 kb H4.out.2 hK8
      have k8 : w8.cell? ⟨kb, 0, none⟩ = some (.bool (todoT t s).isEmpty) := by rw [blk_cell hJ8]; rfl
      have HK8 := Aside0.mk (show KeptE w w8 (fun k => k = bm) from (KeptE.of_below H4.out.1 (fun k => k = bm)).then_ hK8 (fun k e => .inr (by have := H4.out.2; have e' : k = kb := e; omega)))
      have c8 : w8.cell? ⟨g, 2, none⟩ = some (.map (some bm)) := by rw [blk_cell hT8.2.2.2.1]; rfl
      obtain ⟨q, hq⟩ : ∃ q, q = (todoT t s).isEmpty := ⟨_, rfl⟩
      rw [← hq] at k8
      have HQ := Aside0.mk hq
      have HT8 := Aside0.mk hT8
      clear hq hJ8 hK8 hT8 hbel
      cases q with
      | false =>
        go_wp2_with (fail)
        go_ret
        rw [HE.out, ← HQ.out, if_pos rfl]
        exact ⟨rfl, HT8.out, HK8.out⟩
      | true =>
        obtain ⟨w9, hdel, hT9, hk9, _⟩ := tree_delete HT8.out s (0 : TypeId)
        have H9 := Aside0.mk (And.intro hT9 (HK8.out.then_ hk9 (fun k h => .inl h)))
        clear hT9 hk9
        go_wp2_with (fail)
        go_ret
        rw [HE.out, ← HQ.out, if_neg (by simp)]
        exact ⟨rfl, H9.out⟩
end Go.Proofs.YtkjplffpihfliaaGreatDoor
end

section
/- amnestylaw09.numbered. -/
namespace Go.Proofs.YtkjplffpihfliaaGreatDoor
open Go.RowKit Go.Proofs.YtkjplffpihfliaaGreatDoorW.PrintWords PAll

/-- The path with a number. -/
def numS (n : Nat) : ByteArray := ⟨#[101, UInt8.ofNat (97 + n / 676 % 26), UInt8.ofNat (97 + n / 26 % 26), UInt8.ofNat (97 + n % 26)]⟩
def numDec (s : ByteArray) : Nat := ((s.get! 1).toNat - 97) * 676 + ((s.get! 2).toNat - 97) * 26 + ((s.get! 3).toNat - 97)
theorem num_facts : ((List.range 1001).all fun n => isPath (numS n) && decide (lastSlash (numS n) = -1) && (numDec (numS n) == n)) = true := by kernel_rfl
theorem numS_path {n : Nat} (h : n ≤ 1000) : isPath (numS n) = true := by
  have := List.all_eq_true.1 num_facts n (List.mem_range.2 (by omega))
  simp only [Bool.and_eq_true] at this
  exact this.1.1
theorem numS_parent {n : Nat} (h : n ≤ 1000) : parentOf (numS n) = ByteArray.empty := by
  have := List.all_eq_true.1 num_facts n (List.mem_range.2 (by omega))
  simp only [Bool.and_eq_true, decide_eq_true_eq] at this
  unfold parentOf
  rw [this.1.2]
  rfl
theorem numS_inj {a b : Nat} (ha : a ≤ 1000) (hb : b ≤ 1000) (h : numS a = numS b) : a = b := by
  have h1 := List.all_eq_true.1 num_facts a (List.mem_range.2 (by omega))
  have h2 := List.all_eq_true.1 num_facts b (List.mem_range.2 (by omega))
  simp only [Bool.and_eq_true, beq_iff_eq] at h1 h2
  rw [← h1.2, ← h2.2, h]
theorem numS_size (n : Nat) : (numS n).size = 4 := rfl
theorem numS_made (n : Nat) : (⟨#[101]⟩ : ByteArray) ++ strOfNums [97 + (n : Int) / 676 % 26, 97 + (n : Int) / 26 % 26, 97 + (n : Int) % 26] = numS n := by
  have e1 : (97 + (n : Int) / 676 % 26).toNat = 97 + n / 676 % 26 := by omega
  have e2 : (97 + (n : Int) / 26 % 26).toNat = 97 + n / 26 % 26 := by omega
  have e3 : (97 + (n : Int) % 26).toNat = 97 + n % 26 := by omega
  unfold strOfNums numS
  simp only [List.map_cons, List.map_nil, e1, e2, e3]
  apply ByteArray.ext
  rw [ByteArray.data_append]
  rfl
set_option maxRecDepth 100000 in
theorem numbered_any (w : World) (n : Nat) (hn : n ≤ 1000) : Calls Tryz.prog 13 #[.int .i64 n] w fun e w' => e = .returned (.string (numS n)) ∧ Below w.heap.size w w' := by
  have hcv := Kd.C_string (P := Tryz.prog) (c := 3) Tryz.underlying31 Tryz.underlying5 Tryz.underlying9 (C_lit (W := w) #[.int .u8 (97 + (n : Int) / 676 % 26), .int .u8 (97 + (n : Int) / 26 % 26), .int .u8 (97 + (n : Int) % 26)] [97 + (n : Int) / 676 % 26, 97 + (n : Int) / 26 % 26, 97 + (n : Int) % 26] rfl (by simp))
  obtain ⟨X, hX⟩ : ∃ X, X = strOfNums [97 + (n : Int) / 676 % 26, 97 + (n : Int) / 26 % 26, 97 + (n : Int) % 26] := ⟨_, rfl⟩
  rw [← hX] at hcv
  have HX : Aside0 ((⟨#[101]⟩ : ByteArray) ++ X = numS n) := ⟨by rw [hX]; exact numS_made n⟩
  simp only [List.length_cons, List.length_nil, Nat.zero_add, Nat.reduceAdd] at hcv
  have hXs : X.size = 3 := by rw [hX]; simp [strOfNums]; rfl
  clear hX
  go_enter Tryz.func13, Tryz.ntmps13
  go_wp2_with (fail)
  go_ret
  exact ⟨by rw [← HX.out]; rfl, below_alloc (Below.refl _ _) _⟩
end Go.Proofs.YtkjplffpihfliaaGreatDoor
end

section
/- slices.Delete of one slice of bytes; (*Row).Remove, At and Len; Insert into a full row. -/
namespace Go.Proofs.YtkjplffpihfliaaGreatDoor
open Go.RowKit Go.Proofs.YtkjplffpihfliaaGreatDoorW.PrintWords PAll

theorem R_tail {W : World} {base g m c : Nat} {ok : Nat → Prop} {xs : List (List Int)} (h : Kd.R kB tB W base ok (.slice (some ⟨g, 0, none⟩) m c) xs) (v : Value) : Kd.R kB tB (W.setCell ⟨g, m, none⟩ v) base ok (.slice (some ⟨g, 0, none⟩) m c) xs := by
  have hm := (Kd.R_reads' h).1
  obtain ⟨hok, inner, hown, hr⟩ := h
  refine ⟨hok, inner, ⟨hown.1, ?_⟩, ⟨hr.1, fun j x hx => ?_⟩⟩
  · rcases hown.2 with ⟨hv, _⟩ | ⟨g', cap, cur, he, q1, q2, q3, q4, q5, q6⟩
    · cases hv
    · injection he with ha hn hc
      injection ha with ha
      injection ha with ha
      subst ha
      subst hc
      refine .inr ⟨g, c, cur.setIfInBounds m v, by rw [hn], q1, blk_set q2 m v, q3, q4, by simpa using q5, ?_⟩
      rw [Array.toList_setIfInBounds, List.take_set_of_le (by rw [← hn]; exact Nat.le_of_eq (Nat.mul_one _)), q6]
  · refine Kd.M_move _ (fun k hk => ?_) (hr.2 j x hx)
    exact Deep.blk_setCell_other W _ v k (fun e => hk.2 (by rw [show k = g from e]; rfl))
theorem infoB1 : (Tryz.prog.info? tB).map (fun i => i.size) = some 1 := by kernel_rfl
set_option maxRecDepth 100000 in
set_option maxHeartbeats 1000000 in
theorem delete_any (w : World) (base : Nat) (ok : Nat → Prop) (g m c i j : Nat) (hj : j = i + 1) (l : List (List Int)) (h : Kd.R kB tB w base ok (.slice (some ⟨g, 0, none⟩) (m + 1) c) l) (hi : i ≤ m) (hm : m ≤ 100000) (hbase : base ≤ w.heap.size) :
    Calls Tryz.prog 55 #[.slice (some ⟨g, 0, none⟩) (m + 1) c, .int .i64 i, .int .i64 j] w fun e w' => e = .returned (.slice (some ⟨g, 0, none⟩) m c) ∧ Kd.R kB tB w' base ok (.slice (some ⟨g, 0, none⟩) m c) (l.eraseIdx i) ∧ KeptE w w' (fun k => k = g) := by
  obtain ⟨r1, r2, _⟩ := Kd.R_reads' h
  have HO := Aside0.mk (Kd.R_drew h)
  have HM := Aside0.mk (And.intro hi hbase)
  have hc1 : m + 1 ≤ c := r2
  have hcl : ∀ (W : World), Aside0 (Kd.R kB tB W base ok (.slice (some ⟨g, 0, none⟩) m c) (l.eraseIdx i)) → ∀ ty, (Builtin.clear_ #[tBs] ty #[.slice (some ⟨g, m, none⟩) 1 (c - m)]).run Tryz.prog W = .ok (.tuple #[]) (W.setCell ⟨g, m, none⟩ (.slice none 0 0)) := by
    intro W hW ty
    obtain ⟨_, inner, hown, hr⟩ := hW.out
    rcases hown.2 with ⟨hv, _⟩ | ⟨g', cap, cur, he, q1, q2, q3, q4, q5, q6⟩
    · cases hv
    · injection he with ha hn hc
      injection ha with ha
      injection ha with ha
      subst ha
      subst hc
      have := Lib.run_clear_slice (P := Tryz.prog) W tBs tB ty (.slice none 0 0) Tryz.underlying57 Tryz.zeroValue31 rfl rfl g m 1 (c - m) (by omega)
        (fun j hj => by have e1 : kB.sz = 1 := rfl; rw [e1] at q5; rw [blk_cell q2]; simp; omega) (fun j hj => blk_frozen q2 _)
      rw [this]
      rfl
  have hi1 : (i : Int) ≤ m := by omega
  have hc2 : (m : Int) + 1 ≤ c := by omega
  have hc3 : ¬ c = m := by omega
  have hib : i ≤ c := by omega
  have hj1 : (j : Int) ≤ (m : Int) + 1 := by omega
  have hjc : j ≤ c := by omega
  have hne : ¬ (i : Int) = j := by omega
  have hij : i ≤ j := by omega
  have hij2 : (i == j) = false := by simpa using (by omega : ¬ i = j)
  have hij3 : ((i : Int) == (j : Int)) = false := by simpa using (by omega : ¬ (i : Int) = j)
  have HJ := Aside0.mk hj
  clear hj
  clear h r1 r2 hbase
  go_enter Tryz.func55, Tryz.ntmps55
  go_upto_region 5 with (fail)
  go_region_law (refine Kd.R_delete_step kB (w0 := w.drew) base rfl (.tmp 22) (.tmp 25) tBs tB rfl Tryz.underlying57 infoB1 (g := g) (n := m + 1) (c := c) (k := i) rfl rfl ?hA ?hmm HO.out ?hk (Below.refl _ _) HM.out.2 ?_; (case hA => rw [HJ.out, show kB.sz = 1 from rfl]; simp [Addr.add_lit]; done); (case hmm => rw [HJ.out]; done); (case hk => have := HM.out.1; omega); intro w1 h1 hB1 hg1; have h1' : Kd.R kB tB w1 base ok (.slice (some ⟨g, 0, none⟩) m c) (l.eraseIdx i) := h1; have hc1x := hcl w1 ⟨h1'⟩; have H1 := Aside0.mk (And.intro h1' hg1); clear h1 h1' hB1 hg1)
  all_goals go_wp2_with (fail)
  all_goals
    go_ret
    refine ⟨rfl, ?_, ?_⟩
    · first
        | exact R_tail H1.out.1 _
        | (have hcj : c = j := by assumption
           rw [← hcj]
           exact R_tail H1.out.1 _)
    · exact ((KeptE.of_grown H1.out.2 ((KeptE.refl w (fun k => k = g)).drew) (fun k e => .inl (by cases e; rfl))).setCell (p := ⟨g, m, none⟩) (.inl rfl) _)
end Go.Proofs.YtkjplffpihfliaaGreatDoor
end

section
/- (*Row).Remove, At, Len; Insert into a full row. -/
namespace Go.Proofs.YtkjplffpihfliaaGreatDoor
open Go.RowKit Go.Proofs.YtkjplffpihfliaaGreatDoorW.PrintWords PAll

theorem rowLen_any (w : World) (base : Nat) (ok : Nat → Prop) (g : Nat) (l : List (List Int)) (h : RowIs w base ok g l) :
    Calls Tryz.prog 17 #[.pointer (some ⟨g, 0, none⟩)] w fun e w' => e = .returned (.int .i64 l.length) ∧ w' = w := by
  obtain ⟨hg, iv, hgl, hR⟩ := h
  have hreal := row_real w g iv hgl
  obtain ⟨A, c, rfl, _, _⟩ := Kd.R_reads hR
  have c1 : w.cell? ⟨g, 1, none⟩ = some (.slice A l.length c) := by rw [blk_cell hgl]; rfl
  obtain ⟨n, hn⟩ : ∃ n, n = l.length := ⟨_, rfl⟩
  rw [← hn] at c1 ⊢
  clear hgl hR hn
  go_enter Tryz.func17, Tryz.ntmps17
  go_wp2_with (go_at_call 46; refine hreal.mono ?_; rintro e w ⟨rfl, rfl⟩)
  go_ret
  exact ⟨rfl, rfl⟩
set_option maxRecDepth 100000 in
theorem rowAt_any (w : World) (base : Nat) (ok : Nat → Prop) (g i : Nat) (l : List (List Int)) (h : RowIs w base ok g l) (hi : i < l.length) (hl : l.length ≤ 100000) (hx : ∀ x ∈ l, x.length ≤ 100000) :
    Calls Tryz.prog 21 #[.pointer (some ⟨g, 0, none⟩), .int .i64 i] w fun e w' => ∃ v, e = .returned (.tuple #[v, .int .i64 0]) ∧ Buf w' w.heap.size v (l.getD i []) ∧ Below w.heap.size w w' := by
  have hlen := rowLen_any w base ok g l h
  obtain ⟨hg, iv, hgl, hR⟩ := h
  obtain ⟨A, c, rfl, _, hC⟩ := Kd.R_reads hR
  have c1 : w.cell? ⟨g, 1, none⟩ = some (.slice A l.length c) := by rw [blk_cell hgl]; rfl
  obtain ⟨ad, A6, c6, hA1, hcell, hel⟩ := items_at hC hi
  subst hA1
  obtain ⟨bi, rfl⟩ := Kd.R_head hR
  have hxl : (l.getD i []).length ≤ 100000 := by rw [getD_lt hi]; exact hx _ (List.getElem_mem _)
  obtain ⟨xs, hxs⟩ : ∃ xs, xs = l.getD i [] := ⟨_, rfl⟩
  rw [← hxs] at hcell hel hxl ⊢
  rw [Addr.add_lit, Nat.zero_add] at hcell
  have hcl := clone_any w A6 c6 xs hel (by omega)
  obtain ⟨n, hn⟩ : ∃ n, n = l.length := ⟨_, rfl⟩
  rw [← hn] at c1 hlen hi
  have hi' : (i : Int) < n := by omega
  clear hgl hR hn hel hC hxs hxl
  go_enter Tryz.func21, Tryz.ntmps21
  go_wp2_with (first | (go_at_call 17; refine hlen.mono ?_; rintro e w ⟨rfl, hw⟩; cases hw) | (go_at_call 48; refine hcl.mono ?_; rintro e w2 ⟨v, rfl, hb, hB⟩))
  go_ret2
  exact ⟨_, rfl, hb, hB⟩
set_option maxRecDepth 100000 in
theorem rowInsert_full (w : World) (base : Nat) (ok : Nat → Prop) (g i : Nat) (l : List (List Int)) (n : Nat) (A : Option Addr) (c : Nat) (h : RowIs w base ok g l) (hxl : n ≤ 100) (hi : i ≤ l.length) (hl : l.length = 1000) :
    Calls Tryz.prog 11 #[.pointer (some ⟨g, 0, none⟩), .int .i64 i, .slice A n c] w fun e w' => e = .returned (.int .i64 5) ∧ w' = w := by
  obtain ⟨hg, iv, hgl, hR⟩ := h
  have hreal := row_real w g iv hgl
  obtain ⟨A1, c1, rfl, _, _⟩ := Kd.R_reads hR
  have d1 : w.cell? ⟨g, 1, none⟩ = some (.slice A1 l.length c1) := by rw [blk_cell hgl]; rfl
  rw [hl] at d1 hi
  have hi' : (i : Int) ≤ 1000 := by omega
  have hn' : (n : Int) ≤ 100 := by omega
  clear hgl hR hl
  go_enter Tryz.func11, Tryz.ntmps11
  go_wp2_with (go_at_call 46; refine hreal.mono ?_; rintro e w' ⟨rfl, rfl⟩)
  go_ret
  exact ⟨rfl, rfl⟩
set_option maxRecDepth 100000 in
theorem rowRemove_any (w : World) (base : Nat) (ok : Nat → Prop) (g i : Nat) (l : List (List Int)) (h : RowIs w base ok g l) (hi : i < l.length) (hl : l.length ≤ 1000) (hbase : base ≤ w.heap.size) :
    Calls Tryz.prog 19 #[.pointer (some ⟨g, 0, none⟩), .int .i64 i] w fun e w' => e = .returned (.int .i64 0) ∧ RowIs w' base ok g (l.eraseIdx i) ∧ KeptE w w' ok := by
  obtain ⟨hg, iv, hgl, hR⟩ := h
  have hreal := row_real w g iv hgl
  obtain ⟨A1, c1, rfl, _, hC⟩ := Kd.R_reads hR
  obtain ⟨ad, _, _, hA1, _, _⟩ := items_at hC hi
  subst hA1
  obtain ⟨gi, rfl⟩ := Kd.R_head hR
  obtain ⟨m, hm⟩ : ∃ m, l.length = m + 1 := ⟨l.length - 1, by omega⟩
  rw [hm] at hR hgl
  have hgi : ok gi ∧ gi ≠ g := hR.1 gi rfl
  have d1 : w.cell? ⟨g, 1, none⟩ = some (.slice (some ⟨gi, 0, none⟩) (m + 1) c1) := by rw [blk_cell hgl]; rfl
  have hdel := delete_any w base _ gi m c1 i (i + 1) rfl l hR (by omega) (by omega) hbase
  have HF := Aside0.mk (fun (w1 : World) (hR1 : Kd.R kB tB w1 base (fun k => ok k ∧ k ≠ g) (.slice (some ⟨gi, 0, none⟩) m c1) (l.eraseIdx i)) (hk : KeptE w w1 (fun k => k = gi)) =>
    have hg1 : w1.heap[g]? = some (.cells #[.bool true, .slice (some ⟨gi, 0, none⟩) (m + 1) c1] tRow (0, 0)) := (hk.1.2 g (blk_lt hgl) (fun e => hgi.2 e.symm)).trans hgl
    (⟨blk_frozen hg1 1, ⟨hg, _, blk_set hg1 1 (.slice (some ⟨gi, 0, none⟩) m c1), Kd.R_kept hR1 ((KeptE.refl w1 (fun k => k = g)).setCell (p := ⟨g, 1, none⟩) (.inl rfl) _).1 (fun k a e => a.2 e)⟩, (hk.mono (fun k e => by rw [show k = gi from e]; exact hgi.1)).setCell (p := ⟨g, 1, none⟩) (.inl hg) _⟩ :
      w1.frozen? ⟨g, 1, none⟩ = false ∧ RowIs (w1.setCell ⟨g, 1, none⟩ (.slice (some ⟨gi, 0, none⟩) m c1)) base ok g (l.eraseIdx i) ∧ KeptE w (w1.setCell ⟨g, 1, none⟩ (.slice (some ⟨gi, 0, none⟩) m c1)) ok))
  have HC := Aside0.mk (fun (w1 : World) (hk : KeptE w w1 (fun k => k = gi)) => (by rw [blk_cell ((hk.1.2 g (blk_lt hgl) (fun e => hgi.2 e.symm)).trans hgl)]; rfl : w1.cell? ⟨g, 1, none⟩ = some (.slice (some ⟨gi, 0, none⟩) (m + 1) c1)))
  have hi' : (i : Int) < (m : Int) + 1 := by omega
  have hw1 : IntKind.i64.wrap ((i : Int) + 1) = (i : Int) + 1 := IntWalk.i64_in _ (by omega)
  rw [show ((i + 1 : Nat) : Int) = (i : Int) + 1 from rfl] at hdel
  clear hgl hR hC hgi hg hi hl hbase hm
  go_enter Tryz.func19, Tryz.ntmps19
  go_wp2_with (first | (go_at_call 46; refine hreal.mono ?_; rintro e w' ⟨rfl, hw⟩; cases hw) | (go_at_call 55; refine hdel.mono ?_; rintro e w1 ⟨rfl, q1, q2⟩; obtain ⟨f1, q3, q4⟩ := HF.out w1 q1 q2; have d2 := HC.out w1 q2; have H9 := Aside0.mk (And.intro q3 q4); clear q1 q2 q3 q4))
  go_ret
  exact ⟨rfl, H9.out⟩
end Go.Proofs.YtkjplffpihfliaaGreatDoor
end
