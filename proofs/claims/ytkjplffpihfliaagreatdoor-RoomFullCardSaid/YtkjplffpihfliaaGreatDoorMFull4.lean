/- Texts of this claim, merged by wip/merge.py: Named ShSplit Valid Parent Tree Make Coll. -/
import Derived.Test.YtkjplffpihfliaaGreatDoorMFull3
import Derived.IntWalk
import Derived.Shelf.Small.Bits
import Derived.Shelf.Small.Strs
import Derived.Shelf.Strconv.Itoa0
import Derived.Shelf.Strings.Search1
import Derived.Shelf.Strings.Search2
import Derived.Shelf.Strings.Search3
import Derived.Shelf.Strings.Count
import Derived.Shelf.LaysM
import Derived.Shelf.Strings.Shaped
import Derived.Shelf.Strings.Split
import Derived.Shelf.Strings.SplitShaped
import Derived.Shelf.Unicode.DecodeSlow
import Derived.Shelf.Slices.In.SortNone
import Derived.Shelf.Bytes.SlSearch0
import Derived.Ground.SlbNamesProg
import Derived.Shelf.Bytes.SlJoin
import Derived.Ground.SlgmProg
import Derived.Shelf.SortM.Plain
import Derived.Ground.PaProg
import Derived.Shelf.Path.Small
import Derived.Shelf.Bytes.Small
import Derived.Test.YtkjplffpihfliaaGreatDoorProg
import Derived.Lib.SplitLaws
import Derived.Test.YtkjplffpihfliaaGreatDoorMFull2
import Derived.Test.YtkjplffpihfliaaGreatDoorMFull1
section
/- The contract of room.named. -/
namespace Go.Proofs.YtkjplffpihfliaaGreatDoor
open Go.RowKit Go.Proofs.YtkjplffpihfliaaGreatDoorW.PrintWords PAll

/-- Whether a byte may stand in a name. -/
def nameByte (c : Int) : Bool := (97 ≤ c && c ≤ 122) || (48 ≤ c && c ≤ 57) || c == 45 || c == 46
def bytesI (s : ByteArray) : List Int := s.data.toList.map (fun b => (b.toNat : Int))
/-- Whether a text is a name. -/
def isName (s : ByteArray) : Bool := (bytesI s).all nameByte && decide (1 ≤ s.size) && decide (s.size ≤ 16)

theorem bytesI_length (s : ByteArray) : (bytesI s).length = s.size := by simp [bytesI]
theorem bytesI_range (s : ByteArray) (j : Nat) : 0 ≤ (bytesI s).getD j 0 ∧ (bytesI s).getD j 0 < 256 := by
  rw [List.getD_eq_getElem?_getD]
  unfold bytesI
  rw [List.getElem?_map]
  cases s.data.toList[j]? with
  | none => simp
  | some b =>
    simp
    have := b.toNat_lt
    omega
/-- The bytes of a string as a new slice. -/
theorem conv_run (w : World) (s : ByteArray) : ∃ cap W1, (convert 9 31 (.string s)).run Tryz.prog w = .ok (.slice (some ⟨w.heap.size, 0, none⟩) s.size cap) W1 ∧ Below w.heap.size w W1 ∧ (∀ j, j < s.size → W1.cell? ⟨w.heap.size, j, none⟩ = some (.int .u8 ((bytesI s).getD j 0))) := by
  refine ⟨_, _, run_bytes_of_string w 9 31 5 s Tryz.underlying9 Tryz.underlying31 Tryz.underlying5, ?_, fun j hj => ?_⟩
  · exact Below.alloc (Below.refl _ _).drew (Nat.le_refl _) _
  · have h0 : (w.drew.alloc (.cells (bytesRow s (grownCap w s.size 0 5)) 5 ((bytesRow s (grownCap w s.size 0 5)).size, (bytesRow s (grownCap w s.size 0 5)).size + 1))).heap[w.heap.size]? = some (.cells (bytesRow s (grownCap w s.size 0 5)) 5 ((bytesRow s (grownCap w s.size 0 5)).size, (bytesRow s (grownCap w s.size 0 5)).size + 1)) := by
      show (w.heap.push _)[w.heap.size]? = _
      simp
    rw [cell_of_row _ _ _ _ _ _ h0, bytesRow_at s _ j hj, List.getD_eq_getElem?_getD]
    unfold bytesI
    rw [List.getElem?_map]
    have : s.data.toList[j]? = some s.data[j] := by simp [hj]
    rw [this]
    rfl

theorem take_all {l : List Int} {j : Nat} {c : Int} (h : (l.take j).all nameByte = true) (hj : j < l.length) (hc : c = l.getD j 0) (hb : nameByte c = true) : (l.take (j + 1)).all nameByte = true := by
  rw [List.take_add_one, List.all_append, h, List.getElem?_eq_getElem hj]
  rw [List.getD_eq_getElem?_getD, List.getElem?_eq_getElem hj] at hc
  simp at hc
  simp [← hc, hb]
theorem all_false {l : List Int} {j : Nat} {c : Int} (hj : j < l.length) (hc : c = l.getD j 0) (hb : nameByte c = false) : l.all nameByte = false := by
  rw [List.getD_eq_getElem?_getD, List.getElem?_eq_getElem hj] at hc
  simp at hc
  rw [List.all_eq_false]
  exact ⟨c, by rw [hc]; exact List.getElem_mem _, by simp [hb]⟩

set_option maxRecDepth 100000 in
set_option maxHeartbeats 1000000 in
theorem named_any (w : World) (s : ByteArray) (hs : s.size ≤ 100000) : Calls Tryz.prog 68 #[.string s] w fun e w' => e = .returned (.bool (isName s)) ∧ Below w.heap.size w w' := by
  obtain ⟨cap, W1, hconv, hB, hc⟩ := conv_run w s
  obtain ⟨n, hn⟩ : ∃ n, n = s.size := ⟨_, rfl⟩
  obtain ⟨l, hl⟩ : ∃ l, l = bytesI s := ⟨_, rfl⟩
  have hll : l.length = n := by rw [hl, hn]; exact bytesI_length s
  have hr : ∀ j, 0 ≤ l.getD j 0 ∧ l.getD j 0 < 256 := fun j => by rw [hl]; exact bytesI_range s j
  have HC := Aside0.mk hc
  have HB := Aside0.mk hB
  have HL := Aside0.mk (And.intro hl (And.intro hn (And.intro hll hr)))
  rw [← hn] at hconv
  clear hc hB hl hll hr
  have HS : Aside0 (isName s = (l.all nameByte && decide (1 ≤ n) && decide (n ≤ 16))) := ⟨by unfold isName; rw [HL.out.1, HL.out.2.1]⟩
  have hn' : (n : Int) ≤ 100000 := by omega
  have hsz : s.size = n := hn.symm
  clear hn hs
  go_enter Tryz.func68, Tryz.ntmps68
  go_wp2
  go_loopg [8, 4] n (fun kq v8 v4 w' => ∃ j : Nat, v8 = .int .i64 j ∧ Aside0 (j + kq = n) ∧ Aside0 ((l.take j).all nameByte = true) ∧ w' = W1)
  case atStart => exact ⟨0, rfl, ⟨by omega⟩, ⟨rfl⟩, rfl⟩
  case round =>
    obtain ⟨j, rfl, P1, P2, rfl⟩ := hrel
    cases gk with
    | zero =>
      have t1 : ¬ j < n := by have := P1.out; omega
      have P3 : Aside0 (l.all nameByte = true) := ⟨by have h := P2.out; rw [List.take_of_length_le (by have := HL.out.2.2.1; omega)] at h; exact h⟩
      go_wp2
      all_goals
        go_ret
        refine ⟨?_, HB.out⟩
        rw [HS.out, P3.out]
        first
          | (have h1 : (1 : Int) ≤ n := by assumption
             have h2 : 1 ≤ n := by omega
             simp [h2]
             omega)
          | (have h1 : (n : Int) < 1 := by assumption
             have h2 : ¬ 1 ≤ n := by omega
             simp [h2])
    | succ gk =>
      have t1 : j < n := by have := P1.out; omega
      obtain ⟨c, hc⟩ : ∃ c, c = l.getD j 0 := ⟨_, rfl⟩
      have d1 := HC.out j (by rw [← HL.out.2.1]; exact t1)
      rw [← HL.out.1, ← hc] at d1
      have e8 : IntKind.i64.wrap ((j : Int) + 1) = (j : Int) + 1 := IntWalk.i64_in _ (by omega)
      have P4 := Aside0.mk hc
      clear hc
      go_wp2
      all_goals first
        | (have hb : nameByte c = false := by
             rw [Bool.eq_false_iff]
             unfold nameByte
             simp only [Bool.or_eq_true, Bool.and_eq_true, decide_eq_true_eq, beq_iff_eq, ne_eq]
             try simp only [bne_iff_ne, ne_eq, bne_eq_false_iff_eq] at *
             omega
           go_ret
           refine ⟨?_, HB.out⟩
           rw [HS.out, all_false (by rw [HL.out.2.2.1]; exact t1) P4.out hb]
           rfl)
        | (have hb : nameByte c = true := by
             unfold nameByte
             simp only [Bool.or_eq_true, Bool.and_eq_true, decide_eq_true_eq, beq_iff_eq]
             try simp only [bne_iff_ne, ne_eq, bne_eq_false_iff_eq] at *
             omega
           have P5 := Aside0.mk (take_all P2.out (by rw [HL.out.2.2.1]; exact t1) P4.out hb)
           go_roundg gk
           case measure => omega
           case rel => exact ⟨j + 1, by simp, ⟨by have := P1.out; omega⟩, P5, rfl⟩)
end Go.Proofs.YtkjplffpihfliaaGreatDoor
end

section
/-
  DERIVED: THE SHELF's CONTRACTS AT THIS DUMP, IN PLAIN WORDS (tools/lay-plain.mjs out of 'TryzShelfX.lean', which tools/lay-shelf.mjs wrote): THE SAME DECLARATIONS UNDER THE SAME NAMES: 'import', 'namespace', 'open', 'def', 'theorem' AND NOTHING ELSE: no command of the shelf's: FOR A HAND-IN. Each laying: the table of numbers ('.._ren') and one theorem, a field a fact of the dump's own or the kernel's comparison; each contract: ONE APPLICATION.
-/
namespace Go.Proofs
open Go.Shelf
def Tryz.lays146_ren : Go.Shelf.Ren := ⟨fun | 146 => 110 | 221 => 155 | 268 => 186 | 138 => 187 | 143 => 188 | 195 => 207 | 197 => 208 | 218 => 209 | 219 => 210 | 260 => 226 | 217 => 227 | 225 => 228 | 224 => 229 | 267 => 230 | 266 => 237 | 314 => 238 | n => n, fun | 9 => 9 | 31 => 52 | 3 => 3 | 4 => 4 | 0 => 0 | 105 => 257 | 21 => 21 | 5 => 5 | 46 => 30 | 119 => 274 | 139 => 277 | 138 => 276 | 146 => 218 | 51 => 217 | n => n, fun | 1 => 0 | 3 => 1 | 4 => 2 | n => n⟩
theorem Tryz.lays146 : Go.Proofs.Lays.n146 Tryz.prog Tryz.lays146_ren := {
  mixed := by kernel_rfl
  f138 := Tryz.func187.trans (congrArg some (by kernel_rfl))
  f143 := Tryz.func188.trans (congrArg some (by kernel_rfl))
  f146 := Tryz.func110.trans (congrArg some (by kernel_rfl))
  f195 := Tryz.func207.trans (congrArg some (by kernel_rfl))
  f197 := Tryz.func208.trans (congrArg some (by kernel_rfl))
  f217 := Tryz.func227.trans (congrArg some (by kernel_rfl))
  f218 := Tryz.func209.trans (congrArg some (by kernel_rfl))
  f219 := Tryz.func210.trans (congrArg some (by kernel_rfl))
  f221 := Tryz.func155.trans (congrArg some (by kernel_rfl))
  f224 := Tryz.func229.trans (congrArg some (by kernel_rfl))
  f225 := Tryz.func228.trans (congrArg some (by kernel_rfl))
  f260 := Tryz.func226.trans (congrArg some (by kernel_rfl))
  f266 := Tryz.func237.trans (congrArg some (by kernel_rfl))
  f267 := Tryz.func230.trans (congrArg some (by kernel_rfl))
  f268 := Tryz.func186.trans (congrArg some (by kernel_rfl))
  f314 := Tryz.func238.trans (congrArg some (by kernel_rfl))
  t0 := Tryz.underlying0
  a0 := Tryz.isAgg0
  z0 := Tryz.sizeOf0
  v0 := Tryz.zeroValue0
  t3 := Tryz.underlying3
  a3 := Tryz.isAgg3
  z3 := Tryz.sizeOf3
  v3 := Tryz.zeroValue3
  t4 := Tryz.underlying4
  a4 := Tryz.isAgg4
  z4 := Tryz.sizeOf4
  v4 := Tryz.zeroValue4
  t5 := Tryz.underlying5
  a5 := Tryz.isAgg5
  z5 := Tryz.sizeOf5
  v5 := Tryz.zeroValue5
  t9 := Tryz.underlying9
  a9 := Tryz.isAgg9
  z9 := Tryz.sizeOf9
  v9 := Tryz.zeroValue9
  t21 := Tryz.underlying21
  a21 := Tryz.isAgg21
  z21 := Tryz.sizeOf21
  v21 := Tryz.zeroValue21
  t31 := Tryz.underlying52
  a31 := Tryz.isAgg52
  z31 := Tryz.sizeOf52
  v31 := Tryz.zeroValue52
  t46 := Tryz.underlying30
  a46 := Tryz.isAgg30
  z46 := Tryz.sizeOf30
  v46 := Tryz.zeroValue30
  t51 := Tryz.underlying217
  a51 := Tryz.isAgg217
  z51 := Tryz.sizeOf217
  v51 := Tryz.zeroValue217
  t105 := Tryz.underlying257
  a105 := Tryz.isAgg257
  z105 := Tryz.sizeOf257
  v105 := Tryz.zeroValue257
  t119 := Tryz.underlying274
  a119 := Tryz.isAgg274
  z119 := Tryz.sizeOf274
  t138 := Tryz.underlying276
  a138 := Tryz.isAgg276
  z138 := Tryz.sizeOf276
  v138 := Tryz.zeroValue276
  t139 := Tryz.underlying277
  a139 := Tryz.isAgg277
  z139 := Tryz.sizeOf277
  v139 := Tryz.zeroValue277
  t146 := Tryz.underlying218
  a146 := Tryz.isAgg218
  z146 := Tryz.sizeOf218
  v146 := Tryz.zeroValue218
  g1 := by kernel_rfl
  g3 := by kernel_rfl
  g4 := by kernel_rfl }
open Go.RowKit Go.Lib in
/-- strings.Split. (LAID: no walk: one application.) -/
theorem Tryz.strings_Split (s sep : ByteArray) (m : Int) (w : World) (hs : s.size < 4294967281) (hm : w.cell? ⟨0, 0, none⟩ = some (.int .i64 m)) (h1 : 1 ≤ sep.size) :
    Calls Tryz.prog 110 #[.string s, .string sep] w fun e w' =>
      e = .returned (.slice (some ⟨w.heap.size, 0, none⟩) (Lib.countB s sep + 1) (Lib.countB s sep + 1)) ∧ w' = w.alloc (.cells ((Lib.splitB sep 0 (Lib.countB s sep) s).map Value.string).toArray 9) := Any.strings_Split Tryz.lays146 (by kernel_rfl) s sep m w hs hm h1
end Go.Proofs
end

section
/- The contracts of room.valid and of the path's parent. -/
namespace Go.Proofs.YtkjplffpihfliaaGreatDoor
open Go.RowKit Go.Proofs.YtkjplffpihfliaaGreatDoorW.PrintWords PAll

abbrev slash : ByteArray := ⟨#[47]⟩
/-- The names of a path. -/
def namesOf (s : ByteArray) : List ByteArray := Lib.splitB slash 0 (Lib.countB s slash) s
/-- Whether a text is a path. -/
def isPath (s : ByteArray) : Bool := (namesOf s).all isName && decide (s.size ≤ 60) && decide ((namesOf s).length ≤ 8)
theorem namesOf_length (s : ByteArray) : (namesOf s).length = Lib.countB s slash + 1 := Lib.splitB_all slash (by decide) 0 _ s rfl
theorem names_size (sep : ByteArray) (save : Nat) : ∀ (k : Nat) (s : ByteArray), ∀ p ∈ Lib.splitB sep save k s, p.size ≤ s.size
  | 0, s, p, hp => by
    rw [Lib.splitB_zero, List.mem_singleton] at hp
    rw [hp]; exact Nat.le_refl _
  | k + 1, s, p, hp => by
    unfold Lib.splitB at hp
    split at hp
    · rw [List.mem_singleton] at hp
      rw [hp]; exact Nat.le_refl _
    · rcases List.mem_cons.1 hp with h | h
      · rw [h, ByteArray.size_extract]; omega
      · refine Nat.le_trans (names_size sep save k _ p h) ?_
        rw [ByteArray.size_extract]; omega

theorem names_take {P : List ByteArray} {j : Nat} {p : ByteArray} (h : (P.take j).all isName = true) (hj : j < P.length) (hp : p = P.getD j ByteArray.empty) (hb : isName p = true) : (P.take (j + 1)).all isName = true := by
  rw [List.take_add_one, List.all_append, h, List.getElem?_eq_getElem hj]
  rw [List.getD_eq_getElem?_getD, List.getElem?_eq_getElem hj] at hp
  simp at hp
  simp [← hp, hb]
theorem names_false {P : List ByteArray} {j : Nat} {p : ByteArray} (hj : j < P.length) (hp : p = P.getD j ByteArray.empty) (hb : isName p = false) : P.all isName = false := by
  rw [List.getD_eq_getElem?_getD, List.getElem?_eq_getElem hj] at hp
  simp at hp
  rw [List.all_eq_false]
  exact ⟨p, by rw [hp]; exact List.getElem_mem _, by simp [hb]⟩

set_option maxRecDepth 100000 in
set_option maxHeartbeats 1000000 in
theorem valid_any (w : World) (s : ByteArray) (m : Int) (hs : s.size ≤ 100000) (hm : w.cell? ⟨0, 0, none⟩ = some (.int .i64 m)) : Calls Tryz.prog 50 #[.string s] w fun e w' => e = .returned (.bool (isPath s)) ∧ Below w.heap.size w w' := by
  have hsp := Tryz.strings_Split s slash m w (by omega) hm (by decide)
  obtain ⟨P, hP⟩ : ∃ P, P = namesOf s := ⟨_, rfl⟩
  have hPl : P.length = Lib.countB s slash + 1 := by rw [hP]; exact namesOf_length s
  obtain ⟨n, hn⟩ : ∃ n, n = Lib.countB s slash + 1 := ⟨_, rfl⟩
  have HP := Aside0.mk (show (∀ p ∈ P, p.size ≤ s.size) from fun p hp => names_size _ _ _ _ p (by rw [hP] at hp; exact hp))
  have HS : Aside0 (isPath s = (P.all isName && decide (s.size ≤ 60) && decide (n ≤ 8))) := ⟨by unfold isPath; rw [← hP, hPl, ← hn]⟩
  obtain ⟨W1, hW⟩ : ∃ W1, W1 = w.alloc (.cells (P.map Value.string).toArray 9) := ⟨_, rfl⟩
  have hW1 : W1.heap[w.heap.size]? = some (.cells (P.map Value.string).toArray 9 (0, 0)) := by rw [hW]; exact heap_alloc_new w _
  have HB := Aside0.mk (show Below w.heap.size w W1 by rw [hW]; exact below_alloc (Below.refl _ _) _)
  have HC := Aside0.mk (fun (j : Nat) (hj : j < n) (W : World) (hB : Below W1.heap.size W1 W) => (by
    rw [hB.cell (by show w.heap.size < _; exact blk_lt hW1), blk_cell hW1]
    simp [hPl, hn ▸ hj, hj, ← hn, List.getD_eq_getElem?_getD] : W.cell? ⟨w.heap.size, j, none⟩ = some (.string (P.getD j ByteArray.empty))))
  have hsp' : Calls Tryz.prog 110 #[.string s, .string slash] w fun e w' => e = .returned (.slice (some ⟨w.heap.size, 0, none⟩) n n) ∧ w' = W1 := by
    rw [hn, hW, hP]; exact hsp
  have HPL := Aside0.mk (hPl.trans hn.symm)
  have hnb : n ≤ 100001 := by have := Lib.countB_le slash (by decide) s.size s (Nat.le_refl _); omega
  have hn' : (n : Int) ≤ 100001 := by omega
  have HSZ := Aside0.mk hs
  clear hsp hP hPl hn hW hW1 hm hs
  go_enter Tryz.func50, Tryz.ntmps50
  go_wp2_with (go_at_call 110; refine hsp'.mono ?_; rintro e w1 ⟨rfl, rfl⟩)
  go_loopg [10, 5] n (fun kq v10 v5 w' => ∃ j : Nat, v10 = .int .i64 j ∧ Aside0 (j + kq = n) ∧ Aside0 ((P.take j).all isName = true) ∧ Aside0 (Below w1.heap.size w1 w'))
  case atStart => exact ⟨0, rfl, ⟨by omega⟩, ⟨rfl⟩, ⟨Below.refl _ _⟩⟩
  case round =>
    obtain ⟨j, rfl, P1, P2, P3⟩ := hrel
    cases gk with
    | zero =>
      have t1 : ¬ j < n := by have := P1.out; omega
      have P4 : Aside0 (P.all isName = true) := ⟨by have h := P2.out; rw [List.take_of_length_le (by have := HPL.out; omega)] at h; exact h⟩
      have P5 := Aside0.mk (below_then HB.out HB.out.size P3.out)
      go_wp2
      all_goals
        go_ret
        refine ⟨?_, P5.out⟩
        rw [HS.out, P4.out]
        first
          | (have h1 : (s.size : Int) ≤ 60 := by assumption
             have h2 : s.size ≤ 60 := by omega
             simp [h2]
             try omega)
          | (have h1 : (60 : Int) < s.size := by assumption
             have h2 : ¬ s.size ≤ 60 := by omega
             simp [h2])
    | succ gk =>
      have t1 : j < n := by have := P1.out; omega
      obtain ⟨p, hp⟩ : ∃ p, p = P.getD j ByteArray.empty := ⟨_, rfl⟩
      have d1 := HC.out j t1 wr P3.out
      rw [← hp] at d1
      have hnm := named_any wr p (by have h1 := HSZ.out; have h2 := HP.out p (by rw [hp, List.getD_eq_getElem?_getD, List.getElem?_eq_getElem (by have := HPL.out; omega)]; exact List.getElem_mem _); omega)
      have e8 : IntKind.i64.wrap ((j : Int) + 1) = (j : Int) + 1 := IntWalk.i64_in _ (by omega)
      have P6 := Aside0.mk hp
      clear hp
      go_wp2_with (go_at_call 68; refine hnm.mono ?_; rintro e w2 ⟨rfl, h⟩; have P7 := Aside0.mk (below_then P3.out P3.out.size h); clear h)
      · have hb : isName p = false := by have h : (!isName p) = true := by assumption
                                         simpa using h
        go_ret
        refine ⟨?_, below_then HB.out HB.out.size P7.out⟩
        rw [HS.out, names_false (by have := HPL.out; omega) P6.out hb]
        rfl
      · have hb : isName p = true := by have h : (!isName p) = false := by assumption
                                        simpa using h
        have P8 := Aside0.mk (names_take P2.out (by have := HPL.out; omega) P6.out hb)
        go_roundg gk
        case measure => omega
        case rel => exact ⟨j + 1, by simp, ⟨by have := P1.out; omega⟩, P8, P7⟩
end Go.Proofs.YtkjplffpihfliaaGreatDoor
end

section
/- The contracts of strings.LastIndex of a slash and of room.parent. -/
namespace Go.Proofs.YtkjplffpihfliaaGreatDoor
open Go.RowKit Go.Proofs.YtkjplffpihfliaaGreatDoorW.PrintWords PAll

def renP45 : Go.Shelf.Ren := ⟨fun | 45 => 122 | _ => 0, fun | 3 => 3 | 4 => 4 | 5 => 5 | 9 => 9 | _ => 0, fun _ => 0⟩
theorem laysP45 : Go.Proofs.Lays.p45 Tryz.prog renP45 := {
  mixed := by kernel_rfl
  f45 := Tryz.func122.trans (congrArg some (by kernel_rfl))
  t3 := Tryz.underlying3
  a3 := Tryz.isAgg3
  z3 := Tryz.sizeOf3
  v3 := Tryz.zeroValue3
  t4 := Tryz.underlying4
  a4 := Tryz.isAgg4
  z4 := Tryz.sizeOf4
  v4 := Tryz.zeroValue4
  t5 := Tryz.underlying5
  a5 := Tryz.isAgg5
  z5 := Tryz.sizeOf5
  v5 := Tryz.zeroValue5
  t9 := Tryz.underlying9
  a9 := Tryz.isAgg9
  z9 := Tryz.sizeOf9
  v9 := Tryz.zeroValue9 }
/-- The place of the last slash, or -1. -/
def lastSlash (s : ByteArray) : Int := Lib.Pa.lastIndexByte s.data.toList 47
theorem lastByte_any (s : ByteArray) (w : World) (hs : s.size ≤ 100000) : Calls Tryz.prog 122 #[.string s, .int .u8 47] w fun e w' => e = .returned (.int .i64 (lastSlash s)) ∧ w' = w :=
  Any.bytealg_LastIndexByteString laysP45 s 47 w (by omega)

theorem lastIdx_range (l : List UInt8) (c : UInt8) : ∀ k : Nat, -1 ≤ Lib.Pa.lastIdx l c k ∧ Lib.Pa.lastIdx l c k < k
  | 0 => ⟨Int.le_refl _, by show (-1 : Int) < 0; decide⟩
  | k + 1 => by
    have h := lastIdx_range l c k
    unfold Lib.Pa.lastIdx
    split
    · constructor <;> omega
    · constructor <;> omega
theorem lastSlash_range (s : ByteArray) : -1 ≤ lastSlash s ∧ lastSlash s < s.size := by
  have h := lastIdx_range s.data.toList 47 s.data.toList.length
  have e : s.data.toList.length = s.size := by simp
  rw [e] at h
  unfold lastSlash Lib.Pa.lastIndexByte
  rw [e]
  exact h
set_option maxRecDepth 100000 in
theorem lastIndex_any (s : ByteArray) (w : World) (hs : s.size ≤ 100000) : Calls Tryz.prog 65 #[.string s, .string slash] w fun e w' => e = .returned (.int .i64 (lastSlash s)) ∧ w' = w := by
  have h := lastByte_any s w hs
  go_enter Tryz.func65, Tryz.ntmps65
  go_wp2_with (go_at_call 122; refine h.mono ?_; rintro e w ⟨rfl, rfl⟩)
  go_ret
  exact ⟨rfl, rfl⟩
/-- The path of the directory in which something lies. -/
def parentOf (s : ByteArray) : ByteArray := s.extract 0 (lastSlash s).toNat
set_option maxRecDepth 100000 in
theorem parent_any (s : ByteArray) (w : World) (hs : s.size ≤ 100000) : Calls Tryz.prog 60 #[.string s] w fun e w' => e = .returned (.string (parentOf s)) ∧ w' = w := by
  have h := lastIndex_any s w hs
  obtain ⟨h1, h2⟩ := lastSlash_range s
  obtain ⟨x, hx⟩ : ∃ x, x = lastSlash s := ⟨_, rfl⟩
  have HX : Aside0 (parentOf s = s.extract 0 x.toNat) := ⟨by unfold parentOf; rw [← hx]⟩
  rw [← hx] at h h1 h2
  clear hx
  go_enter Tryz.func60, Tryz.ntmps60
  go_wp2_with (go_at_call 65; refine h.mono ?_; rintro e w ⟨rfl, rfl⟩)
  go_ret
  exact ⟨by rw [HX.out, show (max 0 x).toNat = x.toNat by omega]; rfl, rfl⟩
end Go.Proofs.YtkjplffpihfliaaGreatDoor
end

section
/- A tree of directories and files in memory; what its operations leave. -/
namespace Go.Proofs.YtkjplffpihfliaaGreatDoor
open Go.RowKit Go.Proofs.YtkjplffpihfliaaGreatDoorW.PrintWords PAll

abbrev tTree : Nat := 65
abbrev tNode : Nat := 97
abbrev tNodes : Nat := 63
/-- A node: whether it is a file, and its data. -/
abbrev NodeD := Bool × List Int
def NodeIs (w : World) (base : Nat) (ok : Nat → Prop) (v : Value) (d : NodeD) : Prop := ∃ sv, v = .agg #[.bool d.1, sv] ∧ Kd.R kU 5 w base ok sv d.2
def treeObj (seed : Int) (bm : Nat) : Obj := .cells #[.bool true, .int .u64 seed, .map (some bm)] tTree (0, 0)
def Match (w : World) (base : Nat) (ok : Nat → Prop) : List (ByteArray × Value) → List (ByteArray × NodeD) → Prop
  | [], [] => True
  | (k, v) :: l, (k', d) :: t => k = k' ∧ NodeIs w base ok v d ∧ Match w base ok l t
  | _, _ => False
def TreeIs (w : World) (base : Nat) (ok : Nat → Prop) (g bm : Nat) (seed : Int) (t : List (ByteArray × NodeD)) : Prop :=
  ok g ∧ ok bm ∧ g ≠ bm ∧ w.heap[g]? = some (treeObj seed bm) ∧ ∃ l, SMap w bm l ∧ Match w base (fun k => ok k ∧ k ≠ g ∧ k ≠ bm) l t
theorem NodeIs.kept {w w' : World} {base : Nat} {ok S : Nat → Prop} {v : Value} {d : NodeD} (h : NodeIs w base ok v d) (hk : KeptE w w' S) (hs : ∀ k, ok k → ¬ S k) : NodeIs w' base ok v d := by
  obtain ⟨sv, h1, h2⟩ := h
  exact ⟨sv, h1, Kd.R_kept h2 hk.1 hs⟩
theorem NodeIs.mono {w : World} {base : Nat} {ok ok' : Nat → Prop} {v : Value} {d : NodeD} (h : NodeIs w base ok v d) (hs : ∀ k, ok k → base ≤ k → k < w.heap.size → ok' k) : NodeIs w base ok' v d := by
  obtain ⟨sv, h1, h2⟩ := h
  exact ⟨sv, h1, Kd.R_mono (Kd.R_bound h2) (fun k hk => hs k hk.1 hk.2.1 hk.2.2.1)⟩
theorem Match.imp {w w' : World} {base : Nat} {ok ok' : Nat → Prop} (hi : ∀ v d, NodeIs w base ok v d → NodeIs w' base ok' v d) : ∀ {l : List (ByteArray × Value)} {t : List (ByteArray × NodeD)}, Match w base ok l t → Match w' base ok' l t
  | [], [], h => h
  | (k, v) :: l, (k', d) :: t, ⟨h1, h2, h3⟩ => ⟨h1, hi v d h2, Match.imp hi h3⟩
  | [], _ :: _, h => h.elim
  | _ :: _, [], h => h.elim
theorem Match.length {w : World} {base : Nat} {ok : Nat → Prop} : ∀ {l : List (ByteArray × Value)} {t : List (ByteArray × NodeD)}, Match w base ok l t → l.length = t.length
  | [], [], _ => rfl
  | _ :: _, _ :: _, ⟨_, _, h3⟩ => by simp [Match.length h3]
  | [], _ :: _, h => h.elim
  | _ :: _, [], h => h.elim
theorem Match.put {w : World} {base : Nat} {ok : Nat → Prop} {s : ByteArray} {v : Value} {d : NodeD} (hn : NodeIs w base ok v d) : ∀ {l : List (ByteArray × Value)} {t : List (ByteArray × NodeD)}, Match w base ok l t → Match w base ok (sput l s v) (sput t s d)
  | [], [], _ => ⟨rfl, hn, trivial⟩
  | (k, v0) :: l, (k', d0) :: t, ⟨h1, h2, h3⟩ => by
    subst h1
    unfold sput
    by_cases he : s = k
    · rw [if_pos he, if_pos he]; exact ⟨rfl, hn, h3⟩
    · rw [if_neg he, if_neg he]; exact ⟨rfl, h2, Match.put hn h3⟩
  | [], _ :: _, h => h.elim
  | _ :: _, [], h => h.elim
theorem TreeIs.kept {w w' : World} {base : Nat} {ok S : Nat → Prop} {g bm : Nat} {seed : Int} {t : List (ByteArray × NodeD)} (h : TreeIs w base ok g bm seed t) (hk : KeptE w w' S) (hs : ∀ k, ok k → ¬ S k) : TreeIs w' base ok g bm seed t := by
  obtain ⟨h1, h2, h3, h4, l, h5, h6⟩ := h
  refine ⟨h1, h2, h3, (hk.1.2 g (blk_lt h4) (hs g h1)).trans h4, l, h5.kept hk (hs bm h2), h6.imp (fun v d hn => hn.kept hk (fun k hk => hs k hk.1))⟩

theorem zeroNode (w : World) : (zeroValue tNode).run Tryz.prog w = .ok (.agg #[.bool false, .slice none 0 0]) w := Tryz.zeroValue97 w
theorem match_get {w : World} {base : Nat} {ok : Nat → Prop} {s : ByteArray} : ∀ {l : List (ByteArray × Value)} {t : List (ByteArray × NodeD)}, Match w base ok l t →
    (sget l s = none ∧ sget t s = none) ∨ ∃ v d, sget l s = some v ∧ sget t s = some d ∧ NodeIs w base ok v d
  | [], [], _ => .inl ⟨rfl, rfl⟩
  | (k, v) :: l, (k', d) :: t, ⟨h, hn, hr⟩ => by
    subst h
    by_cases he : s = k
    · exact .inr ⟨v, d, by simp [sget, he], by simp [sget, he], hn⟩
    · rcases match_get (s := s) hr with ⟨h1, h2⟩ | ⟨v', d', h1, h2, h3⟩
      · exact .inl ⟨by simp [sget, he, h1], by simp [sget, he, h2]⟩
      · exact .inr ⟨v', d', by simp [sget, he, h1], by simp [sget, he, h2], h3⟩
  | [], _ :: _, h => h.elim
  | _ :: _, [], h => h.elim
/-- What a look-up in the tree's map gives. -/
theorem tree_look {w : World} {base : Nat} {ok : Nat → Prop} {g bm : Nat} {seed : Int} {t : List (ByteArray × NodeD)} (h : TreeIs w base ok g bm seed t) (s : ByteArray) :
    (sget t s = none ∧ (Instr.lookup tNodes (.map (some bm)) (.string s) true).run Tryz.prog w = .ok (.tuple #[.agg #[.bool false, .slice none 0 0], .bool false]) w ∧ (Instr.lookup tNodes (.map (some bm)) (.string s) false).run Tryz.prog w = .ok (.agg #[.bool false, .slice none 0 0]) w) ∨
    ∃ f d A c, sget t s = some (f, d) ∧ (Instr.lookup tNodes (.map (some bm)) (.string s) true).run Tryz.prog w = .ok (.tuple #[.agg #[.bool f, .slice A d.length c], .bool true]) w ∧ (Instr.lookup tNodes (.map (some bm)) (.string s) false).run Tryz.prog w = .ok (.agg #[.bool f, .slice A d.length c]) w ∧ Kd.C kU w A d.length d := by
  obtain ⟨_, _, _, _, l, h5, h6⟩ := h
  have hlk := smap_lookup (P := Tryz.prog) h5 tNodes 9 tNode Tryz.underlying63 Tryz.underlying9 _ (zeroNode w) s
  rcases match_get (s := s) h6 with ⟨h1, h2⟩ | ⟨v, ⟨f, d⟩, h1, h2, sv, rfl, h3⟩
  · refine .inl ⟨h2, ?_, ?_⟩
    · rw [hlk true, h1]; rfl
    · rw [hlk false, h1]; rfl
  · obtain ⟨A, c, rfl, _, hC⟩ := Kd.R_reads h3
    refine .inr ⟨f, d, A, c, h2, ?_, ?_, hC⟩
    · rw [hlk true, h1]; rfl
    · rw [hlk false, h1]; rfl

theorem tree_real {w : World} {g bm : Nat} {seed : Int} (h : w.heap[g]? = some (treeObj seed bm)) :
    Calls Tryz.prog 49 #[.pointer (some ⟨g, 0, none⟩)] w fun e w' => e = .returned (.bool true) ∧ w' = w := by
  have c0 : w.cell? ⟨g, 0, none⟩ = some (.bool true) := by rw [blk_cell h]; rfl
  clear h
  go_enter Tryz.func49, Tryz.ntmps49
  go_wp2
  go_ret
  exact ⟨rfl, rfl⟩
theorem tree_real_none (w : World) : Calls Tryz.prog 49 #[.pointer none] w fun e w' => e = .returned (.bool false) ∧ w' = w := by
  go_enter Tryz.func49, Tryz.ntmps49
  go_wp2
  go_ret
  exact ⟨rfl, rfl⟩
/-- Whether a directory is at a path. -/
def isDir (t : List (ByteArray × NodeD)) (s : ByteArray) : Bool := s.toList.isEmpty || (match sget t s with | some (f, _) => !f | none => false)
set_option maxRecDepth 100000 in
theorem directory_any (w : World) (base : Nat) (ok : Nat → Prop) (g bm : Nat) (seed : Int) (t : List (ByteArray × NodeD)) (s : ByteArray) (h : TreeIs w base ok g bm seed t) :
    Calls Tryz.prog 59 #[.pointer (some ⟨g, 0, none⟩), .string s] w fun e w' => e = .returned (.bool (isDir t s)) ∧ Below w.heap.size w w' := by
  have c2 : w.cell? ⟨g, 2, none⟩ = some (.map (some bm)) := by rw [blk_cell h.2.2.2.1]; rfl
  rcases tree_look h s with ⟨h1, h2, _⟩ | ⟨f, d, A, c, h1, h2, _⟩
  · have HD : Aside0 (isDir t s = s.toList.isEmpty) := ⟨by unfold isDir; rw [h1]; simp⟩
    clear h h1
    go_enter Tryz.func59, Tryz.ntmps59
    go_wp2
    all_goals
      go_ret
      refine ⟨?_, below_alloc (Below.refl _ _) _⟩
      rw [HD.out]
      first
        | (have h : s.toList = [] := by assumption
           rw [h]; rfl)
        | (have h : ¬ s.toList = [] := by assumption
           rfl)
  · have HD : Aside0 (isDir t s = (s.toList.isEmpty || !f)) := ⟨by unfold isDir; rw [h1]⟩
    clear h h1
    go_enter Tryz.func59, Tryz.ntmps59
    go_wp2
    all_goals
      go_ret
      refine ⟨?_, below_alloc (Below.refl _ _) _⟩
      rw [HD.out]
      first
        | (have h : s.toList = [] := by assumption
           rw [h]; rfl)
        | (have h : ¬ s.toList = [] := by assumption
           rfl)

theorem TreeIs.mono {w : World} {base : Nat} {ok ok' : Nat → Prop} {g bm : Nat} {seed : Int} {t : List (ByteArray × NodeD)} (h : TreeIs w base ok g bm seed t) (hs : ∀ k, ok k → k < w.heap.size → ok' k) : TreeIs w base ok' g bm seed t := by
  obtain ⟨h1, h2, h3, h4, l, h5, h6⟩ := h
  exact ⟨hs g h1 (blk_lt h4), hs bm h2 h5.lt, h3, h4, l, h5, h6.imp (fun v d hn => hn.mono (fun k hk _ hlt => ⟨hs k hk.1 hlt, hk.2⟩))⟩
/-- A store into the tree's map. -/
theorem tree_store {w : World} {base : Nat} {ok : Nat → Prop} {g bm : Nat} {seed : Int} {t : List (ByteArray × NodeD)} (h : TreeIs w base ok g bm seed t) (s : ByteArray) {v : Value} {d : NodeD} (hn : NodeIs w base (fun k => ok k ∧ k ≠ g ∧ k ≠ bm) v d) :
    ∃ w', (Instr.mapUpdate tNodes (.map (some bm)) (.string s) v).run Tryz.prog w = .ok () w' ∧ TreeIs w' base ok g bm seed (sput t s d) ∧ KeptE w w' (fun k => k = bm) ∧ w'.heap.size = w.heap.size := by
  obtain ⟨h1, h2, h3, h4, l, h5, h6⟩ := h
  obtain ⟨o, hr, hm⟩ := smap_update (P := Tryz.prog) h5 tNodes 9 tNode Tryz.underlying63 Tryz.underlying9 s v
  have hk := setBlock_kept w bm o
  refine ⟨_, hr, ⟨h1, h2, h3, (hk.1.2 g (blk_lt h4) h3).trans h4, _, hm, ?_⟩, hk, by simp⟩
  exact Match.imp (fun v d hv => hv.kept hk (fun k hk => hk.2.2)) (Match.put hn h6)
theorem tree_size {w : World} {base : Nat} {ok : Nat → Prop} {g bm : Nat} {seed : Int} {t : List (ByteArray × NodeD)} (h : TreeIs w base ok g bm seed t) : ∃ es clock, w.heap[bm]? = some (.map es clock) ∧ es.size = t.length := by
  obtain ⟨_, _, _, _, l, h5, h6⟩ := h
  have h5' := h5
  obtain ⟨es, clock, hb, _⟩ := h5
  exact ⟨es, clock, hb, (h5'.size hb).trans h6.length⟩

theorem tree_len {w : World} {base : Nat} {ok : Nat → Prop} {g bm : Nat} {seed : Int} {t : List (ByteArray × NodeD)} (h : TreeIs w base ok g bm seed t) (ty : TypeId) : (Builtin.len_ #[tNodes] ty #[.map (some bm)]).run Tryz.prog w = .ok (.int .i64 t.length) w := by
  obtain ⟨es, clock, hb, hs⟩ := tree_size h
  simp [Builtin.len_, Builtin.lenOf, MapKept.run_getObj_map hb, hs, goInt, run_underlying Tryz.underlying63]
/-- What adding something gives: the error, and the tree. -/
def addT (t : List (ByteArray × NodeD)) (s : ByteArray) (d : NodeD) : Int × List (ByteArray × NodeD) :=
  if isDir t (parentOf s) = false then (3, t) else if 1000 ≤ t.length then (5, t) else (0, sput t s d)
/-- What an operation on a tree leaves. -/
def TreeOp (w : World) (base : Nat) (ok : Nat → Prop) (g bm : Nat) (seed : Int) (t' : List (ByteArray × NodeD)) (w' : World) : Prop := TreeIs w' base (okNew ok w w') g bm seed t' ∧ KeptE w w' ok
theorem treeOp_of {w w' : World} {base : Nat} {ok : Nat → Prop} {g bm : Nat} {seed : Int} {t t' : List (ByteArray × NodeD)} (h : TreeIs w' base ok g bm seed t') (hk : KeptE w w' ok) : TreeOp w base ok g bm seed t' w' :=
  ⟨h.mono (fun k q1 q2 => ⟨.inl q1, q2⟩), hk⟩

set_option maxRecDepth 100000 in
set_option maxHeartbeats 1000000 in
theorem add_any (w : World) (base : Nat) (ok : Nat → Prop) (g bm : Nat) (seed : Int) (t : List (ByteArray × NodeD)) (s : ByteArray) (hs : s.size ≤ 100000) (f : Bool) (A : Option Addr) (c : Nat) (d : List Int) (h : TreeIs w base ok g bm seed t)
    (hn : NodeIs w base (fun k => ok k ∧ k ≠ g ∧ k ≠ bm) (.agg #[.bool f, .slice A d.length c]) (f, d)) :
    Calls Tryz.prog 51 #[.pointer (some ⟨g, 0, none⟩), .string s, .agg #[.bool f, .slice A d.length c]] w fun e w' => e = .returned (.int .i64 (addT t s (f, d)).1) ∧ TreeIs w' base ok g bm seed (addT t s (f, d)).2 ∧ KeptE w w' (fun k => k = bm) := by
  obtain ⟨W1, hW⟩ : ∃ W1, W1 = w.alloc (.cells #[.bool f, .slice A d.length c] tNode) := ⟨_, rfl⟩
  have hB1 : Below w.heap.size w W1 := by rw [hW]; exact below_alloc (Below.refl _ _) _
  have hT1 : TreeIs W1 base ok g bm seed t := h.kept (KeptE.of_below hB1 (fun _ => False)) (fun _ _ h => h)
  have hpar := parent_any s W1 hs
  have hdir := directory_any W1 base ok g bm seed t (parentOf s) hT1
  have hv1 : W1.heap[w.heap.size]? = some (.cells #[.bool f, .slice A d.length c] tNode (0, 0)) := by rw [hW]; exact heap_alloc_new w _
  have HK := Aside0.mk (fun (W : World) (hB : Below W1.heap.size W1 W) => (⟨hT1.kept (KeptE.of_below hB (fun _ => False)) (fun _ _ h => h), (hB.block w.heap.size (blk_lt hv1)).trans hv1, below_then hB1 hB1.size hB, hn.kept (KeptE.of_below (below_then hB1 hB1.size hB) (fun _ => False)) (fun _ _ h => h)⟩ : TreeIs W base ok g bm seed t ∧ W.heap[w.heap.size]? = some (.cells #[.bool f, .slice A d.length c] tNode (0, 0)) ∧ Below w.heap.size w W ∧ NodeIs W base (fun k => ok k ∧ k ≠ g ∧ k ≠ bm) (.agg #[.bool f, .slice A d.length c]) (f, d)))
  obtain ⟨p, hp⟩ : ∃ p, p = parentOf s := ⟨_, rfl⟩
  rw [← hp] at hpar hdir
  have HP := Aside0.mk hp
  clear hp h hn hT1 hv1
  go_enter Tryz.func51, Tryz.ntmps51
  go_upto_region 1 with (fail)
  rw [← hW]
  clear hW
  go_wp2_with (first | (go_at_call 60; refine hpar.mono ?_; rintro e w ⟨rfl, hw⟩; cases hw) | (go_at_call 59; refine hdir.mono ?_; rintro e w2 ⟨rfl, hB⟩; obtain ⟨k1, k2, k3, k4⟩ := HK.out w2 hB; have c2 : w2.cell? ⟨g, 2, none⟩ = some (.map (some bm)) := (by rw [blk_cell k1.2.2.2.1]; rfl); have m1 := tree_len k1 3; have y0 : w2.cell? ⟨w.heap.size, 0, none⟩ = some (.bool f) := (by rw [blk_cell k2]; rfl); have y1 : w2.cell? ⟨w.heap.size, 1, none⟩ = some (.slice A d.length c) := (by rw [blk_cell k2]; rfl); have HK2 := Aside0.mk (And.intro k1 (And.intro k3 k4)); clear k1 k2 k3 k4 hB))
  · have hd : isDir t p = false := by have h : (!isDir t p) = true := by assumption
                                      simpa using h
    go_ret
    have e : addT t s (f, d) = (3, t) := by unfold addT; rw [← HP.out, if_pos hd]
    rw [e]
    exact ⟨rfl, HK2.out.1, KeptE.of_below HK2.out.2.1 _⟩
  · have hd : isDir t p = true := by have h : (!isDir t p) = false := by assumption
                                     simpa using h
    have hl : 1000 ≤ t.length := by have h : (1000 : Int) ≤ t.length := by assumption
                                    omega
    go_ret
    have e : addT t s (f, d) = (5, t) := by unfold addT; rw [← HP.out, if_neg (by simp [hd]), if_pos hl]
    rw [e]
    exact ⟨rfl, HK2.out.1, KeptE.of_below HK2.out.2.1 _⟩
  · have hd : isDir t p = true := by have h : (!isDir t p) = false := by assumption
                                     simpa using h
    have hl : ¬ 1000 ≤ t.length := by have h : (t.length : Int) < 1000 := by assumption
                                      omega
    have e : addT t s (f, d) = (0, sput t s (f, d)) := by unfold addT; rw [← HP.out, if_neg (by simp [hd]), if_neg hl]
    obtain ⟨w3, hu, hT3, hk3, _⟩ := tree_store (w := w2.drew) (HK2.out.1.kept ((KeptE.refl w2 (fun _ => False)).drew) (fun _ _ h => h)) s (HK2.out.2.2.kept ((KeptE.refl w2 (fun _ => False)).drew) (fun _ _ h => h))
    have HF := Aside0.mk (And.intro e (And.intro hT3 ((KeptE.of_below HK2.out.2.1 (fun k => k = bm)).then_ (W := w2) hk3 (fun k h => .inl h))))
    clear hd hl e hT3 hk3
    go_region
    go_wp2
    go_ret
    rw [HF.out.1]
    exact ⟨rfl, HF.out.2.1, HF.out.2.2⟩
end Go.Proofs.YtkjplffpihfliaaGreatDoor
end

section
/- The contracts of (*Tree).Make, Write, Read and Len. -/
namespace Go.Proofs.YtkjplffpihfliaaGreatDoor
open Go.RowKit Go.Proofs.YtkjplffpihfliaaGreatDoorW.PrintWords PAll

def makeT (t : List (ByteArray × NodeD)) (s : ByteArray) : Int × List (ByteArray × NodeD) :=
  if isPath s = false then (1, t) else if (sget t s).isSome then (4, t) else addT t s (false, [])
theorem nil_node (w : World) (base : Nat) (ok : Nat → Prop) : NodeIs w base ok (.agg #[.bool false, .slice none ([] : List Int).length 0]) (false, []) := ⟨_, rfl, Kd.R_nil _ _ _ _ _⟩

set_option maxRecDepth 100000 in
set_option maxHeartbeats 1000000 in
theorem make_any (w : World) (base : Nat) (ok : Nat → Prop) (g bm : Nat) (seed m : Int) (t : List (ByteArray × NodeD)) (s : ByteArray) (hs : s.size ≤ 100000) (hm : w.cell? ⟨0, 0, none⟩ = some (.int .i64 m)) (h : TreeIs w base ok g bm seed t) :
    Calls Tryz.prog 14 #[.pointer (some ⟨g, 0, none⟩), .string s] w fun e w' => e = .returned (.int .i64 (makeT t s).1) ∧ TreeIs w' base ok g bm seed (makeT t s).2 ∧ KeptE w w' (fun k => k = bm) := by
  have hreal := tree_real h.2.2.2.1
  have hval := valid_any w s m hs hm
  have HT := Aside0.mk (fun (W : World) (hB : Below w.heap.size w W) => (h.kept (KeptE.of_below hB (fun _ => False)) (fun _ _ h => h) : TreeIs W base ok g bm seed t))
  have HA := Aside0.mk (fun (W : World) (hB : Below w.heap.size w W) => add_any W base ok g bm seed t s hs false none 0 [] (HT.out W hB) (nil_node _ _ _))
  have HF := Aside0.mk (fun (W : World) (hB : Below w.heap.size w W) (W' : World) (hk : KeptE W W' (fun k => k = bm)) => ((KeptE.of_below hB (fun k => k = bm)).then_ hk (fun k h => .inl h) : KeptE w W' (fun k => k = bm)))
  obtain ⟨b, hb⟩ : ∃ b, b = isPath s := ⟨_, rfl⟩
  rw [← hb] at hval
  have HB := Aside0.mk hb
  clear hb h hm
  go_enter Tryz.func14, Tryz.ntmps14
  cases b with
  | false =>
    have e : makeT t s = (1, t) := by unfold makeT; rw [if_pos HB.out.symm]
    rw [e]
    go_wp2_with (first | (go_at_call 49; refine hreal.mono ?_; rintro e w ⟨rfl, hw⟩; cases hw) | (go_at_call 50; refine hval.mono ?_; rintro e w2 ⟨rfl, hB⟩))
    go_ret
    exact ⟨rfl, HT.out _ hB, KeptE.of_below hB _⟩
  | true =>
    go_upto_region 3 with (first | (go_at_call 49; refine hreal.mono ?_; rintro e w ⟨rfl, hw⟩; cases hw) | (go_at_call 50; refine hval.mono ?_; rintro e w2 ⟨rfl, hB⟩))
    have hT2 := HT.out _ hB
    have c2 : w2.cell? ⟨g, 2, none⟩ = some (.map (some bm)) := by rw [blk_cell hT2.2.2.2.1]; rfl
    rcases tree_look hT2 s with ⟨h1, h2, _⟩ | ⟨f, d, A, c, h1, h2, _⟩
    · have e : makeT t s = addT t s (false, []) := by unfold makeT; rw [if_neg (by rw [← HB.out]; simp), h1]; rfl
      have HE := Aside0.mk e
      have hB3 : Below w.heap.size w (w2.alloc (.cells #[.bool false, .slice none 0 0] tNode)) := below_alloc hB _
      have hadd := HA.out _ hB3
      have HB3 := Aside0.mk hB3
      clear hT2 h1 e hB3 hB
      go_wp2_with (go_at_call 51; refine hadd.mono ?_; rintro e w3 ⟨rfl, q1, q2⟩)
      go_ret
      rw [HE.out]
      exact ⟨rfl, q1, HF.out _ HB3.out _ q2⟩
    · have e : makeT t s = (4, t) := by unfold makeT; rw [if_neg (by rw [← HB.out]; simp), h1]; rfl
      have HE := Aside0.mk e
      have HB3 := Aside0.mk (below_alloc hB (.cells #[.bool f, .slice A d.length c] tNode))
      clear hT2 h1 e hB
      go_wp2_with (fail)
      go_ret
      rw [HE.out]
      exact ⟨rfl, HT.out _ HB3.out, KeptE.of_below HB3.out _⟩

set_option maxRecDepth 100000 in
theorem treeLen_any (w : World) (base : Nat) (ok : Nat → Prop) (g bm : Nat) (seed : Int) (t : List (ByteArray × NodeD)) (h : TreeIs w base ok g bm seed t) :
    Calls Tryz.prog 18 #[.pointer (some ⟨g, 0, none⟩)] w fun e w' => e = .returned (.int .i64 t.length) ∧ w' = w := by
  have hreal := tree_real h.2.2.2.1
  have c2 : w.cell? ⟨g, 2, none⟩ = some (.map (some bm)) := by rw [blk_cell h.2.2.2.1]; rfl
  have m1 := tree_len h 3
  clear h
  go_enter Tryz.func18, Tryz.ntmps18
  go_wp2_with (go_at_call 49; refine hreal.mono ?_; rintro e w ⟨rfl, rfl⟩)
  go_ret
  exact ⟨rfl, rfl⟩
theorem newTree_any (w : World) (seed : Int) : Calls Tryz.prog 10 #[.int .u64 seed] w fun e w' => e = .returned (.pointer (some ⟨w.heap.size + 1, 0, none⟩)) ∧ w' = (w.alloc (.map #[] 0)).alloc (treeObj seed w.heap.size) := by
  have hmm := @run_makeMap Tryz.prog
  go_enter Tryz.func10, Tryz.ntmps10
  go_wp2
  go_ret
  refine ⟨?_, rfl⟩
  simp

def writeT (t : List (ByteArray × NodeD)) (s : ByteArray) (data : List Int) : Int × List (ByteArray × NodeD) :=
  if isPath s = false ∨ 500 < data.length then (1, t) else
    match sget t s with
    | some (false, _) => (4, t)
    | some (true, _) => (0, sput t s (true, data))
    | none => addT t s (true, data)

set_option maxRecDepth 100000 in
set_option maxHeartbeats 2000000 in
theorem write_any (w : World) (base : Nat) (ok : Nat → Prop) (g bm : Nat) (seed m : Int) (t : List (ByteArray × NodeD)) (s : ByteArray) (A0 : Option Addr) (c0 : Nat) (data : List Int) (hs : s.size ≤ 100000) (hdl : data.length ≤ 100000) (hbase : base ≤ w.heap.size) (hm : w.cell? ⟨0, 0, none⟩ = some (.int .i64 m))
    (hx : Kd.C kU w A0 data.length data) (h : TreeIs w base ok g bm seed t) :
    Calls Tryz.prog 12 #[.pointer (some ⟨g, 0, none⟩), .string s, .slice A0 data.length c0] w fun e w' => e = .returned (.int .i64 (writeT t s data).1) ∧ TreeIs w' base (fun k => ok k ∨ w.heap.size ≤ k) g bm seed (writeT t s data).2 ∧ KeptE w w' (fun k => k = bm) := by
  have hreal := tree_real h.2.2.2.1
  have hval := valid_any w s m hs hm
  have HT := Aside0.mk (fun (W : World) (hB : Below w.heap.size w W) => ((h.mono (fun k q _ => .inl q)).kept (KeptE.of_below hB (fun _ => False)) (fun _ _ h => h) : TreeIs W base (fun k => ok k ∨ w.heap.size ≤ k) g bm seed t))
  have HN := Aside0.mk (fun (w2 w3 W : World) (sv : Value) (hB2 : Below w.heap.size w w2) (hb : Buf w3 w2.heap.size sv data) (hB : Below w3.heap.size w3 W) => (⟨sv, rfl, Kd.R_mono (Kd.R_lower (Kd.R_bound (Kd.R_below hb hB)) (Nat.le_trans hbase hB2.size)) (fun k hk => ⟨.inr (Nat.le_trans hB2.size hk.1), by have := blk_lt h.2.2.2.1; have := hB2.size; omega, by obtain ⟨l, h5, _⟩ := h.2.2.2.2; have := h5.lt; have := hB2.size; omega⟩)⟩ : NodeIs W base (fun k => (ok k ∨ w.heap.size ≤ k) ∧ k ≠ g ∧ k ≠ bm) (.agg #[.bool true, sv]) (true, data)))
  have HC := Aside0.mk (fun (w2 : World) (hB2 : Below w.heap.size w w2) => clone_any w2 A0 c0 data (Kd.C_below hx hB2) (by omega))
  obtain ⟨b, hb⟩ : ∃ b, b = isPath s := ⟨_, rfl⟩
  rw [← hb] at hval
  have HB := Aside0.mk hb
  clear hb h hm hx
  by_cases hbl : b = true ∧ data.length ≤ 500
  · obtain ⟨rfl, hl⟩ := hbl
    have hl' : (data.length : Int) ≤ 500 := by omega
    have HE : Aside0 (writeT t s data = match sget t s with | some (false, _) => (4, t) | some (true, _) => (0, sput t s (true, data)) | none => addT t s (true, data)) := ⟨by unfold writeT; rw [if_neg (by rw [← HB.out]; simp; omega)]⟩
    go_enter Tryz.func12, Tryz.ntmps12
    go_upto_region 3 with (first | (go_at_call 49; refine hreal.mono ?_; rintro e w ⟨rfl, hw⟩; cases hw) | (go_at_call 50; refine hval.mono ?_; rintro e w2 ⟨rfl, hB⟩))
    have hcl := HC.out w2 hB
    go_upto_region 4 with (go_at_call 48; refine hcl.mono ?_; rintro e w3 ⟨sv, rfl, hb, hB3⟩; obtain ⟨A3, c3, rfl, _, _⟩ := hb.reads)
    obtain ⟨W4, hW4⟩ : ∃ W4, W4 = w3.alloc (.cells #[.bool true, .slice A3 data.length c3] tNode) := ⟨_, rfl⟩
    rw [← hW4]
    have v4 : W4.heap[w3.heap.size]? = some (.cells #[.bool true, .slice A3 data.length c3] tNode (0, 0)) := by rw [hW4]; exact heap_alloc_new w3 _
    have b34 : Below w3.heap.size w3 W4 := by rw [hW4]; exact below_alloc (Below.refl _ _) _
    have b4 : Below w.heap.size w W4 := below_then (below_then hB hB.size hB3) (Nat.le_trans hB.size hB3.size) b34
    have hT4 := HT.out W4 b4
    have c2 : W4.cell? ⟨g, 2, none⟩ = some (.map (some bm)) := by rw [blk_cell hT4.2.2.2.1]; rfl
    have HK := Aside0.mk (fun (W : World) (hw : Below W4.heap.size W4 W) => (⟨HT.out W (below_then b4 b4.size hw), HN.out w2 w3 W _ hB hb (below_then b34 b34.size hw), by rw [blk_cell ((hw.block _ (blk_lt v4)).trans v4)]; rfl, by rw [blk_cell ((hw.block _ (blk_lt v4)).trans v4)]; rfl, by rw [blk_cell (HT.out W (below_then b4 b4.size hw)).2.2.2.1]; rfl, below_then b4 b4.size hw⟩ :
      TreeIs W base (fun k => ok k ∨ w.heap.size ≤ k) g bm seed t ∧ NodeIs W base (fun k => (ok k ∨ w.heap.size ≤ k) ∧ k ≠ g ∧ k ≠ bm) (.agg #[.bool true, .slice A3 data.length c3]) (true, data) ∧ W.cell? ⟨w3.heap.size, 0, none⟩ = some (.bool true) ∧ W.cell? ⟨w3.heap.size, 1, none⟩ = some (.slice A3 data.length c3) ∧ W.cell? ⟨g, 2, none⟩ = some (.map (some bm)) ∧ Below w.heap.size w W))
    clear hW4 v4 b34 b4 hb hB3 hB hcl
    rcases tree_look hT4 s with ⟨h1, h2, _⟩ | ⟨f, d, A, c, h1, h2, _⟩
    · have HE2 := Aside0.mk (show writeT t s data = addT t s (true, data) by rw [HE.out, h1])
      obtain ⟨k1, k2, k3, k4, k5, k6⟩ := HK.out (W4.alloc (.cells #[.bool false, .slice none 0 0] tNode)) (below_alloc (Below.refl _ _) _)
      have hadd := add_any _ base _ g bm seed t s hs true A3 c3 data k1 k2
      have HB6 := Aside0.mk k6
      clear hT4 h1 k1 k2 k6 HK HT HN HC
      go_wp2_with (go_at_call 51; refine hadd.mono ?_; rintro e w6 ⟨rfl, q1, q2⟩)
      go_ret
      rw [HE2.out]
      exact ⟨rfl, q1, (KeptE.of_below HB6.out (fun k => k = bm)).then_ q2 (fun k h => .inl h)⟩
    · cases f with
      | false =>
        have HE2 := Aside0.mk (show writeT t s data = (4, t) by rw [HE.out, h1])
        obtain ⟨k1, k2, k3, k4, k5, k6⟩ := HK.out (W4.alloc (.cells #[.bool false, .slice A d.length c] tNode)) (below_alloc (Below.refl _ _) _)
        have HB6 := Aside0.mk (And.intro k6 k1)
        clear hT4 h1 k1 k2 k6 HK HT HN HC
        go_wp2_with (fail)
        go_ret
        rw [HE2.out]
        exact ⟨rfl, HB6.out.2, KeptE.of_below HB6.out.1 _⟩
      | true =>
        have HE2 := Aside0.mk (show writeT t s data = (0, sput t s (true, data)) by rw [HE.out, h1])
        obtain ⟨k1, k2, k3, k4, k5, k6⟩ := HK.out (W4.alloc (.cells #[.bool true, .slice A d.length c] tNode)) (below_alloc (Below.refl _ _) _)
        obtain ⟨w7, hu, hT7, hk7, _⟩ := tree_store (w := (W4.alloc (.cells #[.bool true, .slice A d.length c] tNode)).drew) (k1.kept ((KeptE.refl _ (fun _ => False)).drew) (fun _ _ h => h)) s (k2.kept ((KeptE.refl _ (fun _ => False)).drew) (fun _ _ h => h))
        have HB6 := Aside0.mk (And.intro hT7 ((KeptE.of_below k6 (fun k => k = bm)).then_ (W := W4.alloc (.cells #[.bool true, .slice A d.length c] tNode)) hk7 (fun k h => .inl h)))
        clear hT4 h1 k1 k2 k6 hT7 hk7 HK HT HN HC
        go_wp2_with (fail)
        go_region
        go_wp2
        go_ret
        rw [HE2.out]
        exact ⟨rfl, HB6.out.1, HB6.out.2⟩
  · have HE := Aside0.mk (show writeT t s data = (1, t) by
      unfold writeT
      rw [if_pos]
      rw [← HB.out]
      cases b with
      | false => exact .inl rfl
      | true => exact .inr (by simp at hbl; omega))
    have hbl' : b = false ∨ (b = true ∧ ¬ (data.length : Int) ≤ 500) := by
      cases b with
      | false => exact .inl rfl
      | true => exact .inr ⟨rfl, by simp at hbl; omega⟩
    clear hbl
    rcases hbl' with rfl | ⟨rfl, hl⟩
    · go_enter Tryz.func12, Tryz.ntmps12
      go_wp2_with (first | (go_at_call 49; refine hreal.mono ?_; rintro e w ⟨rfl, hw⟩; cases hw) | (go_at_call 50; refine hval.mono ?_; rintro e w2 ⟨rfl, hB⟩))
      go_ret
      rw [HE.out]
      exact ⟨rfl, HT.out _ hB, KeptE.of_below hB _⟩
    · have hl' : (500 : Int) < data.length := by omega
      clear hl
      go_enter Tryz.func12, Tryz.ntmps12
      go_wp2_with (first | (go_at_call 49; refine hreal.mono ?_; rintro e w ⟨rfl, hw⟩; cases hw) | (go_at_call 50; refine hval.mono ?_; rintro e w2 ⟨rfl, hB⟩))
      go_ret
      rw [HE.out]
      exact ⟨rfl, HT.out _ hB, KeptE.of_below hB _⟩

theorem sget_mem {α : Type} {s : ByteArray} {v : α} : ∀ {t : List (ByteArray × α)}, sget t s = some v → (s, v) ∈ t
  | [], h => by cases h
  | (k, u) :: t, h => by
    unfold sget at h
    split at h
    · rename_i he
      injection h with h
      rw [he, h]
      exact List.mem_cons_self ..
    · exact List.mem_cons_of_mem _ (sget_mem h)
theorem fld0 (f : Bool) (A : Option Addr) (n c : Nat) (w : World) : (Instr.field tNode (.agg #[.bool f, .slice A n c]) 0).run Tryz.prog w = .ok (.bool f) w := by kernel_rfl
theorem fld1 (f : Bool) (A : Option Addr) (n c : Nat) (w : World) : (Instr.field tNode (.agg #[.bool f, .slice A n c]) 1).run Tryz.prog w = .ok (.slice A n c) w := by kernel_rfl
/-- What Read gives. -/
def readT (t : List (ByteArray × NodeD)) (s : ByteArray) : List Int × Int :=
  match sget t s with
  | some (true, d) => (d, 0)
  | _ => ([], 3)
set_option maxRecDepth 100000 in
theorem read_any (w : World) (base : Nat) (ok : Nat → Prop) (g bm : Nat) (seed : Int) (t : List (ByteArray × NodeD)) (s : ByteArray) (hl : ∀ p ∈ t, p.2.2.length ≤ 100000) (h : TreeIs w base ok g bm seed t) :
    Calls Tryz.prog 26 #[.pointer (some ⟨g, 0, none⟩), .string s] w fun e w' => ∃ v, e = .returned (.tuple #[v, .int .i64 (readT t s).2]) ∧ Buf w' w.heap.size v (readT t s).1 ∧ Below w.heap.size w w' := by
  have hreal := tree_real h.2.2.2.1
  have F0 := fld0
  have F1 := fld1
  have c2 : w.cell? ⟨g, 2, none⟩ = some (.map (some bm)) := by rw [blk_cell h.2.2.2.1]; rfl
  rcases tree_look h s with ⟨h1, _, h2⟩ | ⟨f, d, A, c, h1, _, h2, hC⟩
  · have HE := Aside0.mk (show readT t s = ([], 3) by unfold readT; rw [h1])
    clear h h1
    go_enter Tryz.func26, Tryz.ntmps26
    go_wp2_with (go_at_call 49; refine hreal.mono ?_; rintro e w ⟨rfl, hw⟩; cases hw)
    go_ret2
    rw [HE.out]
    exact ⟨_, rfl, Kd.R_nil _ _ _ _ _, Below.refl _ _⟩
  · have hd : d.length ≤ 100000 := hl _ (sget_mem h1)
    have hcl := clone_any w A c d hC (by omega)
    cases f with
    | false =>
      have HE := Aside0.mk (show readT t s = ([], 3) by unfold readT; rw [h1])
      clear h h1 hC
      go_enter Tryz.func26, Tryz.ntmps26
      go_wp2_with (go_at_call 49; refine hreal.mono ?_; rintro e w ⟨rfl, hw⟩; cases hw)
      go_ret2
      rw [HE.out]
      exact ⟨_, rfl, Kd.R_nil _ _ _ _ _, Below.refl _ _⟩
    | true =>
      have HE := Aside0.mk (show readT t s = (d, 0) by unfold readT; rw [h1])
      clear h h1 hC
      go_enter Tryz.func26, Tryz.ntmps26
      go_wp2_with (first | (go_at_call 49; refine hreal.mono ?_; rintro e w ⟨rfl, hw⟩; cases hw) | (go_at_call 48; refine hcl.mono ?_; rintro e w2 ⟨v, rfl, hb, hB⟩))
      go_ret2
      rw [HE.out]
      exact ⟨_, rfl, hb, hB⟩
end Go.Proofs.YtkjplffpihfliaaGreatDoor
end

section
/- maps.Keys and slices.Collect, slices.Sorted over maps with string keys. -/
namespace Go.Proofs.YtkjplffpihfliaaGreatDoor
open Go.RowKit Go.Proofs.YtkjplffpihfliaaGreatDoorW.PrintWords PAll

def anyR : Value → Option (DataW Unit × List MemPlace) := fun _ => some (.nil, [])
def keyD (l : List (ByteArray × Value)) : DataW Unit := .map ((l.map fun p => (Lit.string p.1.data.toList, DataW.nil)).foldr DataW.insert [])
theorem keyD_keys (l : List (ByteArray × Value)) : (strKeys (keyD l)).Perm (l.map fun p => p.1.data.toList) := by
  have h := (Go.WideShapes.sorted_perm (l.map fun p => ((Lit.string p.1.data.toList, DataW.nil) : Lit × DataW Unit))).map (fun p => strOf p.1)
  rw [List.map_map] at h
  exact h
theorem keyD_size (l : List (ByteArray × Value)) : Maps.size (keyD l) = l.length := by
  show (((l.map fun p => (Lit.string p.1.data.toList, DataW.nil)).foldr DataW.insert [] : List (Lit × DataW Unit))).length = _
  rw [length_sorted]
  simp
theorem smap_owns {P : Program} {kt : TypeId} (hk : P.underlying kt = some .string) {w : World} {b : Nat} {l : List (ByteArray × Value)} (h : SMap w b l) (hl : l.length ≤ 100000) (hs : ∀ p ∈ l, p.1.size ≤ 100000) : w.ownsMap P kt anyR b l.length (keyD l) := by
  have hsz := fun es clock hb => h.size (es := es) (clock := clock) hb
  obtain ⟨es, clock, hb, h1, h2, h3, h4⟩ := h
  have hrd : ∀ (es : List MapEntry) (l : List (ByteArray × Value)), es.map (fun e => (e.key, e.val)) = l.map (fun p => (Value.string p.1, p.2)) → (∀ p ∈ l, p.1.size ≤ 100000) →
      (∀ x ∈ es, ∃ y, Go.WideElems.rd P kt anyR x = some y) ∧ es.map (Go.WideElems.rg P kt anyR) = l.map fun p => ((Lit.string p.1.data.toList, DataW.nil) : Lit × DataW Unit) := by
    intro es
    induction es with
    | nil =>
      intro l h _
      cases l with
      | nil => exact ⟨fun _ h => (by cases h), rfl⟩
      | cons p l => simp at h
    | cons e es ih =>
      intro l h hs
      cases l with
      | nil => simp at h
      | cons p l =>
        simp only [List.map_cons, List.cons.injEq, Prod.mk.injEq] at h
        obtain ⟨⟨k1, k2⟩, k3⟩ := h
        obtain ⟨i1, i2⟩ := ih l k3 (fun q hq => hs q (List.mem_cons_of_mem _ hq))
        have hp := hs p (List.mem_cons_self ..)
        have hr : Go.WideElems.rd P kt anyR e = some (Lit.string p.1.data.toList, DataW.nil) := by
          unfold Go.WideElems.rd
          rw [k1]
          have : Go.keyOf P kt (Value.string p.1) = some (Lit.string p.1.data.toList) := by
            simp [Go.keyOf, hk, mapKey]
            unfold maxLen
            omega
          rw [this]
          rfl
        refine ⟨fun x hx => ?_, ?_⟩
        · rcases List.mem_cons.1 hx with rfl | hx
          · exact ⟨_, hr⟩
          · exact i1 x hx
        · rw [List.map_cons, List.map_cons, i2, Go.WideElems.rg_of hr]
  obtain ⟨r1, r2⟩ := hrd es.toList l h1 hs
  have hes := hsz es clock hb
  refine ⟨es, clock, hb, ⟨by unfold maxLen; omega, ?_, r1⟩, by omega, ?_⟩
  · refine ⟨h4, ?_, ?_⟩
    · exact h3.imp (fun h => Nat.ne_of_lt h)
    · have e : es.toList.map (·.key) = (l.map Prod.fst).map Value.string := by
        have := congrArg (List.map Prod.fst) h1
        rw [List.map_map, List.map_map] at this
        rw [List.map_map]
        exact this
      rw [e]
      exact List.pairwise_map.2 (h2.imp (fun h e => h (by injection e)))
  · rw [r2]; rfl

/-- The function value that maps.Keys gives for the map in the box at block b. -/
abbrev keyFn (g b : Nat) : Value := .func (.func g) #[] #[.pointer (some ⟨b, 0, none⟩)]
abbrev Keyed (w' : World) (base : Nat) (l : List (ByteArray × Value)) (v : Value) (ss : List (List UInt8)) : Prop :=
  ss.Perm (l.map fun p => p.1.data.toList) ∧ w'.ownsRow base 9 1 v ss.length (ss.map encStr)
theorem keysN_any (w : World) (mb : Option Nat) : Calls Tryz.prog 120 #[.map mb] w fun e w' => e = .returned (keyFn 163 w.heap.size) ∧ w' = w.alloc (.cells #[.map mb] tNodes) :=
  callsIn_wide.1 (AnyZ.keys_in Tryz.keysN Fence.wide 5 trivial rfl mb w)
theorem keysB_any (w : World) (mb : Option Nat) : Calls Tryz.prog 73 #[.map mb] w fun e w' => e = .returned (keyFn 126 w.heap.size) ∧ w' = w.alloc (.cells #[.map mb] 60) :=
  callsIn_wide.1 (AnyZ.keys_in Tryz.keysB Fence.wide 5 trivial rfl mb w)
/-- slices.Collect of the keys of a map. -/
theorem collectB_any (w : World) (Bm b : Nat) (l : List (ByteArray × Value)) (hm : w.cell? ⟨Bm, 0, none⟩ = some (.map (some b))) (h : SMap w b l) (hl : l.length ≤ 100000) (hs : ∀ p ∈ l, p.1.size ≤ 100000) :
    Calls Tryz.prog 124 #[keyFn 126 Bm] w fun e w' => ∃ v ss, e = .returned v ∧ Keyed w' w.heap.size l v ss ∧ Below w.heap.size w w' := by
  have hown := smap_owns Tryz.underlying9 h hl hs
  have hB : Bm < w.heap.size := World.block_lt_of_cell? _ _ hm
  have hz := keyD_size l
  have hseq : SeqGives Fence.wide 3 Tryz.prog 126 #[.pointer (some ⟨Bm, 0, none⟩)] encStr (fun ss => ss.Perm (strKeys (keyD l))) (Maps.size (keyD l)) w :=
    AnyZ.keys_gives (ρ := Tryz.keysB_ren) { Tryz.keysB with } Fence.wide _ trivial rfl (by omega) Bm b l.length (keyD l) w hB hm hown
  have hc := AnyZ.collect_in (ρ := Tryz.sortedS_ren) { Tryz.sortedS with } Fence.wide 5 trivial trivial rfl (by omega) 126 #[.pointer (some ⟨Bm, 0, none⟩)] trivial (enters_of Tryz.func126 (by kernel_rfl) rfl) _ _ (by unfold maxLen; omega) (by omega) w hseq
  refine (callsIn_wide.1 hc).mono ?_
  rintro e w' ⟨v, ss, rfl, hS, hrow, _, hb⟩
  exact ⟨v, ss, rfl, ⟨hS.trans (keyD_keys l), hrow⟩, hb⟩
theorem sortsS (m : Nat) : AnyZ.SortsIn Tryz.prog Tryz.sortedS_ren Fence.wide m :=
  ⟨fun blk off cap ss W hH hblk hsz => callsIn_wide.2 (AnyM.slices_Sort_string Tryz.sortS blk off cap ss W hH hblk hsz),
   fun p cap W => callsIn_wide.2 (AnyM.slices_Sort_string_none Tryz.sortS p cap W)⟩
/-- slices.Sorted of the keys of a map. -/
theorem sortedN_any (w : World) (Bm b : Nat) (l : List (ByteArray × Value)) (hm : w.cell? ⟨Bm, 0, none⟩ = some (.map (some b))) (h : SMap w b l) (hl : l.length ≤ 100000) (hs : ∀ p ∈ l, p.1.size ≤ 100000) :
    Calls Tryz.prog 119 #[keyFn 163 Bm] w fun e w' => ∃ v, e = .returned v ∧
      w'.ownsRow w.heap.size 9 1 v l.length (((l.map fun p => p.1.data.toList).mergeSort leB).map encStr) ∧ Below w.heap.size w w' := by
  have hown := smap_owns Tryz.underlying9 h hl hs
  have hB : Bm < w.heap.size := World.block_lt_of_cell? _ _ hm
  have hz := keyD_size l
  have hseq : SeqGives Fence.wide 2 Tryz.prog 163 #[.pointer (some ⟨Bm, 0, none⟩)] encStr (fun ss => ss.Perm (strKeys (keyD l))) (Maps.size (keyD l)) w :=
    AnyZ.keys_gives (ρ := Tryz.keysN_ren) { Tryz.keysN with } Fence.wide _ trivial rfl (by omega) Bm b l.length (keyD l) w hB hm hown
  have hc := AnyZ.sorted_in Tryz.sortedS Fence.wide 5 trivial trivial trivial trivial rfl (by omega) (sortsS _) (enters_of Tryz.func162 (by kernel_rfl) rfl) 163 #[.pointer (some ⟨Bm, 0, none⟩)] trivial (enters_of Tryz.func163 (by kernel_rfl) rfl) _ _ (by unfold maxLen; omega) (by omega) w hseq
  refine (callsIn_wide.1 hc).mono ?_
  rintro e w' ⟨v, ss, rfl, hS, hrow, _, hb⟩
  have hp := hS.trans (keyD_keys l)
  have hn : ss.length = l.length := by rw [hp.length_eq]; simp
  refine ⟨v, rfl, ?_, hb⟩
  rw [← mergeSort_of_perm hp, ← hn]
  exact hrow
end Go.Proofs.YtkjplffpihfliaaGreatDoor
end
