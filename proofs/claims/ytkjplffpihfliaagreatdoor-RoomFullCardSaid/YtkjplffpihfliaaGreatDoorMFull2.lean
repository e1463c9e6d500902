/- Texts of this claim, merged by wip/merge.py: Ord1 Buf Clone Env Ins Row. -/
import Derived.Test.YtkjplffpihfliaaGreatDoorMFull1
import Derived.WalkSpells
import Derived.Shelf.Spec.SlicesInsert
import Derived.Lib.AppendZerosOnto
import Derived.Deep.Heap
import Derived.Deep.AppendLies
section
/- Plain facts on the printed functions order.little and slots.Coin: what they give, without rounds. -/
namespace Go.Proofs.YtkjplffpihfliaaGreatDoor
open Go.RowKit Go.Proofs.YtkjplffpihfliaaGreatDoorW.PrintWords PAll

/-- The first n bytes of a number, the least one first. -/
def lit : Int → Nat → List Int
  | _, 0 => []
  | x, n + 1 => (x % 256) :: lit (x / 256) n
theorem lit_length : ∀ (n : Nat) (x : Int), (lit x n).length = n
  | 0, _ => rfl
  | n + 1, x => by simp [lit, lit_length n]

theorem little_l0 (n : Nat) : ∀ (k : Nat) (l : List Int) (x i : Int) (N : Int), 0 ≤ i → N - i = n → N ≤ 1000 → n < k → l.length + n ≤ 140737488355328 →
    order_little.l0 k l x N i = some (l ++ lit x n) := by
  induction n with
  | zero =>
    intro k l x i N h0 h1 hN hk hl
    obtain ⟨k, rfl⟩ : ∃ m, k = m + 1 := ⟨k - 1, by omega⟩
    simp only [order_little.l0]
    rw [if_neg (by omega)]
    simp [lit]
  | succ n ih =>
    intro k l x i N h0 h1 hN hk hl
    obtain ⟨k, rfl⟩ : ∃ m, k = m + 1 := ⟨k - 1, by omega⟩
    simp only [order_little.l0]
    rw [if_pos (by omega), if_pos (by omega), show wrap64 (i + 1) = i + 1 by unfold wrap64; omega, ih k _ _ _ _ (by omega) (by omega) hN (by omega) (by simp; omega)]
    simp [lit]
theorem little_f (n : Nat) (l : List Int) (x : Int) (hn : n ≤ 1000) (hl : l.length + n ≤ 140737488355328) : order_little.f (n + 1) l x n = some (l ++ lit x n) :=
  little_l0 n (n + 1) l x 0 n (by omega) (by omega) (by omega) (by omega) hl

theorem coin_l0 (x2 : List Int) (xs : List Int) (d : Nat) : ∀ (k : Nat) (h i : Int), 0 ≤ i → (xs.length : Int) - i = d → xs.length ≤ 140737488355328 → d < k → ∃ r, slots_Coin.l0 k x2 h xs xs.length i = some r := by
  induction d with
  | zero =>
    intro k h i h0 h1 hm hk
    obtain ⟨k, rfl⟩ : ∃ m, k = m + 1 := ⟨k - 1, by omega⟩
    exact ⟨_, by simp only [slots_Coin.l0]; rw [if_neg (by omega)]⟩
  | succ d ih =>
    intro k h i h0 h1 hm hk
    obtain ⟨k, rfl⟩ : ∃ m, k = m + 1 := ⟨k - 1, by omega⟩
    obtain ⟨r, hr⟩ := ih k (IntKind.u64.wrap ((Go.bits .xor .u64 h (IntKind.u64.wrap (rd xs i))) * 1099511628211)) (i + 1) (by omega) (by omega) hm (by omega)
    refine ⟨r, ?_⟩
    simp only [slots_Coin.l0]
    rw [if_pos (by omega), if_pos h0, if_pos (by omega), show wrap64 (i + 1) = i + 1 by unfold wrap64; omega]
    exact hr
/-- The coin of some bytes. -/
def coin (seed tag : Int) (l : List Int) : Int := (slots_Coin.f (l.length + 1) seed tag l).getD 0
theorem coin_f (seed tag : Int) (l : List Int) (hl : l.length ≤ 140737488355328) : slots_Coin.f (l.length + 1) seed tag l = some (coin seed tag l) := by
  obtain ⟨r, hr⟩ := coin_l0 l l l.length (l.length + 1) (IntKind.u64.wrap (seed + (IntKind.u64.wrap ((IntKind.u64.wrap ((IntKind.u64.wrap (tag)) + 1)) * 11400714819323198485)))) 0 (by omega) (by omega) hl (by omega)
  have : slots_Coin.f (l.length + 1) seed tag l = some r := hr
  unfold coin
  rw [this]
  rfl
/-- What the digest of a node is the coin of. -/
def digBytes (left : Int) (k v : List Int) (right : Int) : List Int := lit left 8 ++ [(k.length : Int) % 256] ++ k ++ lit (v.length : Int) 2 ++ v ++ lit right 8
def digestOf (seed left : Int) (k v : List Int) (right : Int) : Int := coin seed 4 (digBytes left k v right)
end Go.Proofs.YtkjplffpihfliaaGreatDoor
end

section
/- A buffer of bytes that the call has made: order.little on it, and the appends at their operations. -/
namespace Go.Proofs.YtkjplffpihfliaaGreatDoor
open Go.RowKit Go.Proofs.YtkjplffpihfliaaGreatDoorW.PrintWords PAll

abbrev kB : Kd (List Int) := Kd.slice 5 (Kd.int .u8)
/-- A slice of bytes in memory that is new since w0 (base: w0's size). -/
abbrev Buf (w : World) (base : Nat) (v : Value) (xs : List Int) : Prop := Kd.R (Kd.int .u8) 5 w base (fun k => base ≤ k) v xs
theorem buf_of_own {w : World} {base : Nat} {v : Value} {xs : List Int} (h : w.ownsRow base 5 1 v xs.length (xs.map (Value.int .u8))) : Buf w base v xs :=
  Kd.R_of_own h (fun _ hk => own_base h _ hk)
theorem Buf.reads {w : World} {base : Nat} {v : Value} {xs : List Int} (h : Buf w base v xs) : ∃ A c, v = .slice A xs.length c ∧ xs.length ≤ c ∧ Kd.C (Kd.int .u8) w A xs.length xs := Kd.R_reads h

theorem little_buf (w0 w : World) (hB : Below w0.heap.size w0 w) (v : Value) (l : List Int) (x : Int) (n : Nat) (hn : n ≤ 1000) (hl : l.length + n ≤ 140737488355328) (ho : Buf w w0.heap.size v l) :
    Calls Tryz.prog 117 #[v, .int .u64 x, .int .i64 n] w fun e w' => ∃ v', e = .returned v' ∧ Buf w' w0.heap.size v' (l ++ lit x n) ∧ Below w0.heap.size w0 w' :=
  (order_little.calls (n + 1) (fun k => w0.heap.size ≤ k) v l x n _ w0 w hB ho (little_f n l x hn hl)).mono fun _ _ ⟨v', he, h1, h2, _⟩ =>
    ⟨v', he, Kd.R_mono h1 (fun _ hk => hk.elim id (fun h => Nat.le_trans hB.size h)), h2⟩

section
variable {ops : Array Oper} {rest : List Oper} {o : Oper} {a : Act} {Q : Exit → Act → World → Prop}
/-- append(b, x) -/
theorem buf_append1 {w0 W : World} {p : Int} (hgd : o.guard = none) (s x : Operand) (ho : o.op = .call { callee := .builtin .append, args := #[s, x], argTypes := #[31, 31] })
    (v : Value) (xs : List Int) (hs : a.eval s = v) (hx : a.eval x = .slice (some ⟨W.heap.size, 0, none⟩) 1 1)
    (HO : Buf W w0.heap.size v xs) (HB : Below w0.heap.size w0 W) (hl : xs.length + 1 ≤ 140737488355328)
    (h : ∀ v1 w1, Buf w1 w0.heap.size v1 (xs ++ [p]) → Below w0.heap.size w0 w1 → W.grownBy w1 v.ownBlock → wpList Tryz.prog ops Q rest (a.put o.dst v1) w1) :
    wpList Tryz.prog ops Q (o :: rest) a (W.alloc (.cells #[.int .u8 p] 5)) :=
  Kd.R_append (Kd.int .u8) (w0 := w0) (W := W) w0.heap.size hgd s x 31 5 (.int .u8 0) 1 ho Tryz.underlying31 info5 rfl (by decide) (by omega) v xs p [.int .u8 p]
    (fun k => w0.heap.size ≤ k) (fun _ => False) hs hx rfl (fun _ hk => hk.elim) (fun _ hk => Nat.le_trans HB.size hk) HO HB HB.size (by omega) (fun v1 w1 h1 h2 h3 _ => h v1 w1 h1 h2 h3)
/-- append(b, ys...) -/
theorem buf_appendN {w0 W : World} (hgd : o.guard = none) (s x : Operand) (ho : o.op = .call { callee := .builtin .append, args := #[s, x], argTypes := #[31, 31] })
    (v : Value) (xs ys : List Int) (A : Option Addr) (m c : Nat) (hs : a.eval s = v) (hx : a.eval x = .slice A m c) (hm : ys.length = m)
    (HO : Buf W w0.heap.size v xs) (HR : Kd.C (Kd.int .u8) W A ys.length ys) (HB : Below w0.heap.size w0 W) (hl : xs.length + m ≤ 140737488355328)
    (h : ∀ v1 w1, Buf w1 w0.heap.size v1 (xs ++ ys) → Below w0.heap.size w0 w1 → W.grownBy w1 v.ownBlock → wpList Tryz.prog ops Q rest (a.put o.dst v1) w1) :
    wpList Tryz.prog ops Q (o :: rest) a W := by
  subst hm
  exact Kd.R_append_rows (Kd.int .u8) (Rr := (Kd.int .u8).K W) (w0 := w0) (W := W) w0.heap.size hgd s x 31 5 (.int .u8 0) 1 ho Tryz.underlying31 info5 rfl (by decide) (by omega) v xs ys A ys.length c
    (fun k => w0.heap.size ≤ k) (fun _ => False) hs hx HO HR (fun _ _ h => h) (fun _ hk => hk.elim) (fun _ hk => Nat.le_trans HB.size hk) HB HB.size (by omega) (fun v1 w1 h1 h2 h3 _ => h v1 w1 h1 h2 h3)
/-- append(b, ys...) in a region that draws its order -/
theorem buf_appendN_step {Kc : Act → World → Prop} {w0 W : World} (hw : Region.wanted o (yielded ops a.tmps) = true) (s x : Operand) (ho : o.op = .call { callee := .builtin .append, args := #[s, x], argTypes := #[31, 31] })
    (v : Value) (xs ys : List Int) (A : Option Addr) (m c : Nat) (hs : a.eval s = v) (hx : a.eval x = .slice A m c) (hm : ys.length = m)
    (HO : Buf W w0.heap.size v xs) (HR : Kd.C (Kd.int .u8) W A ys.length ys) (HB : Below w0.heap.size w0 W) (hl : xs.length + m ≤ 140737488355328)
    (h : ∀ v1 w1, Buf w1 w0.heap.size v1 (xs ++ ys) → Below w0.heap.size w0 w1 → W.grownBy w1 v.ownBlock → Kc (a.put o.dst v1) w1) :
    if Region.wanted o (yielded ops a.tmps) = true then Oper.wp Tryz.prog o a W Kc Q else Kc (a.put o.dst undef) W := by
  subst hm
  exact Kd.R_append_rows_step (Kd.int .u8) (Rr := (Kd.int .u8).K W) (w0 := w0) (W := W) w0.heap.size hw s x 31 5 (.int .u8 0) 1 ho Tryz.underlying31 info5 rfl (by decide) (by omega) v xs ys A ys.length c
    (fun k => w0.heap.size ≤ k) (fun _ => False) hs hx HO HR (fun _ _ h => h) (fun _ hk => hk.elim) (fun _ hk => Nat.le_trans HB.size hk) HB HB.size (by omega) (fun v1 w1 h1 h2 h3 _ => h v1 w1 h1 h2 h3)
end
/-- What is read in old memory is read behind. -/
theorem C_old {w0 w : World} {A : Option Addr} {n : Nat} {xs : List Int} (h : Kd.C (Kd.int .u8) w0 A n xs) (hB : Below w0.heap.size w0 w) : Kd.C (Kd.int .u8) w A n xs := Kd.C_below h hB
end Go.Proofs.YtkjplffpihfliaaGreatDoor
end

section
/- The contract of bytes.Clone. -/
namespace Go.Proofs.YtkjplffpihfliaaGreatDoor
open Go.RowKit Go.Proofs.YtkjplffpihfliaaGreatDoorW.PrintWords PAll

theorem buf_empty {W : World} {base : Nat} (hb : base ≤ W.heap.size) : Buf (W.alloc (.cells #[] 5)) base (.slice (some ⟨W.heap.size, 0, none⟩) 0 0) [] :=
  buf_of_own (World.ownsRow_made W #[] 0 hb (by decide) rfl)
theorem C_none {w : World} {n : Nat} {xs : List Int} (h : Kd.C (Kd.int .u8) w none n xs) : xs = [] := by
  have h' : ReadsOf (Value.int .u8) 0 w none n xs := Kd.reads_of_C h
  cases xs with
  | nil => rfl
  | cons x l =>
    obtain ⟨ad, e, _⟩ := h'.2.2 (by rw [← h'.1]; simp)
    cases e

theorem clone_any (w : World) (A : Option Addr) (c : Nat) (xs : List Int) (h : Kd.C (Kd.int .u8) w A xs.length xs) (hl : xs.length ≤ 140737488355328) :
    Calls Tryz.prog 48 #[.slice A xs.length c] w fun e w' => ∃ v', e = .returned v' ∧ Buf w' w.heap.size v' xs ∧ Below w.heap.size w w' := by
  cases A with
  | none =>
    obtain rfl := C_none h
    have hq := Lib.run_eql_slice_nil (P := Tryz.prog) w 31 5 none 0 c 0 0 Tryz.underlying31
    go_enter Tryz.func48, Tryz.ntmps48
    go_wp2
    go_ret
    exact ⟨_, rfl, Kd.R_nil _ _ _ _ _, Below.refl _ _⟩
  | some a =>
    have hq := Lib.run_eql_slice_nil (P := Tryz.prog) w 31 5 (some a) xs.length c 0 0 Tryz.underlying31
    go_enter Tryz.func48, Tryz.ntmps48
    go_wp2_with (at_builtin; refine buf_appendN (w0 := w) rfl (.tmp 5) (.tmp 6) rfl _ [] xs (some a) xs.length c rfl rfl rfl (buf_empty (Nat.le_refl _)) (C_old h (below_alloc (Below.refl _ _) _)) (below_alloc (Below.refl _ _) _) ?hl ?_; (case hl => simp; omega); intro v1 w1 hb hB _)
    go_ret
    exact ⟨_, rfl, hb, hB⟩
end Go.Proofs.YtkjplffpihfliaaGreatDoor
end

section
/- What an operation leaves of memory, and of the world outside. -/
namespace Go.Proofs.YtkjplffpihfliaaGreatDoor
open Go.RowKit Go.Proofs.YtkjplffpihfliaaGreatDoorW.PrintWords PAll

/-- Kept, and the world outside as it was. -/
def KeptE (w W : World) (S : Nat → Prop) : Prop := Kept w W S ∧ W.os = w.os ∧ W.tape = w.tape ∧ W.output = w.output
section
variable {w W W2 : World} {S S2 S' : Nat → Prop}
theorem KeptE.refl (w : World) (S : Nat → Prop) : KeptE w w S := ⟨Kept.refl _ _, rfl, rfl, rfl⟩
theorem KeptE.of_below (h : Below w.heap.size w W) (S : Nat → Prop) : KeptE w W S := ⟨Kept.of_below h S, h.os, h.tape, h.output⟩
theorem KeptE.mono (h : KeptE w W S) (hs : ∀ k, S k → S' k) : KeptE w W S' := ⟨h.1.mono hs, h.2⟩
theorem KeptE.then_ (h : KeptE w W S) (k : KeptE W W2 S2) (hs : ∀ k, S2 k → S k ∨ w.heap.size ≤ k) : KeptE w W2 S :=
  ⟨h.1.then_ k.1 hs, k.2.1.trans h.2.1, k.2.2.1.trans h.2.2.1, k.2.2.2.trans h.2.2.2⟩
theorem KeptE.of_grown {row : Option Nat} (hg : W.grownBy W2 row) (h : KeptE w W S) (hr : ∀ k, row = some k → S k ∨ w.heap.size ≤ k) : KeptE w W2 S :=
  ⟨Kept.of_grown hg h.1 hr, hg.os.trans h.2.1, hg.tape.trans h.2.2.1, hg.output.trans h.2.2.2⟩
theorem KeptE.below (h : KeptE w W S) (hb : Below W.heap.size W W2) : KeptE w W2 S := h.then_ (KeptE.of_below hb (fun _ => False)) (fun _ hk => hk.elim)
theorem KeptE.alloc (h : KeptE w W S) (o : Obj) : KeptE w (W.alloc o) S := ⟨h.1.alloc o, h.2⟩
theorem KeptE.drew (h : KeptE w W S) : KeptE w W.drew S := ⟨h.1.drew, h.2⟩
theorem KeptE.drewN (h : KeptE w W S) (m : Nat) : KeptE w (W.drewN m) S := ⟨h.1.drewN m, h.2⟩
theorem KeptE.setCell (h : KeptE w W S) {p : Addr} (hp : S p.block ∨ w.heap.size ≤ p.block) (u : Value) : KeptE w (W.setCell p u) S := ⟨h.1.setCell hp u, h.2⟩
theorem KeptE.size (h : KeptE w W S) : w.heap.size ≤ W.heap.size := h.1.1
theorem KeptE.to_below {B : Nat} {w0 : World} (h : KeptE w W S) (hb : Below B w0 w) (hB : B ≤ w.heap.size) (hS : ∀ k, S k → B ≤ k) : Below B w0 W :=
  ⟨h.2.1.trans hb.os, h.2.2.1.trans hb.tape, h.2.2.2.trans hb.output, Nat.le_trans hb.size h.1.1, fun k hk => (h.1.2 k (Nat.lt_of_lt_of_le hk hB) (fun hs => by have := hS k hs; omega)).trans (hb.block k hk)⟩
end
end Go.Proofs.YtkjplffpihfliaaGreatDoor
end

section
/- The contract of slices.Insert of one slice of bytes. -/
namespace Go.Proofs.YtkjplffpihfliaaGreatDoor
open Go.RowKit Go.Lib Go.Proofs.YtkjplffpihfliaaGreatDoorW.PrintWords PAll

theorem setCells_blk {t : TypeId} (g : Nat) : ∀ (vs : List Value) (o : Nat) (w : World) (cur : Array Value), w.heap[g]? = some (.cells cur t (0, 0)) → ∃ cur', (w.setCells g o vs).heap[g]? = some (.cells cur' t (0, 0)) ∧ cur'.size = cur.size
  | [], _, _, cur, h => ⟨cur, h, rfl⟩
  | v :: r, o, w, cur, h => by
    obtain ⟨c', h1, h2⟩ := setCells_blk g r (o + 1) _ _ (blk_set h o v)
    exact ⟨c', h1, by rw [h2]; simp⟩
theorem setCells_kept (g : Nat) {S : Nat → Prop} : ∀ (vs : List Value) (o : Nat) (w0 w : World), KeptE w0 w S → S g ∨ w0.heap.size ≤ g → KeptE w0 (w.setCells g o vs) S
  | [], _, _, _, h, _ => h
  | v :: r, o, w0, w, h, hs => setCells_kept g r (o + 1) w0 _ (h.setCell hs v) hs
theorem own_cells {w : World} {base g cap n : Nat} {t : TypeId} {cur : Array Value} {xs : List Value} (h : w.heap[g]? = some (.cells cur t (0, 0))) (hs : cur.size = cap) (hn : n ≤ cap) (hm : cap ≤ maxLen) (hg : base ≤ g) (hl : xs.length = n)
    (hc : ∀ j v, xs[j]? = some v → w.cell? ⟨g, j, none⟩ = some v) : w.ownsRow base t 1 (.slice (some ⟨g, 0, none⟩) n cap) n xs := by
  refine ⟨by omega, .inr ⟨g, cap, cur, rfl, hg, h, hn, hm, by omega, ?_⟩⟩
  apply List.ext_getElem?
  intro j
  rw [List.getElem?_take]
  by_cases hj : j < n
  · rw [if_pos (by omega)]
    have h1 := hc j _ (List.getElem?_eq_getElem (by omega))
    rw [blk_cell h] at h1
    rw [List.getElem?_eq_getElem (by omega : j < xs.length), ← h1]
    simp
  · rw [if_neg (by omega), List.getElem?_eq_none (by omega)]
theorem own_get {w : World} {base g cap n : Nat} {t : TypeId} {xs : List Value} (h : w.ownsRow base t 1 (.slice (some ⟨g, 0, none⟩) n cap) n xs) :
    ∃ cur, w.heap[g]? = some (.cells cur t (0, 0)) ∧ cur.size = cap ∧ n ≤ cap ∧ cap ≤ maxLen ∧ base ≤ g ∧ xs.length = n ∧ ∀ j v, xs[j]? = some v → w.cell? ⟨g, j, none⟩ = some v := by
  obtain ⟨h0, h1 | ⟨g', cap', cur, he, hb, hh, h3, h4, h5, h6⟩⟩ := h
  · cases h1.1
  · cases he
    refine ⟨cur, hh, by omega, h3, h4, hb, by omega, fun j v hj => ?_⟩
    rw [blk_cell hh]
    have hlt : j < xs.length := (List.getElem?_eq_some_iff.1 hj).1
    rw [← h6, List.getElem?_take, if_pos (by omega)] at hj
    simpa using hj

abbrev tB : Nat := 31
abbrev tBs : Nat := 57
theorem infoBs0 : (Tryz.prog.info? tB).map (fun i => (i.zero, i.size, i.bytes)) = some (some (.slice none 0 0), 1, 24) := by kernel_rfl
theorem infoBs : ∃ i, Tryz.prog.info? tB = some i ∧ i.zero = some (.slice none 0 0) ∧ i.size = 1 ∧ i.bytes = 24 := info_parts infoBs0
theorem sizeB : ∀ w, (Go.sizeOf tB).run Tryz.prog w = .ok 1 w := fun w => by
  obtain ⟨i, hi, _, hs, _⟩ := infoBs
  simp [Go.sizeOf, typeInfo, hi, hs]

/-- What a call of Insert leaves. -/
def Ins (w : World) (base : Nat) (iv : Value) (n : Nat) (vs : List Value) (i : Nat) (b : Value) (e : Ending) (w' : World) : Prop :=
  ∃ iv', e = .returned iv' ∧ w'.ownsRow base tB 1 iv' (n + 1) (vs.take i ++ b :: vs.drop i) ∧ KeptE w w' (fun k => some k = iv.ownBlock) ∧ (∀ k, iv'.ownBlock = some k → some k = iv.ownBlock ∨ w.heap.size ≤ k)

/-- append of one element: what it gives, and where it lies. -/
theorem app_one (w : World) (ty : TypeId) (base : Nat) (iv : Value) (n vb : Nat) (vs : List Value) (b : Value) (h : w.ownsRow base tB 1 iv n vs) (hn : n ≤ 100000) (hb : base ≤ w.heap.size) (h1 : b.oneCell' = true)
    (hvb : w.heap[vb]? = some (.cells #[b] tB (0, 0))) : ∃ v' w', (Builtin.append_ #[tBs, tBs] ty #[iv, .slice (some ⟨vb, 0, none⟩) 1 1]).run Tryz.prog w = .ok v' w' ∧ Ins w base iv n vs n b (.returned v') w' := by
  obtain ⟨i0, hi, hz0, hzs, hby⟩ := infoBs
  have hlen : vs.length = n := by have := h.1; omega
  have hcell : ∀ j u, [b][j]? = some u → w.cell? (Addr.add ⟨vb, 0, none⟩ j) = some u := fun j u hj => by
    rw [Addr.add_lit, Nat.zero_add, blk_cell hvb]
    simpa using hj
  obtain ⟨v', w', hr, h2, h3, _⟩ := run_append_own (P := Tryz.prog) w base tBs ty tB i0 _ 1 24 Tryz.underlying57 hi hz0 hzs hby rfl (by decide) iv n vs h ⟨vb, 0, none⟩ 1 1 [b] rfl hcell (by simpa using h1) (by unfold maxLen; omega) (by omega) hb
  refine ⟨v', w', hr, v', rfl, ?_, KeptE.of_grown h3 (KeptE.refl _ _) (fun k hk => .inl hk.symm), ?_⟩
  · rw [List.take_of_length_le (by omega), List.drop_eq_nil_of_le (by omega)]; exact h2
  · rcases h.2 with ⟨rfl, rfl⟩ | ⟨g, cap, cur, rfl, hg, hh, h3, h4, h5, h6⟩
    · have hr2 := run_append_nil (P := Tryz.prog) w tBs ty tB i0 _ Tryz.underlying57 hi hz0 ⟨vb, 0, none⟩ 1 1 [b] (by simp [hzs]) hcell (by omega) (by omega) (by omega)
      have e := hr.symm.trans hr2
      cases e
      intro k hk
      have : w.heap.size = k := by simpa [Value.ownBlock] using hk
      exact .inr (by omega)
    · by_cases hc : n + 1 ≤ cap
      · have hr2 := run_append_room (P := Tryz.prog) w tBs ty tB i0 Tryz.underlying57 hi g n cap cur hh ⟨vb, 0, none⟩ 1 1 [b] (by simp [hzs]) hcell (by simpa using h1) hc (by simp [hzs]; omega)
        have e := hr.symm.trans hr2
        cases e
        intro k hk
        exact .inl hk.symm
      · have hr2 := run_append_grow (P := Tryz.prog) w tBs ty tB i0 _ Tryz.underlying57 hi hz0 ⟨g, 0, none⟩ n cap vs (by simp [hzs]; omega) (by simpa using h.cells (g := g) rfl) ⟨vb, 0, none⟩ 1 1 [b] (by simp [hzs]) hcell (by omega) (by omega) (growslice_fits (by omega) (by rw [hby]; omega))
        have e := hr.symm.trans hr2
        cases e
        intro k hk
        have : w.heap.size = k := by simpa [Value.ownBlock] using hk
        exact .inr (by omega)

set_option maxRecDepth 100000 in
set_option maxHeartbeats 1000000 in
/-- At the end. -/
theorem ins_end (w : World) (base : Nat) (iv : Value) (n vb : Nat) (vs : List Value) (b : Value) (h : w.ownsRow base tB 1 iv n vs) (hn : n ≤ 100000) (hb : base ≤ w.heap.size) (h1 : b.oneCell' = true)
    (hvb : w.heap[vb]? = some (.cells #[b] tB (0, 0))) : Calls Tryz.prog 47 #[iv, .int .i64 n, .slice (some ⟨vb, 0, none⟩) 1 1] w (Ins w base iv n vs n b) := by
  have hrun := fun ty => app_one w ty base iv n vb vs b h hn hb h1 hvb
  have hsl : ∃ A c, iv = .slice A n c ∧ (A = none → n = 0 ∧ c = 0) ∧ n ≤ c ∧ (∀ a, A = some a → a.spot = none ∧ a.off = 0) := by
    rcases h.2 with ⟨rfl, rfl⟩ | ⟨g, cap, cur, rfl, hg, hh, h3, h4, h5, h6⟩
    · exact ⟨none, 0, rfl, fun _ => ⟨rfl, rfl⟩, Nat.le_refl _, fun a h => by cases h⟩
    · exact ⟨some ⟨g, 0, none⟩, cap, rfl, fun h => (by cases h), h3, fun a h => by cases h; exact ⟨rfl, rfl⟩⟩
  obtain ⟨A, c, rfl, hA, hnc, hA2⟩ := hsl
  obtain ⟨v', w', hr, hI⟩ := hrun tBs
  have hfin : Ins w base (.slice A n c) n vs n b (.returned v') w' := hI
  clear hI hrun h hvb
  have hn' : ∀ a, A = some a → a = ⟨a.block, 0, none⟩ := fun a h => by obtain ⟨h1, h2⟩ := hA2 a h; cases a; simp_all
  go_enter Tryz.func47, Tryz.ntmps47
  cases A with
  | none =>
    obtain ⟨rfl, rfl⟩ := hA rfl
    go_wp2_with (at_builtin; refine Lib.wpList_append_run _ rfl _ _ _ _ rfl _ _ rfl rfl _ _ hr ?_)
    go_ret
    exact hfin
  | some a =>
    obtain ⟨ab, ao, asp⟩ := a
    obtain ⟨h1, h2⟩ := hA2 _ rfl
    simp only at h1 h2
    subst h1 h2
    clear hA hA2 hn'
    go_wp2_with (at_builtin; refine Lib.wpList_append_run _ rfl _ _ _ _ rfl _ _ rfl rfl _ _ hr ?_)
    all_goals (go_ret; exact hfin)

/-- What stands in a row behind an insertion, cell by cell. -/
theorem ins_list {vs : List Value} {b v : Value} {i n j : Nat} (hl : vs.length = n) (hi : i < n) (h : (vs.take i ++ b :: vs.drop i)[j]? = some v) :
    (j < i ∧ vs[j]? = some v) ∨ (j = i ∧ v = b) ∨ (i < j ∧ j < n + 1 ∧ (vs.drop i)[j - (i + 1)]? = some v) := by
  rw [List.getElem?_append] at h
  have hti : (vs.take i).length = i := by rw [List.length_take]; omega
  rw [hti] at h
  split at h
  · rename_i hj
    rw [List.getElem?_take, if_pos hj] at h
    exact .inl ⟨hj, h⟩
  · rename_i hj
    by_cases he : j = i
    · subst he
      simp at h
      exact .inr (.inl ⟨rfl, h.symm⟩)
    · obtain ⟨k, hk⟩ : ∃ k, j - i = k + 1 := ⟨j - i - 1, by omega⟩
      rw [hk, List.getElem?_cons_succ] at h
      have := (List.getElem?_eq_some_iff.1 h).1
      rw [List.length_drop] at this
      exact .inr (.inr ⟨by omega, by omega, by rw [show j - (i + 1) = k by omega]; exact h⟩)

set_option maxRecDepth 100000 in
set_option maxHeartbeats 2000000 in
/-- Ahead of an element, in place. -/
theorem ins_shift (w : World) (base g n c i vb : Nat) (vs : List Value) (b : Value) (h : w.ownsRow base tB 1 (.slice (some ⟨g, 0, none⟩) n c) n vs) (hn : n ≤ 100000) (hi : i < n) (hroom : n + 1 ≤ c) (h1 : b.oneCell' = true) (h2 : ∀ v ∈ vs, v.oneCell' = true)
    (hvb : w.heap[vb]? = some (.cells #[b] tB (0, 0))) (hne : vb ≠ g) : Calls Tryz.prog 47 #[.slice (some ⟨g, 0, none⟩) n c, .int .i64 i, .slice (some ⟨vb, 0, none⟩) 1 1] w (Ins w base (.slice (some ⟨g, 0, none⟩) n c) n vs i b) := by
  obtain ⟨cur, hg, hcs, hnc, hcm, hbg, hvl, hcell⟩ := own_get h
  have hc63 : c ≤ 9223372036854775807 := by unfold maxLen at hcm; exact hcm
  have hsz : (Tryz.prog.info? tB).map (·.size) = some 1 := by
    obtain ⟨i0, hi0, _, h1, _⟩ := infoBs
    rw [hi0]; simp [h1]
  have hov : ∀ lb cb, (callFunc 108 #[.slice (some ⟨vb, 0, none⟩) 1 1, .slice (some ⟨g, i + 1, none⟩) lb cb]).run Tryz.prog w = .ok (.value (.bool false)) w := fun lb cb => by
    rw [run_callFunc_extern Tryz.func108 (by kernel_rfl) (by kernel_rfl) (by kernel_rfl) (e := Extern.SlicesOverlaps.overlaps #[tBs, tBs] #[4]) (by kernel_rfl),
      Lib.run_overlaps_apart w tBs 4 tB Tryz.underlying57 1 sizeB ⟨vb, 0, none⟩ ⟨g, i + 1, none⟩ 1 1 lb cb hne tB tB 1 c (by simp [World.shape?, hvb]) (by simp [World.shape?, hg, hcs]) (by omega) (blk_frozen hvb 0) (blk_frozen hvb 1)]
    rfl
  have hdl : (vs.drop i).length = n - i := by rw [List.length_drop, hvl]
  have hcp1 : ∀ ty dc sc, (Builtin.copy_ #[tBs, tBs] ty #[.slice (some ⟨g, i + 1, none⟩) (n - i) dc, .slice (some ⟨g, i, none⟩) (n + 1 - i) sc]).run Tryz.prog w.drew = .ok (goInt (vs.drop i).length) (w.drew.setCells g ((i + 1)) (vs.drop i)) := fun ty dc sc =>
    run_copy_cells w.drew _ _ ty tB g ((i + 1)) (n - i) dc ⟨g, i, none⟩ (n + 1 - i) sc (vs.drop i) Tryz.underlying57 hsz (by rw [hdl]; simp only [Nat.min_def]; split <;> omega)
      (fun j v hj => by rw [Addr.add_lit]; exact hcell (i + j) v (by rwa [List.getElem?_drop] at hj))
      (fun j hj => by show (w.cell? _).isSome = true; rw [blk_cell hg, Array.getElem?_eq_getElem (by omega)]; rfl) (fun j hj => by show w.frozen? _ = false; exact blk_frozen hg _) (fun v hv => h2 v (List.mem_of_mem_drop hv))
  obtain ⟨W1, hW1⟩ : ∃ W1, W1 = w.drew.setCells g ((i + 1)) (vs.drop i) := ⟨_, rfl⟩
  obtain ⟨cur1, hg1, hcs1⟩ := setCells_blk g (vs.drop i) ((i + 1)) w.drew cur hg
  rw [← hW1] at hcp1 hg1
  have hk1 : KeptE w W1 (fun k => some k = (Value.slice (some ⟨g, 0, none⟩) n c).ownBlock) := by rw [hW1]; exact setCells_kept g _ _ w w.drew ((KeptE.refl w _).drew) (.inl rfl)
  have hvb1 : W1.heap[vb]? = some (.cells #[b] tB (0, 0)) := (hk1.1.2 vb (blk_lt hvb) (by simp [Value.ownBlock, hne])).trans hvb
  have hcp2 : ∀ ty dc, (Builtin.copy_ #[tBs, tBs] ty #[.slice (some ⟨g, i, none⟩) (n + 1 - i) dc, .slice (some ⟨vb, 0, none⟩) 1 1]).run Tryz.prog W1 = .ok (goInt 1) (W1.setCells g (i) [b]) := fun ty dc =>
    run_copy_cells W1 _ _ ty tB g (i) (n + 1 - i) dc ⟨vb, 0, none⟩ 1 1 [b] Tryz.underlying57 hsz (by simp only [Nat.min_def, List.length_singleton]; split <;> omega)
      (fun j v hj => by rw [Addr.add_lit, Nat.zero_add, blk_cell hvb1]; simpa using hj)
      (fun j hj => by rw [blk_cell hg1, Array.getElem?_eq_getElem (by simp at hj; omega)]; rfl) (fun j hj => blk_frozen hg1 _) (by simpa using h1)
  obtain ⟨cur2, hg2, hcs2⟩ := setCells_blk g [b] (i) W1 cur1 hg1
  have hfin : Ins w base (.slice (some ⟨g, 0, none⟩) n c) n vs i b (.returned (.slice (some ⟨g, 0, none⟩) (n + 1) c)) (W1.setCells g (i) [b]) := by
    refine ⟨_, rfl, own_cells hg2 (by omega) hroom hcm hbg (by simp; omega) ?_, setCells_kept g _ _ w W1 hk1 (.inl rfl), fun k hk => .inl hk.symm⟩
    intro j v hj
    rcases ins_list hvl hi hj with ⟨q1, q2⟩ | ⟨q1, q2⟩ | ⟨q1, q2, q3⟩
    · rw [World.cell?_setCells_out g _ _ _ _ (fun _ _ => .inl (by show j < i; omega)), hW1, World.cell?_setCells_out g _ _ _ _ (fun _ _ => .inl (by show j < (i + 1); omega))]
      exact hcell j v q2
    · subst q1 q2
      have := World.cell?_setCells_in g [v] j W1 (fun k hk => by rw [blk_cell hg1, Array.getElem?_eq_getElem (by simp at hk; omega)]; rfl) 0 (by simp)
      simpa using this
    · rw [World.cell?_setCells_out g _ _ _ _ (fun _ _ => .inr (by show i + 1 ≤ j; omega)), hW1]
      have := World.cell?_setCells_in g (vs.drop i) ((i + 1)) w.drew (fun k hk => by show (w.cell? _).isSome = true; rw [blk_cell hg, Array.getElem?_eq_getElem (by omega)]; rfl) (j - (i + 1)) (List.getElem?_eq_some_iff.1 q3).1
      rw [show (i + 1) + (j - (i + 1)) = j by omega] at this
      rw [this, ← List.getElem?_eq_getElem, q3]
  have hz2 : ¬ ((i : Int) = (n : Int)) := by omega
  have hw1 : IntKind.i64.wrap ((i : Int) + 1) = (i : Int) + 1 := by rw [IntKind.wrap_i64]; omega
  have hb1 : (0 : Int) ≤ (i : Int) + 1 := by omega
  have hin : i ≤ n := by omega
  have htn : ((i : Int) + 1).toNat = i + 1 := by omega
  have hb2 : ¬ (c = i + 1) := by omega
  have hb3 : (i : Int) ≤ (n : Int) + 1 := by omega
  have hb4 : ¬ (c = i) := by omega
  clear hk1 hvb1 hW1 hg1 hcs1 hg2 hcs2 hdl hsz hcell hg hcs h hvb h2 h1 hne
  have hi' := hi
  have mixed : Tryz.prog.follows Departure.mixedOrders = true := by kernel_rfl
  go_enter Tryz.func47, Tryz.ntmps47
  go_wp2_with (simp only [hov])
  go_region_law_o (refine step_copy_runI rfl _ _ tBs tBs rfl _ _ (by simp [Act.eval, Act.put]) (by simp [Act.eval, Act.put]) (hcp1 _ _ _) ?_)
  go_wp2_with (at_builtin; refine wpList_copy_runI _ rfl _ _ tBs tBs rfl _ _ rfl rfl (hcp2 _ _) ?_)
  go_ret
  exact hfin

set_option maxRecDepth 100000 in
set_option maxHeartbeats 2000000 in
/-- Ahead of an element, where there is no room. -/
theorem ins_grow (w : World) (base g n c i vb : Nat) (vs : List Value) (b : Value) (h : w.ownsRow base tB 1 (.slice (some ⟨g, 0, none⟩) n c) n vs) (hn : n ≤ 100000) (hi : i < n) (hroom : c < n + 1) (hbase : base ≤ w.heap.size) (h1 : b.oneCell' = true) (h2 : ∀ v ∈ vs, v.oneCell' = true)
    (hvb : w.heap[vb]? = some (.cells #[b] tB (0, 0))) : Calls Tryz.prog 47 #[.slice (some ⟨g, 0, none⟩) n c, .int .i64 i, .slice (some ⟨vb, 0, none⟩) 1 1] w (Ins w base (.slice (some ⟨g, 0, none⟩) n c) n vs i b) := by
  obtain ⟨cur, hg, hcs, hnc, hcm, hbg, hvl, hcell⟩ := own_get h
  obtain ⟨i0, hi0, hz0, hzs, hzb⟩ := infoBs
  have hsz : (Tryz.prog.info? tB).map (·.size) = some 1 := by rw [hi0]; simp [hzs]
  have hgw := blk_lt hg
  have hvw := blk_lt hvb
  have hold : (Builtin.firstCells i0.size i (.slice (some ⟨g, 0, none⟩) i c)).run Tryz.prog w.drew = .ok (vs.take i).toArray w.drew := by
    rw [hzs]
    exact run_firstCells_some w.drew 1 i ⟨g, 0, none⟩ i c (vs.take i) (by rw [List.length_take]; omega) (fun j v hj => by
      rw [Addr.add_lit, Nat.zero_add]
      rw [List.getElem?_take] at hj
      split at hj
      · exact hcell j v hj
      · cases hj)
  have hrz : ∀ ty, (Builtin.append_ #[tBs, 3] ty #[.slice (some ⟨g, 0, none⟩) i c, .int .i64 ((n : Int) + 1 - (i : Int))]).run Tryz.prog w =
      .ok (.slice (some ⟨w.heap.size, 0, none⟩) (n + 1) (grownCap w (n + 1) c tB)) (w.drew.alloc (.cells ((vs.take i).toArray ++ Builtin.zeroCells (Value.slice none 0 0).cells (n + 1 - i) ++ Builtin.zeroCells (Value.slice none 0 0).cells (grownCap w (n + 1) c tB - (n + 1))) tB)) := fun ty => by
    have h := Lib.run_append_grow_zeros w tBs 3 ty tB i0 _ .i64 .i64 Tryz.underlying57 Tryz.underlying3 hi0 hz0 (some ⟨g, 0, none⟩) i c (vs.take i) hold (n + 1 - i) (by omega) (by omega) (by omega) (by omega) (by rw [hzb]; omega) (by rw [hzb, show i + (n + 1 - i) = n + 1 by omega]; exact growslice_fits hroom (by omega))
    rw [show i + (n + 1 - i) = n + 1 by omega] at h
    rw [show (n : Int) + 1 - (i : Int) = ((n + 1 - i : Nat) : Int) by omega]
    exact h
  obtain ⟨G, hG⟩ : ∃ G, G = grownCap w (n + 1) c tB := ⟨_, rfl⟩
  have hGn : n + 1 ≤ G := by rw [hG]; exact grownCap_ge w _ _ _
  have hGm : G ≤ maxLen := by rw [hG]; exact grownCap_le_maxLen w (n + 1) c tB (by unfold maxLen; omega)
  obtain ⟨ROW, hROW⟩ : ∃ ROW : Array Value, ROW = (vs.take i).toArray ++ Builtin.zeroCells (Value.slice none 0 0).cells (n + 1 - i) ++ Builtin.zeroCells (Value.slice none 0 0).cells (G - (n + 1)) := ⟨_, rfl⟩
  rw [← hG] at hrz
  rw [← hROW] at hrz
  have hRl : ROW.size = G := by
    rw [hROW]
    simp [Builtin.zeroCells, Value.cells]
    omega
  have hRi : ∀ j v, j < i → vs[j]? = some v → ROW[j]? = some v := fun j v hj hv => by
    have hti : j < (vs.take i).toArray.size := by simp; omega
    rw [hROW, Array.getElem?_append_left (by simp; omega), Array.getElem?_append_left hti]
    simpa [List.getElem?_take, hj] using hv
  obtain ⟨W1, hW1⟩ : ∃ W1, W1 = w.drew.alloc (.cells ROW tB) := ⟨_, rfl⟩
  have hW1' : ∀ x : World, x = W1 → x.heap[w.heap.size]? = some (.cells ROW tB (0, 0)) := fun x hx => by rw [hx, hW1]; exact heap_alloc_new w.drew _
  have hb1 : W1.heap[w.heap.size]? = some (.cells ROW tB (0, 0)) := hW1' _ rfl
  have hk1 : KeptE w W1 (fun _ => False) := by rw [hW1]; exact ((KeptE.refl w _).drew).alloc _
  rw [← hW1] at hrz
  have hvb1 : W1.heap[vb]? = some (.cells #[b] tB (0, 0)) := (hk1.1.2 vb hvw (fun h => h)).trans hvb
  have hg1 : W1.heap[g]? = some (.cells cur tB (0, 0)) := (hk1.1.2 g hgw (fun h => h)).trans hg
  have hcpA : ∀ (W : World), W.heap = W1.heap → ∀ ty dc, (Builtin.copy_ #[tBs, tBs] ty #[.slice (some ⟨w.heap.size, i, none⟩) (n + 1 - i) dc, .slice (some ⟨vb, 0, none⟩) 1 1]).run Tryz.prog W = .ok (goInt 1) (W.setCells w.heap.size i [b]) := fun W hW ty dc =>
    run_copy_cells W _ _ ty tB w.heap.size i (n + 1 - i) dc ⟨vb, 0, none⟩ 1 1 [b] Tryz.underlying57 hsz (by simp only [Nat.min_def, List.length_singleton]; split <;> omega)
      (fun j v hj => by rw [Addr.add_lit, Nat.zero_add, blk_cell (by rw [hW]; exact hvb1)]; simpa using hj)
      (fun j hj => by rw [blk_cell (by rw [hW]; exact hb1), Array.getElem?_eq_getElem (by simp at hj; omega)]; rfl) (fun j hj => blk_frozen (by rw [hW]; exact hb1) _) (by simpa using h1)
  obtain ⟨cur2, hb2, hcs2⟩ := setCells_blk w.heap.size [b] i W1 ROW hb1
  have hk2 : KeptE w (W1.setCells w.heap.size i [b]) (fun _ => False) := setCells_kept _ _ _ w W1 hk1 (.inr (Nat.le_refl _))
  have hg2 : (W1.setCells w.heap.size i [b]).heap[g]? = some (.cells cur tB (0, 0)) := (hk2.1.2 g hgw (fun h => h)).trans hg
  have hdl : (vs.drop i).length = n - i := by rw [List.length_drop, hvl]
  obtain ⟨W2, hW2⟩ : ∃ W2, W2 = W1.setCells w.heap.size i [b] := ⟨_, rfl⟩
  rw [← hW2] at hb2 hg2 hk2
  have hcpB : ∀ (W : World), W.heap = W2.heap → ∀ ty dc sc, (Builtin.copy_ #[tBs, tBs] ty #[.slice (some ⟨w.heap.size, i + 1, none⟩) (n - i) dc, .slice (some ⟨g, i, none⟩) (n - i) sc]).run Tryz.prog W = .ok (goInt (vs.drop i).length) (W.setCells w.heap.size (i + 1) (vs.drop i)) := fun W hW ty dc sc =>
    run_copy_cells W _ _ ty tB w.heap.size (i + 1) (n - i) dc ⟨g, i, none⟩ (n - i) sc (vs.drop i) Tryz.underlying57 hsz (by rw [hdl]; simp only [Nat.min_def]; split <;> omega)
      (fun j v hj => by
        rw [Addr.add_lit, blk_cell (by rw [hW]; exact hg2), ← blk_cell hg]
        exact hcell (i + j) v (by rwa [List.getElem?_drop] at hj))
      (fun j hj => by rw [blk_cell (by rw [hW]; exact hb2), Array.getElem?_eq_getElem (by omega)]; rfl) (fun j hj => blk_frozen (by rw [hW]; exact hb2) _) (fun v hv => h2 v (List.mem_of_mem_drop hv))
  have hfin : ∀ W : World, W.heap = W2.heap → (W.os = W2.os ∧ W.tape = W2.tape ∧ W.output = W2.output) → Ins w base (.slice (some ⟨g, 0, none⟩) n c) n vs i b (.returned (.slice (some ⟨w.heap.size, 0, none⟩) (n + 1) G)) (W.setCells w.heap.size (i + 1) (vs.drop i)) := fun W hW hE => by
    have hbW : W.heap[w.heap.size]? = some (.cells cur2 tB (0, 0)) := by rw [hW]; exact hb2
    have hkW : KeptE w W (fun _ => False) := ⟨⟨by rw [hW]; exact hk2.1.1, fun k hk hn => by rw [hW]; exact hk2.1.2 k hk hn⟩, hE.1.trans hk2.2.1, hE.2.1.trans hk2.2.2.1, hE.2.2.trans hk2.2.2.2⟩
    obtain ⟨cur3, hb3, hcs3⟩ := setCells_blk w.heap.size (vs.drop i) (i + 1) W cur2 hbW
    refine ⟨_, rfl, own_cells hb3 (by omega) hGn hGm hbase (by simp; omega) ?_, (setCells_kept _ _ _ w W hkW (.inr (Nat.le_refl _))).mono (fun _ h => h.elim), fun k hk => .inr ?_⟩
    · intro j v hj
      have hW2c : ∀ j, W.cell? ⟨w.heap.size, j, none⟩ = W2.cell? ⟨w.heap.size, j, none⟩ := fun j => by rw [blk_cell hbW, blk_cell hb2]
      rcases ins_list hvl hi hj with ⟨q1, q2⟩ | ⟨q1, q2⟩ | ⟨q1, q2, q3⟩
      · rw [World.cell?_setCells_out _ _ _ _ _ (fun _ _ => .inl (by show j < i + 1; omega)), hW2c, hW2, World.cell?_setCells_out _ _ _ _ _ (fun _ _ => .inl (by show j < i; omega)), blk_cell hb1]
        exact hRi j v q1 q2
      · subst q1 q2
        rw [World.cell?_setCells_out _ _ _ _ _ (fun _ _ => .inl (by show j < j + 1; omega)), hW2c, hW2]
        have := World.cell?_setCells_in w.heap.size [v] j W1 (fun k hk => by rw [blk_cell hb1, Array.getElem?_eq_getElem (by simp at hk; omega)]; rfl) 0 (by simp)
        simpa using this
      · have := World.cell?_setCells_in w.heap.size (vs.drop i) (i + 1) W (fun k hk => by rw [blk_cell hbW, Array.getElem?_eq_getElem (by omega)]; rfl) (j - (i + 1)) (List.getElem?_eq_some_iff.1 q3).1
        rw [show (i + 1) + (j - (i + 1)) = j by omega] at this
        rw [this, ← List.getElem?_eq_getElem, q3]
    · have : w.heap.size = k := by simpa [Value.ownBlock] using hk
      omega
  have hh1 : W1.heap = W1.heap := rfl
  have hz2 : ¬ ((i : Int) = (n : Int)) := by omega
  have hz3 : (c : Int) < (n : Int) + 1 := by omega
  have hw1 : IntKind.i64.wrap ((i : Int) + 1) = (i : Int) + 1 := by rw [IntKind.wrap_i64]; omega
  have hx1 : (0 : Int) ≤ (i : Int) + 1 := by omega
  have hin : i ≤ n := by omega
  have htn : ((i : Int) + 1).toNat = i + 1 := by omega
  have hx3 : (i : Int) ≤ (n : Int) := by omega
  have hGi : ¬ (G = i) := by omega
  have hGim : ¬ (G = i + 1) := by omega
  have hci : ¬ (c = i) := by omega
  have hG63 : G ≤ 9223372036854775807 := by unfold maxLen at hGm; exact hGm
  have hc63 : c ≤ 9223372036854775807 := by unfold maxLen at hcm; exact hcm
  have hE2 : (W1.setCells w.heap.size i [b]).drew.heap = W2.heap := by rw [hW2]; rfl
  have hENV := Aside0.mk (show (W1.setCells w.heap.size i [b]).drew.os = W2.os ∧ (W1.setCells w.heap.size i [b]).drew.tape = W2.tape ∧ (W1.setCells w.heap.size i [b]).drew.output = W2.output from ⟨by rw [hW2]; rfl, by rw [hW2]; rfl, by rw [hW2]; rfl⟩)
  have hE3 : (W1.setCells w.heap.size i [b]).heap = W2.heap := by rw [hW2]
  have mixed : Tryz.prog.follows Departure.mixedOrders = true := by kernel_rfl
  clear hk1 hvb1 hg1 hb2 hg2 hcs2 hdl hsz hcell hg hcs h hvb h2 h1 hold hi0 hz0 hzs hzb hG hROW hRl hRi hW1' hb1 hW1 hk2 hgw hvw hW2
  go_enter Tryz.func47, Tryz.ntmps47
  go_wp2_with (first
    | (at_builtin; refine Lib.wpList_append_run _ rfl _ _ _ _ rfl _ _ rfl rfl _ _ (hrz _) ?_)
    | (at_builtin; refine wpList_copy_runI _ rfl _ _ tBs tBs rfl _ _ rfl rfl (hcpA _ hh1 _ _) ?_))
  go_region_law_o (refine step_copy_runI rfl _ _ tBs tBs rfl (.slice (some ⟨w.heap.size, i + 1, none⟩) (n - i) (G - (i + 1))) (.slice (some ⟨g, i, none⟩) (n - i) (c - i)) (by simp [Act.eval, Act.put]) (by simp [Act.eval, Act.put]) (hcpB _ hE2 3 (G - (i + 1)) (c - i)) ?_)
  go_wp2
  go_ret
  exact hfin _ hE2 hENV.out

/-- slices.Insert of one element. -/
theorem ins_any (w : World) (base : Nat) (iv : Value) (n i vb : Nat) (vs : List Value) (b : Value) (h : w.ownsRow base tB 1 iv n vs) (hn : n ≤ 100000) (hi : i ≤ n) (hb : base ≤ w.heap.size) (h1 : b.oneCell' = true) (h2 : ∀ v ∈ vs, v.oneCell' = true)
    (hvb : w.heap[vb]? = some (.cells #[b] tB (0, 0))) (hne : some vb ≠ iv.ownBlock) : Calls Tryz.prog 47 #[iv, .int .i64 i, .slice (some ⟨vb, 0, none⟩) 1 1] w (Ins w base iv n vs i b) := by
  by_cases he : i = n
  · subst he
    exact ins_end w base iv i vb vs b h hn hb h1 hvb
  · rcases h.2 with ⟨rfl, rfl⟩ | ⟨g, cap, cur, rfl, hg, hh, h3, h4, h5, h6⟩
    · omega
    · by_cases hc : n + 1 ≤ cap
      · exact ins_shift w base g n cap i vb vs b h hn (by omega) hc h1 h2 hvb (fun e => hne (by rw [e]; rfl))
      · exact ins_grow w base g n cap i vb vs b h hn (by omega) (by omega) hb h1 h2 hvb
end Go.Proofs.YtkjplffpihfliaaGreatDoor
end

section
/- A row in memory, and the contract of (*Row).Insert. -/
namespace Go.Proofs.YtkjplffpihfliaaGreatDoor
open Go.RowKit Go.Proofs.YtkjplffpihfliaaGreatDoorW.PrintWords PAll

abbrev tRow : Nat := 59
/-- A row: its block and what its items lie in are among 'ok'. -/
def RowIs (w : World) (base : Nat) (ok : Nat → Prop) (g : Nat) (l : List (List Int)) : Prop :=
  ok g ∧ ∃ iv, w.heap[g]? = some (.cells #[.bool true, iv] tRow (0, 0)) ∧ Kd.R kB tB w base (fun k => ok k ∧ k ≠ g) iv l
theorem RowIs.kept {w w' : World} {base : Nat} {ok S : Nat → Prop} {g : Nat} {l : List (List Int)} (h : RowIs w base ok g l) (hk : KeptE w w' S) (hs : ∀ k, ok k → ¬ S k) : RowIs w' base ok g l := by
  obtain ⟨h1, iv, h2, h3⟩ := h
  exact ⟨h1, iv, (hk.1.2 g (blk_lt h2) (hs g h1)).trans h2, Kd.R_kept h3 hk.1 (fun k ho => hs k ho.1)⟩
/-- What an operation on it may have taken besides. -/
def okNew (ok : Nat → Prop) (w w' : World) : Nat → Prop := fun k => (ok k ∨ w.heap.size ≤ k) ∧ k < w'.heap.size

theorem row_real (w : World) (g : Nat) (iv : Value) (h : w.heap[g]? = some (.cells #[.bool true, iv] tRow (0, 0))) :
    Calls Tryz.prog 46 #[.pointer (some ⟨g, 0, none⟩)] w fun e w' => e = .returned (.bool true) ∧ w' = w := by
  have c0 : w.cell? ⟨g, 0, none⟩ = some (.bool true) := by rw [blk_cell h]; rfl
  go_enter Tryz.func46, Tryz.ntmps46
  go_wp2
  go_ret
  exact ⟨rfl, rfl⟩
theorem row_real_none (w : World) : Calls Tryz.prog 46 #[.pointer none] w fun e w' => e = .returned (.bool false) ∧ w' = w := by
  go_enter Tryz.func46, Tryz.ntmps46
  go_wp2
  go_ret
  exact ⟨rfl, rfl⟩

theorem reps_ins {d : Kd (List Int)} {w : World} {base : Nat} {ok : Nat → Prop} {l : List (List Int)} {vs : List Value} {xs : List Int} {b : Value} {i : Nat} (hs : d.sz = 1) (h : Reps (d.M w base ok) d.sz l vs) (hb : d.M w base ok xs [b]) (hi : i ≤ l.length) :
    Reps (d.M w base ok) d.sz (l.take i ++ xs :: l.drop i) (vs.take i ++ b :: vs.drop i) := by
  have h1 := Kd.reps_take h hi
  have h2 : Reps (d.M w base ok) d.sz (l.drop i) (vs.drop (i * d.sz)) := Kd.reps_drop h
  rw [hs] at h1 h2
  rw [Nat.mul_one] at h1 h2
  have h3 : Reps (d.M w base ok) 1 [xs] [b] := by
    have := Reps.snoc (Reps.none (d.M w base ok) 1) hb rfl
    simpa using this
  have h4 := Kd.reps_append h1 (Kd.reps_append h3 h2)
  rw [hs]
  simpa using h4

/-- What a call of (*Row).Insert leaves. -/
def RowIns (w : World) (base : Nat) (ok : Nat → Prop) (g : Nat) (l : List (List Int)) (w' : World) : Prop := RowIs w' base (okNew ok w w') g l ∧ KeptE w w' ok

/-- What Clone, the slice of one element and Insert leave, joined. -/
theorem rowins_fin {w w1 w2 : World} {base : Nat} {ok : Nat → Prop} {g i : Nat} {l : List (List Int)} {xs : List Int} {iv b : Value} {e : Ending}
    (hg : ok g) (hgl : w.heap[g]? = some (.cells #[.bool true, iv] tRow (0, 0))) (hR : Kd.R kB tB w base (fun k => ok k ∧ k ≠ g) iv l) (hi : i ≤ l.length) (hbase : base ≤ w.heap.size)
    (hb : Buf w1 w.heap.size b xs) (hB : Below w.heap.size w w1) (inner : List Value) (hin : Reps (kB.M w base (fun k => (ok k ∧ k ≠ g) ∧ some k ≠ iv.ownBlock)) 1 l inner)
    (hI : Ins (w1.alloc (.cells #[b] tB)) base iv l.length inner i b e w2) : ∃ v', e = .returned v' ∧ w2.heap[g]? = some (.cells #[.bool true, iv] tRow (0, 0)) ∧ RowIns w base ok g (l.take i ++ xs :: l.drop i) (w2.setCell ⟨g, 1, none⟩ v') := by
  obtain ⟨v', rfl, ho, hk, hat⟩ := hI
  have hgw := blk_lt hgl
  have hivlt : ∀ k, iv.ownBlock = some k → k < w.heap.size := Kd.R_lt hR
  have hivok : ∀ k, iv.ownBlock = some k → ok k ∧ k ≠ g := hR.1
  have hB1 : Below w.heap.size w (w1.alloc (.cells #[b] tB)) := below_alloc hB _
  have hsz : w.heap.size ≤ (w1.alloc (.cells #[b] tB)).heap.size := hB1.size
  have hk0 : KeptE w w2 (fun k => some k = iv.ownBlock) := (KeptE.of_below hB1 _).then_ hk (fun k h => .inl h)
  have hg2 : w2.heap[g]? = some (.cells #[.bool true, iv] tRow (0, 0)) := (hk0.1.2 g hgw (fun h => (hivok g h.symm).2 rfl)).trans hgl
  refine ⟨v', rfl, hg2, ?_, ?_⟩
  · have hsz2 : (w2.setCell ⟨g, 1, none⟩ v').heap.size = w2.heap.size := by simp [World.setCell]
    have hvk : ∀ k, v'.ownBlock = some k → k ≠ g := fun k h => by
      rcases hat k h with h | h
      · exact (hivok k h.symm).2
      · omega
    have hgv : some g ≠ v'.ownBlock := fun h => hvk g h.symm rfl
    have hlow : ∀ k, v'.ownBlock = some k → k < w2.heap.size := own_lt ho
    refine ⟨⟨.inl hg, by rw [hsz2]; exact blk_lt hg2⟩, v', blk_set hg2 1 v', ?_⟩
    refine ⟨fun k h => ⟨⟨?_, by rw [hsz2]; exact hlow k h⟩, hvk k h⟩, inner.take i ++ b :: inner.drop i, ?_, ?_⟩
    · rcases hat k h with h | h
      · exact .inl (hivok k h.symm).1
      · exact .inr (by omega)
    · have := own_setCell ho (p := ⟨g, 1, none⟩) hgv v'
      have e : (l.take i ++ xs :: l.drop i).length = l.length + 1 := by simp; omega
      rw [e]
      exact this
    · refine reps_ins (d := kB) rfl ?_ ?_ hi
      · refine hin.imp_ (fun p c hM => ?_)
        have h1 := kB.M_bound hM
        have h2 := Kd.M_step (d := kB) (w1 := w2.setCell ⟨g, 1, none⟩ v') h1 (fun k hk1 hlt => ?_)
        · refine kB.M_mono (fun k hk1 => ?_) h2
          refine ⟨⟨⟨.inl hk1.1.1.1, ?_⟩, hk1.1.1.2⟩, fun he => ?_⟩
          · rw [hsz2]; exact Nat.lt_of_lt_of_le hk1.2.2.1 hk0.1.1
          · rcases hat k he.symm with h | h
            · exact hk1.1.2 h
            · have := hk1.2.2.1; omega
        · have e1 : (w2.setCell ⟨g, 1, none⟩ v').heap[k]? = w2.heap[k]? := Deep.blk_setCell_other w2 _ v' k hk1.1.1.2
          rw [e1]
          exact hk0.1.2 k hlt hk1.1.2
      · refine ⟨b, rfl, ?_⟩
        have hb1 := Kd.R_bound hb
        have hb2 := Kd.R_step (w1 := w2.setCell ⟨g, 1, none⟩ v') hb1 (fun k hk1 hlt => ?_)
        · refine Kd.R_mono (Kd.R_lower hb2 hbase) (fun k hk1 => ?_)
          refine ⟨⟨⟨.inr hk1.1, ?_⟩, ?_⟩, fun he => ?_⟩
          · rw [hsz2]
            have : k < w1.heap.size := hk1.2.2.1
            have h3 := hk.1.1
            simp at h3
            omega
          · have := hk1.1; omega
          · rcases hat k he.symm with h | h
            · have := hivlt k h.symm; have := hk1.1; omega
            · have : k < w1.heap.size := hk1.2.2.1
              simp at h
              omega
        · have h4 := hk1.1
          have e1 : (w2.setCell ⟨g, 1, none⟩ v').heap[k]? = w2.heap[k]? := Deep.blk_setCell_other w2 _ v' k (by show k ≠ g; omega)
          rw [e1, hk.1.2 k (by simp; omega) (fun he => by have := hivlt k he.symm; omega)]
          exact (below_alloc (Below.refl w1.heap.size w1) (.cells #[b] tB)).block k hlt
  · refine (hk0.mono (fun k h => (hivok k h.symm).1)).setCell (.inl hg) v'

theorem own_slice {w : World} {base n size : Nat} {t : TypeId} {v : Value} {xs : List Value} (h : w.ownsRow base t size v n xs) : ∃ A c, v = .slice A n c := by
  rcases h.2 with ⟨rfl, rfl⟩ | ⟨g, cap, cur, rfl, _⟩
  · exact ⟨_, _, rfl⟩
  · exact ⟨_, _, rfl⟩

set_option maxRecDepth 100000 in
set_option maxHeartbeats 1000000 in
theorem rowInsert_any (w : World) (base : Nat) (ok : Nat → Prop) (g i : Nat) (l : List (List Int)) (xs : List Int) (A : Option Addr) (c : Nat) (h : RowIs w base ok g l) (hx : Kd.C (Kd.int .u8) w A xs.length xs) (hxl : xs.length ≤ 100) (hi : i ≤ l.length) (hl : l.length < 1000) (hbase : base ≤ w.heap.size) :
    Calls Tryz.prog 11 #[.pointer (some ⟨g, 0, none⟩), .int .i64 i, .slice A xs.length c] w fun e w' => e = .returned (.int .i64 0) ∧ RowIns w base ok g (l.take i ++ xs :: l.drop i) w' := by
  obtain ⟨hg, iv, hgl, hR⟩ := h
  have hreal := row_real w g iv hgl
  have hcl0 := clone_any w.drew A c xs (Kd.C_drew hx) (by omega)
  obtain ⟨inner, hown, hreps⟩ := hR.2
  have h2 : ∀ v ∈ inner, v.oneCell' = true := fun v hv => by
    obtain ⟨j, hj⟩ := List.getElem?_of_mem hv
    have hjl : j < inner.length := (List.getElem?_eq_some_iff.1 hj).1
    have hil : inner.length = l.length * 1 := hreps.1
    have hM := hreps.2 j _ (List.getElem?_eq_getElem (by omega))
    refine kB.K_one (kB.K_of_M hM) v ?_
    show v ∈ (inner.drop (j * 1)).take 1
    rw [Nat.mul_one]
    have : (inner.drop j)[0]? = some v := by rw [List.getElem?_drop]; exact hj
    cases hd : inner.drop j with
    | nil => rw [hd] at this; simp at this
    | cons a t => rw [hd] at this; simp at this; simp [this]
  have HF := Aside0.mk (fun (w1 w2 : World) (b : Value) (e : Ending) (hb : Buf w1 w.heap.size b xs) (hB : Below w.heap.size w.drew w1) (hI : Ins (w1.alloc (.cells #[b] tB)) base iv l.length inner i b e w2) =>
    rowins_fin (w := w.drew) hg hgl (Kd.R_drew hR) hi hbase hb hB inner hreps hI)
  have HI0 := Aside0.mk (fun (w1 : World) (b : Value) (hb : Buf w1 w.heap.size b xs) (hB : Below w.heap.size w.drew w1) =>
    ins_any (w1.alloc (.cells #[b] tB)) base iv l.length i w1.heap.size inner b (pw_own_below (own_drew hown) (below_alloc hB _)) (by omega) hi (by have := hB.size; simp at this ⊢; omega)
      (by obtain ⟨A', c', rfl, _⟩ := Kd.R_reads hb; rfl) h2 (heap_alloc_new w1 _) (fun e => by have := Kd.R_lt hR _ e.symm; have := hB.size; simp at this; omega))
  have HG := Aside0.mk (fun (w2 : World) (h : w2.heap[g]? = some (.cells #[.bool true, iv] tRow (0, 0))) => (⟨by rw [blk_cell h]; rfl, blk_frozen h 1⟩ : w2.cell? ⟨g, 1, none⟩ = some iv ∧ w2.frozen? ⟨g, 1, none⟩ = false))
  have HB := Aside0.mk (fun (w1 : World) (hB : Below w.heap.size w.drew w1) => (hB.block g (blk_lt hgl)).trans hgl)
  obtain ⟨A1, c1, rfl, hc1, _⟩ := Kd.R_reads hR
  have hcl : Calls Tryz.prog 48 #[.slice A xs.length c] w.drew fun e w1 => ∃ A3 c3, e = .returned (.slice A3 xs.length c3) ∧ w1.cell? ⟨g, 1, none⟩ = some (.slice A1 l.length c1) ∧ (∀ v, (w1.alloc (.cells #[v] 31)).cell? ⟨g, 1, none⟩ = some (.slice A1 l.length c1)) ∧ Aside0 (Buf w1 w.heap.size (.slice A3 xs.length c3) xs ∧ Below w.heap.size w.drew w1) :=
    hcl0.mono (by
      rintro e w1 ⟨b, rfl, hb, hB⟩
      obtain ⟨A3, c3, rfl, _, _⟩ := hb.reads
      exact ⟨A3, c3, rfl, (HG.out _ (HB.out _ hB)).1, fun v => (HG.out _ (HB.out _ (below_alloc hB _))).1, Aside0.mk ⟨hb, hB⟩⟩)
  have HI : ∀ (w1 : World) A3 c3, Aside0 (Buf w1 w.heap.size (.slice A3 xs.length c3) xs ∧ Below w.heap.size w.drew w1) → Calls Tryz.prog 47 #[.slice A1 l.length c1, .int .i64 i, .slice (some ⟨w1.heap.size, 0, none⟩) 1 1] (w1.alloc (.cells #[.slice A3 xs.length c3] tB)) fun e w2 =>
      ∃ A4 c4, e = .returned (.slice A4 (l.length + 1) c4) ∧ w2.cell? ⟨g, 1, none⟩ = some (.slice A1 l.length c1) ∧ w2.frozen? ⟨g, 1, none⟩ = false ∧ Aside0 (RowIns w base ok g (l.take i ++ xs :: l.drop i) (w2.setCell ⟨g, 1, none⟩ (.slice A4 (l.length + 1) c4))) := fun w1 A3 c3 hh =>
    (HI0.out _ _ hh.out.1 hh.out.2).mono (by
      intro e w2 hI
      obtain ⟨v', rfl, q1, q2⟩ := HF.out _ _ _ _ hh.out.1 hh.out.2 hI
      obtain ⟨_, ev, ho, _⟩ := hI
      cases ev
      obtain ⟨A4, c4, rfl⟩ := own_slice ho
      exact ⟨A4, c4, rfl, (HG.out _ q1).1, (HG.out _ q1).2, Aside0.mk q2⟩)
  have d0 : w.cell? ⟨g, 1, none⟩ = some (.slice A1 l.length c1) := (HG.out w hgl).1
  have hi' : (i : Int) ≤ (l.length : Int) := by omega
  have hl' : (l.length : Int) < 1000 := by omega
  have hx' : (xs.length : Int) ≤ 100 := by omega
  obtain ⟨n, hn⟩ : ∃ n, n = l.length := ⟨_, rfl⟩
  clear hreps hown hR hbase h2 hxl hx hi hl hc1 HI0 HF HG HB hcl0 hn
  go_enter Tryz.func11, Tryz.ntmps11
  go_upto_region 5 with (go_at_call 46; refine hreal.mono ?_; rintro e w' ⟨rfl, rfl⟩)
  go_region_law (first | (go_simp; go_at_call 48; refine hcl.mono ?_; rintro e w1 ⟨A3, c3, rfl, d1, d2, hh⟩) | (go_simp; go_at_call 47; refine (HI _ _ _ hh).mono ?_; rintro e w2 ⟨A4, c4, rfl, q3, q4, hh2⟩))
  all_goals
    go_wp2
    go_ret
    exact ⟨rfl, hh2.out⟩

theorem row_new (w : World) : Calls Tryz.prog 9 #[] w fun e w' => e = .returned (.pointer (some ⟨w.heap.size, 0, none⟩)) ∧ w' = w.alloc (.cells #[.bool true, .slice none 0 0] tRow) := by
  go_enter Tryz.func9, Tryz.ntmps9
  go_wp2
  go_ret
  exact ⟨rfl, rfl⟩
theorem rowIs_new (w : World) (base : Nat) (ok : Nat → Prop) (h : ok w.heap.size) : RowIs (w.alloc (.cells #[.bool true, .slice none 0 0] tRow)) base ok w.heap.size [] :=
  ⟨h, _, heap_alloc_new w _, Kd.R_nil _ _ _ _ _⟩
end Go.Proofs.YtkjplffpihfliaaGreatDoor
end
