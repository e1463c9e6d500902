/- A buffer of bytes that the call has made: order.little on it, and the appends at their operations. -/
import Derived.Test.YtkjplffpihfliaaGreatDoorOrd0
import Derived.Test.YtkjplffpihfliaaGreatDoorOrd1
namespace Go.Proofs.YtkjplffpihfliaaGreatDoor
open Go.RowKit Go.Proofs.YtkjplffpihfliaaGreatDoorW.PrintWords PAll

/-- A slice of bytes in memory that is new since w0 (base: w0's size). -/
abbrev Buf (w : World) (base : Nat) (v : Value) (xs : List Int) : Prop := Kd.R (Kd.int .u8) 5 w base (fun k => base ≤ k) v xs
theorem buf_of_own {w : World} {base : Nat} {v : Value} {xs : List Int} (h : w.ownsRow base 5 1 v xs.length (xs.map (Value.int .u8))) : Buf w base v xs :=
  Kd.R_of_own h (fun _ hk => own_base h _ hk)
theorem Buf.reads {w : World} {base : Nat} {v : Value} {xs : List Int} (h : Buf w base v xs) : ∃ A c, v = .slice A xs.length c ∧ xs.length ≤ c ∧ Kd.C (Kd.int .u8) w A xs.length xs := Kd.R_reads h

theorem little_buf (w0 w : World) (hB : Below w0.heap.size w0 w) (v : Value) (l : List Int) (x : Int) (n : Nat) (hn : n ≤ 1000) (hl : l.length + n ≤ 140737488355328) (ho : Buf w w0.heap.size v l) :
    Calls Tryz.prog 117 #[v, .int .u64 x, .int .i64 n] w fun e w' => ∃ v', e = .returned v' ∧ Buf w' w0.heap.size v' (l ++ lit x n) ∧ Below w0.heap.size w0 w' :=
  (order_little.calls (n + 1) (fun k => w0.heap.size ≤ k) v l x n _ w0 w hB ho (little_f n l x hn hl)).mono fun _ _ ⟨v', he, h1, h2, _⟩ =>
    ⟨v', he, Kd.R_mono h1 (fun _ hk => hk.elim id (fun h => Nat.le_trans hB.size h)), h2⟩

section
variable {ops : Array Oper} {rest : List Oper} {o : Oper} {a : Act} {Q : Exit → Act → World → Prop}
/-- append(b, x) -/
theorem buf_append1 {w0 W : World} {p : Int} (hgd : o.guard = none) (s x : Operand) (ho : o.op = .call { callee := .builtin .append, args := #[s, x], argTypes := #[31, 31] })
    (v : Value) (xs : List Int) (hs : a.eval s = v) (hx : a.eval x = .slice (some ⟨W.heap.size, 0, none⟩) 1 1)
    (HO : Buf W w0.heap.size v xs) (HB : Below w0.heap.size w0 W) (hl : xs.length + 1 ≤ 140737488355328)
    (h : ∀ v1 w1, Buf w1 w0.heap.size v1 (xs ++ [p]) → Below w0.heap.size w0 w1 → W.grownBy w1 v.ownBlock → wpList Tryz.prog ops Q rest (a.put o.dst v1) w1) :
    wpList Tryz.prog ops Q (o :: rest) a (W.alloc (.cells #[.int .u8 p] 5)) :=
  Kd.R_append (Kd.int .u8) (w0 := w0) (W := W) w0.heap.size hgd s x 31 5 (.int .u8 0) 1 ho Tryz.underlying31 info5 rfl (by decide) (by omega) v xs p [.int .u8 p]
    (fun k => w0.heap.size ≤ k) (fun _ => False) hs hx rfl (fun _ hk => hk.elim) (fun _ hk => Nat.le_trans HB.size hk) HO HB HB.size (by omega) (fun v1 w1 h1 h2 h3 _ => h v1 w1 h1 h2 h3)
/-- append(b, ys...) -/
theorem buf_appendN {w0 W : World} (hgd : o.guard = none) (s x : Operand) (ho : o.op = .call { callee := .builtin .append, args := #[s, x], argTypes := #[31, 31] })
    (v : Value) (xs ys : List Int) (A : Option Addr) (m c : Nat) (hs : a.eval s = v) (hx : a.eval x = .slice A m c) (hm : ys.length = m)
    (HO : Buf W w0.heap.size v xs) (HR : Kd.C (Kd.int .u8) W A ys.length ys) (HB : Below w0.heap.size w0 W) (hl : xs.length + m ≤ 140737488355328)
    (h : ∀ v1 w1, Buf w1 w0.heap.size v1 (xs ++ ys) → Below w0.heap.size w0 w1 → W.grownBy w1 v.ownBlock → wpList Tryz.prog ops Q rest (a.put o.dst v1) w1) :
    wpList Tryz.prog ops Q (o :: rest) a W := by
  subst hm
  exact Kd.R_append_rows (Kd.int .u8) (Rr := (Kd.int .u8).K W) (w0 := w0) (W := W) w0.heap.size hgd s x 31 5 (.int .u8 0) 1 ho Tryz.underlying31 info5 rfl (by decide) (by omega) v xs ys A ys.length c
    (fun k => w0.heap.size ≤ k) (fun _ => False) hs hx HO HR (fun _ _ h => h) (fun _ hk => hk.elim) (fun _ hk => Nat.le_trans HB.size hk) HB HB.size (by omega) (fun v1 w1 h1 h2 h3 _ => h v1 w1 h1 h2 h3)
/-- append(b, ys...) in a region that draws its order -/
theorem buf_appendN_step {Kc : Act → World → Prop} {w0 W : World} (hw : Region.wanted o (yielded ops a.tmps) = true) (s x : Operand) (ho : o.op = .call { callee := .builtin .append, args := #[s, x], argTypes := #[31, 31] })
    (v : Value) (xs ys : List Int) (A : Option Addr) (m c : Nat) (hs : a.eval s = v) (hx : a.eval x = .slice A m c) (hm : ys.length = m)
    (HO : Buf W w0.heap.size v xs) (HR : Kd.C (Kd.int .u8) W A ys.length ys) (HB : Below w0.heap.size w0 W) (hl : xs.length + m ≤ 140737488355328)
    (h : ∀ v1 w1, Buf w1 w0.heap.size v1 (xs ++ ys) → Below w0.heap.size w0 w1 → W.grownBy w1 v.ownBlock → Kc (a.put o.dst v1) w1) :
    if Region.wanted o (yielded ops a.tmps) = true then Oper.wp Tryz.prog o a W Kc Q else Kc (a.put o.dst undef) W := by
  subst hm
  exact Kd.R_append_rows_step (Kd.int .u8) (Rr := (Kd.int .u8).K W) (w0 := w0) (W := W) w0.heap.size hw s x 31 5 (.int .u8 0) 1 ho Tryz.underlying31 info5 rfl (by decide) (by omega) v xs ys A ys.length c
    (fun k => w0.heap.size ≤ k) (fun _ => False) hs hx HO HR (fun _ _ h => h) (fun _ hk => hk.elim) (fun _ hk => Nat.le_trans HB.size hk) HB HB.size (by omega) (fun v1 w1 h1 h2 h3 _ => h v1 w1 h1 h2 h3)
end
/-- What is read in old memory is read behind. -/
theorem C_old {w0 w : World} {A : Option Addr} {n : Nat} {xs : List Int} (h : Kd.C (Kd.int .u8) w0 A n xs) (hB : Below w0.heap.size w0 w) : Kd.C (Kd.int .u8) w A n xs := Kd.C_below h hB
end Go.Proofs.YtkjplffpihfliaaGreatDoor
