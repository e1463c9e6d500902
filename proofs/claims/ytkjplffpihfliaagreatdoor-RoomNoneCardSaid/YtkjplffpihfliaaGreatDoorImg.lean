/- The contract of (*Row).Image. -/
import Derived.Test.YtkjplffpihfliaaGreatDoorCells
namespace Go.Proofs.YtkjplffpihfliaaGreatDoor
open Go.RowKit Go.Proofs.YtkjplffpihfliaaGreatDoorW.PrintWords PAll

/-- What a cell gives in the image. -/
def cellBytes (c : CellD) : List Int := if c.1 then [1, (c.2.2.length : Int) % 256] ++ c.2.2 else [0]
def cellsBytes (l : List CellD) : List Int := l.flatMap cellBytes
/-- The image of a row. -/
def rowImage (l : List (List Int)) : List Int := [(l.length : Int) / 256 % 256, (l.length : Int) % 256] ++ cellsBytes (rowCells l)

section
variable {ops : Array Oper} {rest : List Oper} {o : Oper} {a : Act} {Q : Exit → Act → World → Prop}
abbrev kU : Kd Int := Kd.int .u8
/-- append(b, ys...), whatever the buffer's blocks are. -/
theorem ok_appendN {W : World} {base : Nat} {ok : Nat → Prop} (hgd : o.guard = none) (s x : Operand) (ho : o.op = .call { callee := .builtin .append, args := #[s, x], argTypes := #[31, 31] })
    (v : Value) (xs ys : List Int) (A : Option Addr) (m c : Nat) (hs : a.eval s = v) (hx : a.eval x = .slice A m c) (hm : ys.length = m)
    (HO : Kd.R kU 5 W base ok v xs) (HR : Kd.C kU W A ys.length ys) (hfresh : ∀ k, W.heap.size ≤ k → ok k) (hbase : base ≤ W.heap.size) (hl : xs.length + m ≤ 140737488355328)
    (h : ∀ v1 w1, Kd.R kU 5 w1 base ok v1 (xs ++ ys) → W.grownBy w1 v.ownBlock → wpList Tryz.prog ops Q rest (a.put o.dst v1) w1) :
    wpList Tryz.prog ops Q (o :: rest) a W := by
  subst hm
  exact Kd.R_append_rows kU (Rr := kU.K W) (w0 := W) (W := W) base hgd s x 31 5 (.int .u8 0) 1 ho Tryz.underlying31 info5 rfl (by decide) (by omega) v xs ys A ys.length c
    ok (fun _ => False) hs hx HO HR (fun _ _ h => h) (fun _ hk => hk.elim) hfresh (Below.refl _ _) hbase (by omega) (fun v1 w1 h1 _ h3 _ => h v1 w1 h1 h3)
theorem ok_appendN_step {Kc : Act → World → Prop} {W : World} {base : Nat} {ok : Nat → Prop} (hw : Region.wanted o (yielded ops a.tmps) = true) (s x : Operand) (ho : o.op = .call { callee := .builtin .append, args := #[s, x], argTypes := #[31, 31] })
    (v : Value) (xs ys : List Int) (A : Option Addr) (m c : Nat) (hs : a.eval s = v) (hx : a.eval x = .slice A m c) (hm : ys.length = m)
    (HO : Kd.R kU 5 W base ok v xs) (HR : Kd.C kU W A ys.length ys) (hfresh : ∀ k, W.heap.size ≤ k → ok k) (hbase : base ≤ W.heap.size) (hl : xs.length + m ≤ 140737488355328)
    (h : ∀ v1 w1, Kd.R kU 5 w1 base ok v1 (xs ++ ys) → W.grownBy w1 v.ownBlock → Kc (a.put o.dst v1) w1) :
    if Region.wanted o (yielded ops a.tmps) = true then Oper.wp Tryz.prog o a W Kc Q else Kc (a.put o.dst undef) W := by
  subst hm
  exact Kd.R_append_rows_step kU (Rr := kU.K W) (w0 := W) (W := W) base hw s x 31 5 (.int .u8 0) 1 ho Tryz.underlying31 info5 rfl (by decide) (by omega) v xs ys A ys.length c
    ok (fun _ => False) hs hx HO HR (fun _ _ h => h) (fun _ hk => hk.elim) hfresh (Below.refl _ _) hbase (by omega) (fun v1 w1 h1 _ h3 _ => h v1 w1 h1 h3)
end
/-- A literal of bytes. -/
theorem C_lit {W : World} (cs : Array Value) (xs : List Int) (h : cs.toList = xs.map (Value.int .u8)) (hl : xs.length ≤ 100) : Kd.C kU (W.alloc (.cells cs 5)) (some ⟨W.heap.size, 0, none⟩) xs.length xs := by
  have h1 : (W.alloc (.cells cs 5)).ownsRow 0 5 1 (.slice (some ⟨W.heap.size, 0, none⟩) xs.length xs.length) xs.length (xs.map (Value.int .u8)) := by
    refine ⟨by simp, .inr ⟨W.heap.size, xs.length, cs, rfl, Nat.zero_le _, heap_alloc_new W _, Nat.le_refl _, by unfold maxLen; omega, ?_, ?_⟩⟩
    · rw [← Array.length_toList, h]; simp
    · rw [h, List.take_of_length_le (by simp)]
  have h2 : Kd.R kU 5 (W.alloc (.cells cs 5)) 0 (fun _ => True) (.slice (some ⟨W.heap.size, 0, none⟩) xs.length xs.length) xs := Kd.R_of_own h1 (fun _ _ => trivial)
  exact (Kd.R_reads' h2).2.2
theorem R_lit {W : World} (base : Nat) (ok : Nat → Prop) (cs : Array Value) (xs : List Int) (h : cs.toList = xs.map (Value.int .u8)) (hl : xs.length ≤ 100) (hok : ok W.heap.size) (hb : base ≤ W.heap.size) :
    Kd.R kU 5 (W.alloc (.cells cs 5)) base ok (.slice (some ⟨W.heap.size, 0, none⟩) xs.length xs.length) xs := by
  have h1 : (W.alloc (.cells cs 5)).ownsRow base 5 1 (.slice (some ⟨W.heap.size, 0, none⟩) xs.length xs.length) xs.length (xs.map (Value.int .u8)) := by
    refine ⟨by simp, .inr ⟨W.heap.size, xs.length, cs, rfl, hb, heap_alloc_new W _, Nat.le_refl _, by unfold maxLen; omega, ?_, ?_⟩⟩
    · rw [← Array.length_toList, h]; simp
    · rw [h, List.take_of_length_le (by simp)]
  exact Kd.R_of_own h1 (fun k hk => by have : W.heap.size = k := by simpa [Value.ownBlock] using hk
                                       exact this ▸ hok)
/-- A cell, read. -/
theorem cell_at {w : World} {A : Option Addr} {n : Nat} {l : List CellD} (h : Kd.C kCell w A n l) {j : Nat} (hj : j < n) :
    ∃ ad A1 c1 A2 c2 xk, A = some ad ∧ w.cell? (ad.add (j * 3)) = some (.bool (l.getD j noCell).1) ∧ w.cell? (ad.add (j * 3 + 1)) = some (.slice A1 xk c1) ∧ w.cell? (ad.add (j * 3 + 2)) = some (.slice A2 (l.getD j noCell).2.2.length c2) ∧ Kd.C kU w A2 (l.getD j noCell).2.2.length (l.getD j noCell).2.2 := by
  obtain ⟨ad, c, hA, hcl, hK, hc⟩ := ReadsRow.get_ h noCell (j : Int) (by omega) (by omega)
  obtain ⟨a0, a1, rfl, h0, b0, b1, rfl, ⟨A1, c1, rfl, _, _⟩, ⟨A2, c2, rfl, _, h2⟩⟩ := hK
  simp only [Int.toNat_natCast] at h0 h2 hc
  have h0' : a0 = [.bool (l.getD j noCell).1] := h0
  subst h0'
  have e1 : kCell.sz = 3 := rfl
  rw [e1] at hc
  refine ⟨ad, A1, c1, A2, c2, (l.getD j noCell).2.1.length, hA, ?_, ?_, ?_, h2⟩
  · have := hc 0 _ rfl; simpa using this
  · have := hc 1 _ rfl; simpa using this
  · have := hc 2 _ rfl; simpa using this

theorem fillCells_length (n c : Nat) : ∀ (l : List (List Int)) (i : Nat) (acc : List CellD), (fillCells n c i l acc).length = acc.length
  | [], _, _ => rfl
  | x :: r, i, acc => by unfold fillCells; rw [fillCells_length n c r]; simp
theorem rowCells_length (l : List (List Int)) : (rowCells l).length = cellCount l.length := by unfold rowCells; rw [fillCells_length]; simp
/-- The bytes of a cell's value are read wherever its blocks are as they were. -/
theorem data_kept {w w' : World} {base : Nat} {ok : Nat → Prop} {b n cap j : Nat} {l : List CellD} {A : Option Addr} {c : Nat} (h : Kd.R kCell tCell w base ok (.slice (some ⟨b, 0, none⟩) n cap) l) (hj : j < n) (hx : w.cell? ⟨b, j * 3 + 2, none⟩ = some (.slice A (l.getD j noCell).2.2.length c))
    (hk : ∀ k, ok k → k < w.heap.size → w'.heap[k]? = w.heap[k]?) : Kd.C kU w' A (l.getD j noCell).2.2.length (l.getD j noCell).2.2 := by
  have h' := Kd.R_step h hk
  obtain ⟨h0, _, h2⟩ := Kd.R_reads' h'
  obtain ⟨ad, A4, c4, A5, c5, xk, hA, _, _, x2, hd⟩ := cell_at h2 (j := j) (by omega)
  injection hA with hA
  subst hA
  rw [Addr.add_lit, Nat.zero_add] at x2
  have hb : w'.heap[b]? = w.heap[b]? := hk b (h.1 b rfl) (Kd.R_lt h b rfl)
  rw [World.cell?_of_block (w := w) hb, hx] at x2
  injection x2 with x2
  injection x2 with x2
  rw [x2]
  exact hd
theorem fillCells_mem (n c : Nat) : ∀ (l : List (List Int)) (i : Nat) (acc : List CellD), (∀ x ∈ l, x.length ≤ 100) → (∀ d ∈ acc, d.2.2.length ≤ 100) → ∀ d ∈ fillCells n c i l acc, d.2.2.length ≤ 100
  | [], _, _, _, h => h
  | x :: r, i, acc, hl, h => by
    unfold fillCells
    refine fillCells_mem n c r _ _ (fun y hy => hl y (List.mem_cons_of_mem _ hy)) (fun d hd => ?_)
    rcases List.mem_or_eq_of_mem_set hd with h1 | h1
    · exact h d h1
    · rw [h1]; exact hl x (List.mem_cons_self ..)
theorem rowCells_mem (l : List (List Int)) (hl : ∀ x ∈ l, x.length ≤ 100) : ∀ d ∈ rowCells l, d.2.2.length ≤ 100 :=
  fillCells_mem _ _ l 0 _ hl (fun d hd => by rw [List.eq_of_mem_replicate hd]; simp [noCell])
theorem cellsBytes_length : ∀ (L : List CellD), (∀ d ∈ L, d.2.2.length ≤ 100) → (cellsBytes L).length ≤ 102 * L.length
  | [], _ => by simp [cellsBytes]
  | d :: r, h => by
    have h1 := cellsBytes_length r (fun y hy => h y (List.mem_cons_of_mem _ hy))
    have h2 := h d (List.mem_cons_self ..)
    have h3 : (cellBytes d).length ≤ 102 := by unfold cellBytes; split <;> simp <;> omega
    have e : cellsBytes (d :: r) = cellBytes d ++ cellsBytes r := by simp [cellsBytes]
    rw [e, List.length_append, List.length_cons]
    omega
theorem out_length {l : List (List Int)} {out rest : List Int} (hl : ∀ x ∈ l, x.length ≤ 100) (h : out ++ rest = rowImage l) : out.length ≤ 1000000 := by
  have h1 := cellsBytes_length (rowCells l) (rowCells_mem l hl)
  have h2 := rowCells_length l
  have h3 := (cellCount_le l.length).1
  have h4 : (out ++ rest).length = 2 + (cellsBytes (rowCells l)).length := by rw [h]; simp [rowImage]; omega
  rw [List.length_append] at h4
  omega
theorem bytes_step {L : List CellD} {out R : List Int} {j : Nat} {cd : CellD} (h : out ++ cellsBytes (L.drop j) = R) (hj : j < L.length) (hc : cd = L.getD j noCell) : out ++ cellBytes cd ++ cellsBytes (L.drop (j + 1)) = R := by
  rw [List.drop_eq_getElem_cons hj] at h
  rw [← h, hc, getD_lt hj, List.append_assoc]
  rfl
/-- In the midst of a round: the buffer, and what is as it was. -/
def okM (w w2 wr : World) : Nat → Prop := fun k => (k = w.heap.size ∨ w2.heap.size ≤ k) ∧ k ≠ wr.heap.size
def Mid (w w2 wr W : World) (v : Value) (out : List Int) : Prop :=
  Kd.R kU 5 W w.heap.size (okM w w2 wr) v out ∧ Below w.heap.size w W ∧ wr.heap.size < W.heap.size ∧ w.heap.size < w2.heap.size ∧ w2.heap.size ≤ wr.heap.size ∧ (∀ k, w.heap.size + 1 ≤ k → k < w2.heap.size → W.heap[k]? = wr.heap[k]?)
theorem Mid.below {w w2 wr W W' : World} {v : Value} {out : List Int} (h : Mid w w2 wr W v out) (hb : Below W.heap.size W W') : Mid w w2 wr W' v out := by
  obtain ⟨h1, h2, h3, h4, h5, h6⟩ := h
  exact ⟨Kd.R_below h1 hb, below_then h2 h2.size hb, Nat.lt_of_lt_of_le h3 hb.size, h4, h5, fun k q1 q2 => (hb.block k (by omega)).trans (h6 k q1 q2)⟩
theorem Mid.start {w w2 wr W : World} {v : Value} {out : List Int} (h1 : Kd.R kU 5 wr w.heap.size (fun k => k = w.heap.size ∨ w2.heap.size ≤ k) v out) (h2 : Below w.heap.size w wr) (h4 : w.heap.size < w2.heap.size) (h5 : w2.heap.size ≤ wr.heap.size) (hb : Below wr.heap.size wr W) (hs : wr.heap.size < W.heap.size) : Mid w w2 wr W v out :=
  ⟨Kd.R_below (Kd.R_mono (Kd.R_bound h1) (fun k hk => ⟨hk.1, Nat.ne_of_lt hk.2.2.1⟩)) hb, below_then h2 h2.size hb, hs, h4, h5, fun k q1 q2 => hb.block k (by omega)⟩
theorem Mid.grown {w w2 wr W W' : World} {v v' : Value} {out out' : List Int} (h : Mid w w2 wr W v out) (hR : Kd.R kU 5 W' w.heap.size (okM w w2 wr) v' out') (hg : W.grownBy W' v.ownBlock) : Mid w w2 wr W' v' out' := by
  obtain ⟨h1, h2, h3, h4, h5, h6⟩ := h
  refine ⟨hR, h2.grown hg h2.size (fun k hk => ?_), Nat.lt_of_lt_of_le h3 hg.size, h4, h5, fun k q1 q2 => (hg.block k (by omega) (fun e => ?_)).trans (h6 k q1 q2)⟩
  · rcases (h1.1 k hk).1 with h | h <;> omega
  · rcases (h1.1 k e.symm).1 with h | h <;> omega
/-- The round's own variable stays as it was. -/
theorem Mid.var {w w2 wr W W' : World} {v x : Value} {out : List Int} {i : Nat} (h : Mid w w2 wr W v out) (hg : W.grownBy W' v.ownBlock) (hx : W.cell? ⟨wr.heap.size, i, none⟩ = some x) : W'.cell? ⟨wr.heap.size, i, none⟩ = some x :=
  hg.cell hx (fun e => (h.1.1 _ e.symm).2 rfl)
theorem Mid.done {w w2 wr W : World} {v v2 : Value} {out R : List Int} {cs : List CellD} {rest : List CellD} (h : Mid w w2 wr W v out) (hR : Kd.R kCell tCell wr (w.heap.size + 1) (fun k => w.heap.size + 1 ≤ k ∧ k < w2.heap.size) v2 cs) (he : out ++ cellsBytes rest = R) :
    Kd.R kU 5 W w.heap.size (fun k => k = w.heap.size ∨ w2.heap.size ≤ k) v out ∧ Kd.R kCell tCell W (w.heap.size + 1) (fun k => w.heap.size + 1 ≤ k ∧ k < w2.heap.size) v2 cs ∧ Below w.heap.size w W ∧ w2.heap.size ≤ W.heap.size ∧ w.heap.size < w2.heap.size ∧ out ++ cellsBytes rest = R := by
  obtain ⟨h1, h2, h3, h4, h5, h6⟩ := h
  exact ⟨Kd.R_mono h1 (fun _ hk => hk.1), Kd.R_step hR (fun k hk _ => h6 k hk.1 hk.2), h2, by omega, h4, he⟩
theorem fresh_ok {w w2 wr W : World} {v : Value} {out : List Int} (h : Mid w w2 wr W v out) : ∀ k, W.heap.size ≤ k → okM w w2 wr k := fun k hk => ⟨.inr (by have := h.2.2.1; have := h.2.2.2.2.1; omega), by have := h.2.2.1; omega⟩

set_option maxRecDepth 100000 in
set_option maxHeartbeats 1000000 in
theorem rowImage_any (w : World) (base : Nat) (ok : Nat → Prop) (g : Nat) (l : List (List Int)) (h : RowIs w base ok g l) (hl : l.length ≤ 1000) (hxl : ∀ x ∈ l, x.length ≤ 100) :
    Calls Tryz.prog 15 #[.pointer (some ⟨g, 0, none⟩)] w fun e w' => ∃ v', e = .returned v' ∧ Buf w' w.heap.size v' (rowImage l) ∧ Below w.heap.size w w' := by
  obtain ⟨hg, iv, hgl, hR⟩ := h
  have hreal := row_real w g iv hgl
  obtain ⟨A1, c1, rfl, hc1, hC⟩ := Kd.R_reads hR
  have d0 : w.cell? ⟨g, 1, none⟩ = some (.slice A1 l.length c1) := by rw [blk_cell hgl]; rfl
  obtain ⟨n, hn⟩ : ∃ n, n = l.length := ⟨_, rfl⟩
  rw [← hn] at d0
  clear hC hc1
  go_enter Tryz.func15, Tryz.ntmps15
  have hn' : (n : Int) ≤ 1000 := by omega
  have ea : IntKind.u8.wrap ((n : Int) / 256) = (n : Int) / 256 := by show ((n : Int) / 256) % 256 = _; omega
  have eb : IntKind.u8.wrap (n : Int) = (n : Int) % 256 := rfl
  have HX := Aside0.mk (And.intro hxl (And.intro hl hn))
  have HC := Aside0.mk (fun (W : World) (hk : KeptE w W (fun _ => False)) => cells_any W base ok g l (RowIs.kept ⟨hg, _, hgl, hR⟩ hk (fun _ _ h => h)) hl hxl)
  clear hgl hR hl hxl hn
  go_upto_region 3 with (go_at_call 46; refine hreal.mono ?_; rintro e w ⟨rfl, rfl⟩)
  clear hreal
  go_region_held3 (fun w' => w'.cell? ⟨g, 1, none⟩ = some (.slice A1 n c1)) (go_keep) (first | fail)
  have hcl := HC.out ((w.alloc (.cells #[.int .u8 ((n : Int) / 256), .int .u8 ((n : Int) % 256)] 5)).drew) ((((KeptE.refl w _)).alloc _).drew)
  go_wp2_with (go_at_call 31; refine hcl.mono ?_; rintro e w2 ⟨v2, rfl, h1, h2⟩; obtain ⟨A2, c2, rfl, _, _⟩ := Kd.R_reads h1; have H1 := Aside0.mk (And.intro h1 h2); clear h1 h2 hcl HC)
  go_loopg [26, 3, 5] (rowCells l).length (fun kq v26 v3 v5 w' => ∃ (j : Nat) (A3 : Option Addr) (c3 n3 : Nat) (out : List Int), v26 = .int .i64 j ∧ v3 = .slice A3 n3 c3 ∧ Aside0 (j + kq = (rowCells l).length) ∧ Aside0 (Kd.R kU 5 w' w.heap.size (fun k => k = w.heap.size ∨ w2.heap.size ≤ k) (.slice A3 n3 c3) out ∧ Kd.R kCell tCell w' (w.heap.size + 1) (fun k => w.heap.size + 1 ≤ k ∧ k < w2.heap.size) (.slice A2 (rowCells l).length c2) (rowCells l) ∧ Below w.heap.size w w' ∧ w2.heap.size ≤ w'.heap.size ∧ w.heap.size < w2.heap.size ∧ out ++ cellsBytes ((rowCells l).drop j) = rowImage l))
  case atStart =>
    refine ⟨0, some ⟨w.heap.size, 0, none⟩, 2, 2, [(n : Int) / 256, (n : Int) % 256], rfl, rfl, ⟨by omega⟩, ⟨?_, ?_, ?_, Nat.le_refl _, ?_⟩⟩
    · exact Kd.R_below (Kd.R_drew (R_lit w.heap.size _ #[.int .u8 ((n : Int) / 256), .int .u8 ((n : Int) % 256)] [(n : Int) / 256, (n : Int) % 256] rfl (by simp) (.inl rfl) (Nat.le_refl _))) H1.out.2
    · have e : (w.alloc (.cells #[.int .u8 ((n : Int) / 256), .int .u8 ((n : Int) % 256)] 5)).drew.heap.size = w.heap.size + 1 := by simp
      have h := Kd.R_bound H1.out.1
      rw [e] at h
      exact Kd.R_mono h (fun k hk => ⟨hk.1, hk.2.2.1⟩)
    · exact below_then (below_alloc (Below.refl _ _) _).drew (by simp) H1.out.2
    · have h := H1.out.2.size
      simp at h
      refine ⟨by omega, ?_⟩
      unfold rowImage
      rw [← HX.out.2.2, show (n : Int) / 256 % 256 = (n : Int) / 256 by omega]
      rfl
  case round =>
    obtain ⟨j, A3, c3, n3, out, rfl, rfl, P1, P2⟩ := hrel
    cases gk with
    | zero =>
      have t1 : ¬ j < (rowCells l).length := by have := P1.out; omega
      have H3 : out = rowImage l := by
        have h := P2.out.2.2.2.2.2
        rw [List.drop_eq_nil_of_le (by omega)] at h
        simpa [cellsBytes] using h
      subst H3
      go_wp2
      go_ret
      exact ⟨_, rfl, Kd.R_mono P2.out.1 (fun k hk => by rcases hk with h | h; exact Nat.le_of_eq h.symm; have := P2.out.2.2.2.2.1; omega), P2.out.2.2.1⟩
    | succ gk =>
      have t1 : j < (rowCells l).length := by have := P1.out; omega
      have e8 : IntKind.i64.wrap ((j : Int) + 1) = (j : Int) + 1 := IntWalk.i64_in _ (by have := rowCells_length l; have := (cellCount_le l.length).1; omega)
      obtain ⟨ad, A4, c4, A5, c5, xk, hA, x0, x1, x2, hx⟩ := cell_at (Kd.R_reads' P2.out.2.1).2.2 t1
      subst hA
      obtain ⟨bc, rfl⟩ := Kd.R_head P2.out.2.1
      rw [Addr.add_lit, Nat.zero_add] at x0 x1 x2
      have HX2 := Aside0.mk hx
      obtain ⟨cd, hcd⟩ : ∃ cd, cd = (rowCells l).getD j noCell := ⟨_, rfl⟩
      rw [← hcd] at x0 x2 hx
      have HX2 := Aside0.mk hx
      have HCD := Aside0.mk hcd
      have HB1 := Aside0.mk (out_length HX.out.1 P2.out.2.2.2.2.2)
      have HB2 := Aside0.mk (show cd.2.2.length ≤ 100 from rowCells_mem l HX.out.1 cd (by rw [hcd, getD_lt t1]; exact List.getElem_mem _))
      clear hx hcd
      go_upto_region 7 with (fail)
      obtain ⟨W1, hW⟩ : ∃ W1, W1 = wr.alloc (.cells #[.bool cd.1, .slice A4 xk c4, .slice A5 cd.2.2.length c5] tCell) := ⟨_, rfl⟩
      rw [← hW]
      have hW1 : W1.heap[wr.heap.size]? = some (.cells #[.bool cd.1, .slice A4 xk c4, .slice A5 cd.2.2.length c5] tCell (0, 0)) := by rw [hW]; exact heap_alloc_new wr _
      have y0 : W1.cell? ⟨wr.heap.size, 0, none⟩ = some (.bool cd.1) := by rw [blk_cell hW1]; rfl
      have y2 : W1.cell? ⟨wr.heap.size, 2, none⟩ = some (.slice A5 cd.2.2.length c5) := by rw [blk_cell hW1]; rfl
      have yb : Below wr.heap.size wr W1 := by rw [hW]; exact below_alloc (Below.refl _ _) _
      have HW := Aside0.mk (And.intro hW1 yb)
      have HM := Aside0.mk (show Mid w w2 wr W1 (.slice A3 n3 c3) out from Mid.start P2.out.1 P2.out.2.2.1 P2.out.2.2.2.2.1 P2.out.2.2.2.1 yb (by rw [hW]; simp))
      have HD := Aside0.mk (fun (W : World) (v : Value) (o : List Int) (h : Mid w w2 wr W v o) => (by rw [HCD.out]; exact data_kept P2.out.2.1 t1 (by rw [← HCD.out]; exact x2) (fun k q _ => h.2.2.2.2.2 k q.1 q.2) : Kd.C kU W A5 cd.2.2.length cd.2.2))
      have HY := Aside0.mk (fun (W : World) (hb : Below W1.heap.size W1 W) => ((hb.cell (World.block_lt_of_cell? _ _ y2)).trans y2 : W.cell? ⟨wr.heap.size, 2, none⟩ = some (.slice A5 cd.2.2.length c5)))
      clear hW hW1 yb x0 x1 x2
      cases hf : cd.1 with
      | false =>
        rw [hf] at y0
        have HF := Aside0.mk hf
        clear hf
        go_wp2_with (at_builtin; refine ok_appendN (base := w.heap.size) (ok := okM w w2 wr) rfl _ _ rfl _ out [0] _ 1 1 rfl rfl rfl (HM.out.below (below_alloc (Below.refl _ _) _)).1 (C_lit #[.int .u8 0] [0] rfl (by decide)) ?hf ?hb ?hl ?_; (case hf => exact fresh_ok (HM.out.below (below_alloc (Below.refl _ _) _))); (case hb => exact (HM.out.below (below_alloc (Below.refl _ _) _)).2.1.size); (case hl => have := HB1.out; omega); intro v4 w4 h4 hg4; obtain ⟨A6, c6, rfl, _, _⟩ := Kd.R_reads h4; have H4 := Aside0.mk (Mid.grown (HM.out.below (below_alloc (Below.refl _ _) _)) h4 hg4); clear h4 hg4)
        go_roundg gk
        case measure => omega
        case rel => exact ⟨j + 1, A6, c6, _, out ++ [0], by simp, rfl, ⟨by have := P1.out; omega⟩, ⟨Mid.done (by simpa using H4.out) P2.out.2.1 (by have := bytes_step P2.out.2.2.2.2.2 t1 HCD.out; unfold cellBytes at this; rw [HF.out] at this; exact this)⟩⟩
      | true =>
        rw [hf] at y0
        have HF := Aside0.mk hf
        clear hf
        go_upto_region 9 with (fail)
        go_region_held3 (fun w' => w'.cell? ⟨wr.heap.size, 2, none⟩ = some (.slice A5 cd.2.2.length c5)) (first | exact y2 | exact d9 | exact d10 | go_keep) (first | (refine ok_appendN_step (base := w.heap.size) (ok := okM w w2 wr) rfl (.tmp 36) (.tmp 41) rfl _ out [1, (cd.2.2.length : Int) % 256] _ 2 2 rfl rfl rfl ?ho (C_lit _ [1, (cd.2.2.length : Int) % 256] rfl (by simp)) ?hf ?hb ?hl ?_; (case ho => exact (HM.out.below (below_alloc (Below.refl _ _).drew _)).1); (case hf => exact fresh_ok (HM.out.below (below_alloc (Below.refl _ _).drew _))); (case hb => exact (HM.out.below (below_alloc (Below.refl _ _).drew _)).2.1.size); (case hl => have := HB1.out; omega); intro v4 w4 h4 hg4; have H4 := Aside0.mk (Mid.grown (HM.out.below (below_alloc (Below.refl _ _).drew _)) h4 hg4); have d9 := Mid.var (HM.out.below (below_alloc (Below.refl _ _).drew _)) hg4 (HY.out _ (below_alloc (Below.refl _ _).drew _)); obtain ⟨A6, c6, rfl, _, _⟩ := Kd.R_reads h4; clear h4 hg4) | (refine ok_appendN_step (base := w.heap.size) (ok := okM w w2 wr) rfl (.tmp 42) (.tmp 44) rfl _ _ cd.2.2 _ _ _ rfl rfl rfl H4.out.1 (HD.out _ _ _ H4.out) (fresh_ok H4.out) H4.out.2.1.size ?hl ?_; (case hl => have := HB1.out; have := HB2.out; simp; omega); intro v5 w5 h5 hg5; have H5 := Aside0.mk (Mid.grown H4.out h5 hg5); have d10 := Mid.var H4.out hg5 d9; obtain ⟨A7, c7, rfl, _, _⟩ := Kd.R_reads h5; clear h5 hg5 d9))
        go_wp2
        go_roundg gk
        case measure => omega
        case rel => exact ⟨j + 1, A7, c7, _, out ++ [1, (cd.2.2.length : Int) % 256] ++ cd.2.2, by simp, rfl, ⟨by have := P1.out; omega⟩, ⟨Mid.done (by simpa using H5.out) P2.out.2.1 (by have := bytes_step P2.out.2.2.2.2.2 t1 HCD.out; unfold cellBytes at this; rw [HF.out] at this; simpa using this)⟩⟩
end Go.Proofs.YtkjplffpihfliaaGreatDoor
