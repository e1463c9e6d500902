/- A row in memory, and the contract of (*Row).Insert. -/
import Derived.Test.YtkjplffpihfliaaGreatDoorIns
import Derived.Deep.Heap
import Derived.Deep.AppendLies
namespace Go.Proofs.YtkjplffpihfliaaGreatDoor
open Go.RowKit Go.Proofs.YtkjplffpihfliaaGreatDoorW.PrintWords PAll

abbrev kB : Kd (List Int) := Kd.slice 5 (Kd.int .u8)
abbrev tRow : Nat := 59
/-- A row: its block and what its items lie in are among 'ok'. -/
def RowIs (w : World) (base : Nat) (ok : Nat → Prop) (g : Nat) (l : List (List Int)) : Prop :=
  ok g ∧ ∃ iv, w.heap[g]? = some (.cells #[.bool true, iv] tRow (0, 0)) ∧ Kd.R kB tB w base (fun k => ok k ∧ k ≠ g) iv l
theorem RowIs.kept {w w' : World} {base : Nat} {ok S : Nat → Prop} {g : Nat} {l : List (List Int)} (h : RowIs w base ok g l) (hk : KeptE w w' S) (hs : ∀ k, ok k → ¬ S k) : RowIs w' base ok g l := by
  obtain ⟨h1, iv, h2, h3⟩ := h
  exact ⟨h1, iv, (hk.1.2 g (blk_lt h2) (hs g h1)).trans h2, Kd.R_kept h3 hk.1 (fun k ho => hs k ho.1)⟩
/-- What an operation on it may have taken besides. -/
def okNew (ok : Nat → Prop) (w w' : World) : Nat → Prop := fun k => (ok k ∨ w.heap.size ≤ k) ∧ k < w'.heap.size

theorem row_real (w : World) (g : Nat) (iv : Value) (h : w.heap[g]? = some (.cells #[.bool true, iv] tRow (0, 0))) :
    Calls Tryz.prog 46 #[.pointer (some ⟨g, 0, none⟩)] w fun e w' => e = .returned (.bool true) ∧ w' = w := by
  have c0 : w.cell? ⟨g, 0, none⟩ = some (.bool true) := by rw [blk_cell h]; rfl
  go_enter Tryz.func46, Tryz.ntmps46
  go_wp2
  go_ret
  exact ⟨rfl, rfl⟩
theorem row_real_none (w : World) : Calls Tryz.prog 46 #[.pointer none] w fun e w' => e = .returned (.bool false) ∧ w' = w := by
  go_enter Tryz.func46, Tryz.ntmps46
  go_wp2
  go_ret
  exact ⟨rfl, rfl⟩

theorem reps_ins {d : Kd (List Int)} {w : World} {base : Nat} {ok : Nat → Prop} {l : List (List Int)} {vs : List Value} {xs : List Int} {b : Value} {i : Nat} (hs : d.sz = 1) (h : Reps (d.M w base ok) d.sz l vs) (hb : d.M w base ok xs [b]) (hi : i ≤ l.length) :
    Reps (d.M w base ok) d.sz (l.take i ++ xs :: l.drop i) (vs.take i ++ b :: vs.drop i) := by
  have h1 := Kd.reps_take h hi
  have h2 : Reps (d.M w base ok) d.sz (l.drop i) (vs.drop (i * d.sz)) := Kd.reps_drop h
  rw [hs] at h1 h2
  rw [Nat.mul_one] at h1 h2
  have h3 : Reps (d.M w base ok) 1 [xs] [b] := by
    have := Reps.snoc (Reps.none (d.M w base ok) 1) hb rfl
    simpa using this
  have h4 := Kd.reps_append h1 (Kd.reps_append h3 h2)
  rw [hs]
  simpa using h4

/-- What a call of (*Row).Insert leaves. -/
def RowIns (w : World) (base : Nat) (ok : Nat → Prop) (g : Nat) (l : List (List Int)) (w' : World) : Prop := RowIs w' base (okNew ok w w') g l ∧ KeptE w w' ok

/-- What Clone, the slice of one element and Insert leave, joined. -/
theorem rowins_fin {w w1 w2 : World} {base : Nat} {ok : Nat → Prop} {g i : Nat} {l : List (List Int)} {xs : List Int} {iv b : Value} {e : Ending}
    (hg : ok g) (hgl : w.heap[g]? = some (.cells #[.bool true, iv] tRow (0, 0))) (hR : Kd.R kB tB w base (fun k => ok k ∧ k ≠ g) iv l) (hi : i ≤ l.length) (hbase : base ≤ w.heap.size)
    (hb : Buf w1 w.heap.size b xs) (hB : Below w.heap.size w w1) (inner : List Value) (hin : Reps (kB.M w base (fun k => (ok k ∧ k ≠ g) ∧ some k ≠ iv.ownBlock)) 1 l inner)
    (hI : Ins (w1.alloc (.cells #[b] tB)) base iv l.length inner i b e w2) : ∃ v', e = .returned v' ∧ w2.heap[g]? = some (.cells #[.bool true, iv] tRow (0, 0)) ∧ RowIns w base ok g (l.take i ++ xs :: l.drop i) (w2.setCell ⟨g, 1, none⟩ v') := by
  obtain ⟨v', rfl, ho, hk, hat⟩ := hI
  have hgw := blk_lt hgl
  have hivlt : ∀ k, iv.ownBlock = some k → k < w.heap.size := Kd.R_lt hR
  have hivok : ∀ k, iv.ownBlock = some k → ok k ∧ k ≠ g := hR.1
  have hB1 : Below w.heap.size w (w1.alloc (.cells #[b] tB)) := below_alloc hB _
  have hsz : w.heap.size ≤ (w1.alloc (.cells #[b] tB)).heap.size := hB1.size
  have hk0 : KeptE w w2 (fun k => some k = iv.ownBlock) := (KeptE.of_below hB1 _).then_ hk (fun k h => .inl h)
  have hg2 : w2.heap[g]? = some (.cells #[.bool true, iv] tRow (0, 0)) := (hk0.1.2 g hgw (fun h => (hivok g h.symm).2 rfl)).trans hgl
  refine ⟨v', rfl, hg2, ?_, ?_⟩
  · have hsz2 : (w2.setCell ⟨g, 1, none⟩ v').heap.size = w2.heap.size := by simp [World.setCell]
    have hvk : ∀ k, v'.ownBlock = some k → k ≠ g := fun k h => by
      rcases hat k h with h | h
      · exact (hivok k h.symm).2
      · omega
    have hgv : some g ≠ v'.ownBlock := fun h => hvk g h.symm rfl
    have hlow : ∀ k, v'.ownBlock = some k → k < w2.heap.size := own_lt ho
    refine ⟨⟨.inl hg, by rw [hsz2]; exact blk_lt hg2⟩, v', blk_set hg2 1 v', ?_⟩
    refine ⟨fun k h => ⟨⟨?_, by rw [hsz2]; exact hlow k h⟩, hvk k h⟩, inner.take i ++ b :: inner.drop i, ?_, ?_⟩
    · rcases hat k h with h | h
      · exact .inl (hivok k h.symm).1
      · exact .inr (by omega)
    · have := own_setCell ho (p := ⟨g, 1, none⟩) hgv v'
      have e : (l.take i ++ xs :: l.drop i).length = l.length + 1 := by simp; omega
      rw [e]
      exact this
    · refine reps_ins (d := kB) rfl ?_ ?_ hi
      · refine hin.imp_ (fun p c hM => ?_)
        have h1 := kB.M_bound hM
        have h2 := Kd.M_step (d := kB) (w1 := w2.setCell ⟨g, 1, none⟩ v') h1 (fun k hk1 hlt => ?_)
        · refine kB.M_mono (fun k hk1 => ?_) h2
          refine ⟨⟨⟨.inl hk1.1.1.1, ?_⟩, hk1.1.1.2⟩, fun he => ?_⟩
          · rw [hsz2]; exact Nat.lt_of_lt_of_le hk1.2.2.1 hk0.1.1
          · rcases hat k he.symm with h | h
            · exact hk1.1.2 h
            · have := hk1.2.2.1; omega
        · have e1 : (w2.setCell ⟨g, 1, none⟩ v').heap[k]? = w2.heap[k]? := Deep.blk_setCell_other w2 _ v' k hk1.1.1.2
          rw [e1]
          exact hk0.1.2 k hlt hk1.1.2
      · refine ⟨b, rfl, ?_⟩
        have hb1 := Kd.R_bound hb
        have hb2 := Kd.R_step (w1 := w2.setCell ⟨g, 1, none⟩ v') hb1 (fun k hk1 hlt => ?_)
        · refine Kd.R_mono (Kd.R_lower hb2 hbase) (fun k hk1 => ?_)
          refine ⟨⟨⟨.inr hk1.1, ?_⟩, ?_⟩, fun he => ?_⟩
          · rw [hsz2]
            have : k < w1.heap.size := hk1.2.2.1
            have h3 := hk.1.1
            simp at h3
            omega
          · have := hk1.1; omega
          · rcases hat k he.symm with h | h
            · have := hivlt k h.symm; have := hk1.1; omega
            · have : k < w1.heap.size := hk1.2.2.1
              simp at h
              omega
        · have h4 := hk1.1
          have e1 : (w2.setCell ⟨g, 1, none⟩ v').heap[k]? = w2.heap[k]? := Deep.blk_setCell_other w2 _ v' k (by show k ≠ g; omega)
          rw [e1, hk.1.2 k (by simp; omega) (fun he => by have := hivlt k he.symm; omega)]
          exact (below_alloc (Below.refl w1.heap.size w1) (.cells #[b] tB)).block k hlt
  · refine (hk0.mono (fun k h => (hivok k h.symm).1)).setCell (.inl hg) v'

theorem own_slice {w : World} {base n size : Nat} {t : TypeId} {v : Value} {xs : List Value} (h : w.ownsRow base t size v n xs) : ∃ A c, v = .slice A n c := by
  rcases h.2 with ⟨rfl, rfl⟩ | ⟨g, cap, cur, rfl, _⟩
  · exact ⟨_, _, rfl⟩
  · exact ⟨_, _, rfl⟩

set_option maxRecDepth 100000 in
set_option maxHeartbeats 1000000 in
theorem rowInsert_any (w : World) (base : Nat) (ok : Nat → Prop) (g i : Nat) (l : List (List Int)) (xs : List Int) (A : Option Addr) (c : Nat) (h : RowIs w base ok g l) (hx : Kd.C (Kd.int .u8) w A xs.length xs) (hxl : xs.length ≤ 100) (hi : i ≤ l.length) (hl : l.length < 1000) (hbase : base ≤ w.heap.size) :
    Calls Tryz.prog 11 #[.pointer (some ⟨g, 0, none⟩), .int .i64 i, .slice A xs.length c] w fun e w' => e = .returned (.int .i64 0) ∧ RowIns w base ok g (l.take i ++ xs :: l.drop i) w' := by
  obtain ⟨hg, iv, hgl, hR⟩ := h
  have hreal := row_real w g iv hgl
  have hcl0 := clone_any w.drew A c xs (Kd.C_drew hx) (by omega)
  obtain ⟨inner, hown, hreps⟩ := hR.2
  have h2 : ∀ v ∈ inner, v.oneCell' = true := fun v hv => by
    obtain ⟨j, hj⟩ := List.getElem?_of_mem hv
    have hjl : j < inner.length := (List.getElem?_eq_some_iff.1 hj).1
    have hil : inner.length = l.length * 1 := hreps.1
    have hM := hreps.2 j _ (List.getElem?_eq_getElem (by omega))
    refine kB.K_one (kB.K_of_M hM) v ?_
    show v ∈ (inner.drop (j * 1)).take 1
    rw [Nat.mul_one]
    have : (inner.drop j)[0]? = some v := by rw [List.getElem?_drop]; exact hj
    cases hd : inner.drop j with
    | nil => rw [hd] at this; simp at this
    | cons a t => rw [hd] at this; simp at this; simp [this]
  have HF := Aside0.mk (fun (w1 w2 : World) (b : Value) (e : Ending) (hb : Buf w1 w.heap.size b xs) (hB : Below w.heap.size w.drew w1) (hI : Ins (w1.alloc (.cells #[b] tB)) base iv l.length inner i b e w2) =>
    rowins_fin (w := w.drew) hg hgl (Kd.R_drew hR) hi hbase hb hB inner hreps hI)
  have HI0 := Aside0.mk (fun (w1 : World) (b : Value) (hb : Buf w1 w.heap.size b xs) (hB : Below w.heap.size w.drew w1) =>
    ins_any (w1.alloc (.cells #[b] tB)) base iv l.length i w1.heap.size inner b (pw_own_below (own_drew hown) (below_alloc hB _)) (by omega) hi (by have := hB.size; simp at this ⊢; omega)
      (by obtain ⟨A', c', rfl, _⟩ := Kd.R_reads hb; rfl) h2 (heap_alloc_new w1 _) (fun e => by have := Kd.R_lt hR _ e.symm; have := hB.size; simp at this; omega))
  have HG := Aside0.mk (fun (w2 : World) (h : w2.heap[g]? = some (.cells #[.bool true, iv] tRow (0, 0))) => (⟨by rw [blk_cell h]; rfl, blk_frozen h 1⟩ : w2.cell? ⟨g, 1, none⟩ = some iv ∧ w2.frozen? ⟨g, 1, none⟩ = false))
  have HB := Aside0.mk (fun (w1 : World) (hB : Below w.heap.size w.drew w1) => (hB.block g (blk_lt hgl)).trans hgl)
  obtain ⟨A1, c1, rfl, hc1, _⟩ := Kd.R_reads hR
  have hcl : Calls Tryz.prog 48 #[.slice A xs.length c] w.drew fun e w1 => ∃ A3 c3, e = .returned (.slice A3 xs.length c3) ∧ w1.cell? ⟨g, 1, none⟩ = some (.slice A1 l.length c1) ∧ (∀ v, (w1.alloc (.cells #[v] 31)).cell? ⟨g, 1, none⟩ = some (.slice A1 l.length c1)) ∧ Aside0 (Buf w1 w.heap.size (.slice A3 xs.length c3) xs ∧ Below w.heap.size w.drew w1) :=
    hcl0.mono (by
      rintro e w1 ⟨b, rfl, hb, hB⟩
      obtain ⟨A3, c3, rfl, _, _⟩ := hb.reads
      exact ⟨A3, c3, rfl, (HG.out _ (HB.out _ hB)).1, fun v => (HG.out _ (HB.out _ (below_alloc hB _))).1, Aside0.mk ⟨hb, hB⟩⟩)
  have HI : ∀ (w1 : World) A3 c3, Aside0 (Buf w1 w.heap.size (.slice A3 xs.length c3) xs ∧ Below w.heap.size w.drew w1) → Calls Tryz.prog 47 #[.slice A1 l.length c1, .int .i64 i, .slice (some ⟨w1.heap.size, 0, none⟩) 1 1] (w1.alloc (.cells #[.slice A3 xs.length c3] tB)) fun e w2 =>
      ∃ A4 c4, e = .returned (.slice A4 (l.length + 1) c4) ∧ w2.cell? ⟨g, 1, none⟩ = some (.slice A1 l.length c1) ∧ w2.frozen? ⟨g, 1, none⟩ = false ∧ Aside0 (RowIns w base ok g (l.take i ++ xs :: l.drop i) (w2.setCell ⟨g, 1, none⟩ (.slice A4 (l.length + 1) c4))) := fun w1 A3 c3 hh =>
    (HI0.out _ _ hh.out.1 hh.out.2).mono (by
      intro e w2 hI
      obtain ⟨v', rfl, q1, q2⟩ := HF.out _ _ _ _ hh.out.1 hh.out.2 hI
      obtain ⟨_, ev, ho, _⟩ := hI
      cases ev
      obtain ⟨A4, c4, rfl⟩ := own_slice ho
      exact ⟨A4, c4, rfl, (HG.out _ q1).1, (HG.out _ q1).2, Aside0.mk q2⟩)
  have d0 : w.cell? ⟨g, 1, none⟩ = some (.slice A1 l.length c1) := (HG.out w hgl).1
  have hi' : (i : Int) ≤ (l.length : Int) := by omega
  have hl' : (l.length : Int) < 1000 := by omega
  have hx' : (xs.length : Int) ≤ 100 := by omega
  obtain ⟨n, hn⟩ : ∃ n, n = l.length := ⟨_, rfl⟩
  clear hreps hown hR hbase h2 hxl hx hi hl hc1 HI0 HF HG HB hcl0 hn
  go_enter Tryz.func11, Tryz.ntmps11
  go_upto_region 5 with (go_at_call 46; refine hreal.mono ?_; rintro e w' ⟨rfl, rfl⟩)
  go_region_law (first | (go_simp; go_at_call 48; refine hcl.mono ?_; rintro e w1 ⟨A3, c3, rfl, d1, d2, hh⟩) | (go_simp; go_at_call 47; refine (HI _ _ _ hh).mono ?_; rintro e w2 ⟨A4, c4, rfl, q3, q4, hh2⟩))
  all_goals
    go_wp2
    go_ret
    exact ⟨rfl, hh2.out⟩

theorem row_new (w : World) : Calls Tryz.prog 9 #[] w fun e w' => e = .returned (.pointer (some ⟨w.heap.size, 0, none⟩)) ∧ w' = w.alloc (.cells #[.bool true, .slice none 0 0] tRow) := by
  go_enter Tryz.func9, Tryz.ntmps9
  go_wp2
  go_ret
  exact ⟨rfl, rfl⟩
theorem rowIs_new (w : World) (base : Nat) (ok : Nat → Prop) (h : ok w.heap.size) : RowIs (w.alloc (.cells #[.bool true, .slice none 0 0] tRow)) base ok w.heap.size [] :=
  ⟨h, _, heap_alloc_new w _, Kd.R_nil _ _ _ _ _⟩
end Go.Proofs.YtkjplffpihfliaaGreatDoor
