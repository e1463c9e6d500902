/- Texts of this claim, merged by wip/merge.py: Ord11 Treap Range Arena. -/
import Derived.Test.YtkjplffpihfliaaGreatDoorMFull6
import Derived.Test.YtkjplffpihfliaaGreatDoorMFull3
import Derived.Maps.RangeRun
import Derived.Test.YtkjplffpihfliaaGreatDoorMFull4
import Derived.Laws.IdiomRangeMap
import Derived.IntWalk
section
/- The contract of order.Image. -/
namespace Go.Proofs.YtkjplffpihfliaaGreatDoor
open Go.RowKit Go.Proofs.YtkjplffpihfliaaGreatDoorW.PrintWords PAll

/-- Numbers that are bytes. -/
def Byt (l : List Int) : Prop := ∀ x ∈ l, 0 ≤ x ∧ x < 256
theorem byt_back {x : Int} (h : 0 ≤ x ∧ x < 256) : ((UInt8.ofNat x.toNat).toNat : Int) = x := by
  rw [UInt8.toNat_ofNat']; omega
theorem Byt.map_back : ∀ {l : List Int}, Byt l → (Lib.bytesOf l).map (fun b => (b.toNat : Int)) = l
  | [], _ => rfl
  | x :: l, h => by
    have e1 := byt_back (h x (by simp))
    have e2 := Byt.map_back (l := l) (fun y hy => h y (by simp [hy]))
    unfold Lib.bytesOf at e2 ⊢
    rw [List.map_cons, List.map_cons, e2, e1]
theorem Byt.inj {l l' : List Int} (h : Byt l) (h' : Byt l') (e : Lib.bytesOf l = Lib.bytesOf l') : l = l' := by rw [← h.map_back, ← h'.map_back, e]
theorem Byt.append {l l' : List Int} (h : Byt l) (h' : Byt l') : Byt (l ++ l') := fun x hx => (List.mem_append.1 hx).elim (h x) (h' x)
theorem byt_lit : ∀ (n : Nat) (x : Int), Byt (lit x n)
  | 0, _ => by simp [Byt, lit]
  | n + 1, x => by
    intro y hy
    rcases List.mem_cons.1 (by simpa [lit] using hy) with rfl | hy
    · omega
    · exact byt_lit n _ y hy
theorem byt_nodeBytes {ch : Int} {k v : List Int} (hch : 0 ≤ ch ∧ ch < 256) (hk : Byt k) (hv : Byt v) (hkl : k.length ≤ 64) : Byt (nodeBytes ch k v) := by
  refine ((Byt.append ?_ (byt_lit _ _)).append hk).append hv
  intro x hx
  rcases List.mem_cons.1 hx with rfl | hx
  · exact hch
  · have := List.mem_singleton.1 hx; omega
namespace Tr
def Byts : Tr → Prop
  | .nil => True
  | .node k v _ l r _ _ => Byt k ∧ Byt v ∧ l.Byts ∧ r.Byts
theorem Byts.parts : ∀ {T : Tr}, T.Ok → T.Byts → ∀ p ∈ T.parts, Byt p ∧ p.length ≤ 2000
  | .nil, _, _ => by simp [Tr.parts]
  | .node k v h l r sz dg, ⟨h1, h2, _, h4, h5⟩, ⟨g1, g2, g3, g4⟩ => by
    intro p hp
    simp only [Tr.parts, List.mem_cons, List.mem_append] at hp
    rcases hp with rfl | hp | hp
    · exact ⟨byt_nodeBytes (by split <;> split <;> omega) g1 g2 h1, by simp [nodeBytes, lit_length]; omega⟩
    · exact Byts.parts h4 g3 p hp
    · exact Byts.parts h5 g4 p hp
def image (T : Tr) : List Int := lit T.cnt 4 ++ T.parts.flatten
end Tr

theorem bytesOf_append (a b : List Int) : Lib.bytesOf (a ++ b) = Lib.bytesOf a ++ Lib.bytesOf b := by simp [Lib.bytesOf]
theorem join_flat : ∀ xss : List (List Int), Lib.join (xss.map Lib.bytesOf) [] = Lib.bytesOf xss.flatten
  | [] => rfl
  | [x] => by simp [Lib.join, List.intercalate]
  | x :: y :: r => by
    have := join_flat (y :: r)
    simp only [Lib.join, List.intercalate, List.map_cons, List.intersperse_cons_cons, List.flatten_cons, List.nil_append] at this ⊢
    rw [this]
    simp [Lib.bytesOf]
theorem lens_flat : ∀ xss : List (List Int), Lib.lens (xss.map Lib.bytesOf) = xss.flatten.length
  | [] => rfl
  | x :: r => by
    have := lens_flat r
    simp only [Lib.lens, List.map_cons, List.sum_cons, List.flatten_cons, List.length_append] at this ⊢
    rw [this]
    simp [Lib.bytesOf]
theorem holds_of_C {w : World} {A : Option Addr} {c : Nat} {xs : List Int} (h : Kd.C (Kd.int .u8) w A xs.length xs) (hb : Byt xs) : Lib.HoldsBytes w (.slice A xs.length c) (Lib.bytesOf xs) := by
  have hl : (Lib.bytesOf xs).length = xs.length := by simp [Lib.bytesOf]
  refine ⟨A, c, by rw [hl], fun e => by subst e; rw [C_none h]; rfl, ?_⟩
  rintro a rfl i x hx
  obtain ⟨_, hc⟩ := C_cells h
  have hi : i < xs.length := by rw [← hl]; exact (List.getElem?_eq_some_iff.1 hx).1
  obtain ⟨ad, e, hcell⟩ := hc i hi
  cases e
  rw [hcell]
  have e1 : xs.getD i 0 = xs[i] := by simp [List.getD, List.getElem?_eq_getElem hi]
  have e2 : x = UInt8.ofNat xs[i].toNat := by
    simp [Lib.bytesOf, List.getElem?_eq_getElem hi] at hx
    exact hx.symm
  rw [e1, e2, byt_back (hb _ (List.getElem_mem hi))]
theorem C_of_fresh {B : Nat} {w : World} {v : Value} {xs : List Int} (h : Lib.FreshBytes B w v (Lib.bytesOf xs)) (hb : Byt xs) (hl : xs.length ≤ 9223372036854775807) :
    ∃ A c, v = .slice A xs.length c ∧ xs.length ≤ c ∧ Kd.C (Kd.int .u8) w A xs.length xs := by
  obtain ⟨g, cap, zs, rfl, _, h1, h2, h3, h4, h5, h6, _⟩ := h
  have hlen : (Lib.bytesOf xs).length = xs.length := by simp [Lib.bytesOf]
  rw [hlen] at h1 h5
  have e : zs.take xs.length = xs := Byt.inj (fun x hx => h4 x (List.mem_of_mem_take hx)) hb h5
  refine ⟨some ⟨g, 0, none⟩, cap, by rw [hlen], h1, ?_⟩
  refine Kd.C_of_reads (d := 0) ⟨rfl, hl, fun _ => ⟨_, rfl, ?_⟩⟩
  intro j hj
  rw [add_plain, h6 j (by omega)]
  congr 2
  conv => rhs; rw [← e]
  simp [List.getD, List.getElem?_take, hj]

theorem bufs_parts {w : World} {B0 : Nat} {ad : Addr} {n c : Nat} {xss : List (List Int)} (h : Bufs w B0 (.slice (some ad) n c) xss) (hb : ∀ p ∈ xss, Byt p) : ∃ vs, Lib.PartsAt w ad vs (xss.map Lib.bytesOf) := by
  have hr : ReadsRow (kB.K w) 1 w (some ad) xss.length xss := (Kd.R_reads' h).2.2
  have hget : ∀ j p, xss[j]? = some p → ∃ A' c', w.cell? (ad.add j) = some (.slice A' p.length c') ∧ Kd.C (Kd.int .u8) w A' p.length p := by
    intro j p hj
    obtain ⟨ad', e, hc⟩ := hr.2.2 (by have := (List.getElem?_eq_some_iff.1 hj).1; omega)
    cases e
    obtain ⟨cs, hl, ⟨A', c', rfl, _, hC⟩, hcell⟩ := hc j p hj
    exact ⟨A', c', by have := hcell 0 _ rfl; simpa using this, hC⟩
  refine ⟨(List.range xss.length).map fun j => (w.cell? (ad.add j)).getD (.bool false), by simp, ?_, ?_⟩
  · intro i v hv
    have hi : i < xss.length := by
      have := (List.getElem?_eq_some_iff.1 hv).1
      simpa using this
    obtain ⟨A', c', hcell, _⟩ := hget i xss[i] (List.getElem?_eq_getElem hi)
    simp [hi] at hv
    rw [hcell] at hv ⊢
    simp at hv
    rw [hv]
  · intro i v l hv hl
    have hi : i < xss.length := by
      have := (List.getElem?_eq_some_iff.1 hv).1
      simpa using this
    obtain ⟨A', c', hcell, hC⟩ := hget i xss[i] (List.getElem?_eq_getElem hi)
    simp [hi] at hv hl
    rw [hcell] at hv
    simp at hv
    subst hv hl
    exact holds_of_C hC (hb _ (List.getElem_mem hi))
theorem holds_nil (w : World) : Lib.HoldsBytes w (.slice none 0 0) [] := ⟨none, 0, rfl, fun _ => rfl, fun _ h => by cases h⟩
/-- bytes.Join of parts without a separator. -/
theorem join_any (w : World) (B0 : Nat) (A : Option Addr) (n c : Nat) (xss : List (List Int)) (h : Bufs w B0 (.slice A n c) xss) (hb : ∀ p ∈ xss, Byt p ∧ p.length ≤ 2000) (hne : ∀ p ∈ xss, 0 < p.length) (hn : xss.length ≤ 1000000) :
    Calls Tryz.prog 118 #[.slice A n c, .slice none 0 0] w fun e w' => ∃ A' c', e = .returned (.slice A' xss.flatten.length c') ∧ xss.flatten.length ≤ c' ∧ Kd.C (Kd.int .u8) w' A' xss.flatten.length xss.flatten ∧ Below w.heap.size w w' := by
  obtain ⟨hn', hnc, hC⟩ := Kd.R_reads' h
  have hbf : Byt xss.flatten := by
    intro x hx
    obtain ⟨p, hp, hx⟩ := List.mem_flatten.1 hx
    exact (hb p hp).1 x hx
  have hfl : xss.flatten.length ≤ 2000 * xss.length := by
    clear h hbf hC hn' hn hne
    induction xss with
    | nil => simp
    | cons x r ih =>
      have := ih (fun p hp => hb p (by simp [hp]))
      have h1 := (hb x (by simp)).2
      simp only [List.flatten_cons, List.length_append, List.length_cons]
      omega
  by_cases h0 : xss = []
  · subst h0
    have hn0 : n = 0 := hn'
    subst hn0
    refine (Tryz.bytes_Join_none A c _ w).mono ?_
    rintro e w' ⟨rfl, rfl⟩
    refine ⟨_, _, rfl, by simp, ?_, below_alloc (Below.refl _ _) _⟩
    exact Kd.C_of_reads (d := 0) ⟨rfl, by simp, fun h => by simp at h⟩
  · have hpos : 0 < xss.length := List.length_pos_iff.2 h0
    obtain ⟨ad, rfl⟩ : ∃ ad, A = some ad := by
      have hr : ReadsRow (kB.K w) 1 w A xss.length xss := hC
      obtain ⟨ad, e, _⟩ := hr.2.2 hpos
      exact ⟨ad, e⟩
    obtain ⟨vs, hP⟩ := bufs_parts h (fun p hp => (hb p hp).1)
    obtain ⟨b, hb0⟩ : ∃ b, ad = ⟨b, 0, none⟩ := by
      obtain ⟨inner, ho⟩ := Kd.R_own h
      rcases ho.2 with ⟨e, _⟩ | ⟨g, cap, cur, e, _⟩
      · cases e
      · cases e; exact ⟨g, rfl⟩
    subst hb0
    by_cases h1 : xss.length = 1
    · obtain ⟨p, rfl⟩ := List.length_eq_one_iff.1 h1
      have hp := hb p (by simp)
      have hp0 := hne p (by simp)
      subst hn'
      obtain ⟨q, cap, l, hl, hcell, hq, hcs⟩ := hP.get 0 (by simp)
      have hl' : l = Lib.bytesOf p := by simpa using hl.symm
      subst hl'
      have hlen : (Lib.bytesOf p).length = p.length := by simp [Lib.bytesOf]
      cases q with
      | none => have := hq rfl; rw [this] at hlen; simp at hlen; omega
      | some a0 =>
        refine (Tryz.bytes_Join_one b 0 c a0 cap (Lib.bytesOf p) _ w (by simpa [Addr.add] using hcell) (hcs a0 rfl) (by omega) (by omega)).mono ?_
        rintro e w' ⟨v', rfl, hf, hB⟩
        have e1 : [p].flatten = p := by simp
        rw [e1]
        obtain ⟨A', c', rfl, h1, h2⟩ := C_of_fresh hf hp.1 (by omega)
        exact ⟨A', c', rfl, h1, h2, hB⟩
    · refine (Tryz.bytes_Join_many b 0 n c vs (xss.map Lib.bytesOf) _ [] w (by simp [hn']) (by omega) hP hnc (holds_nil w) (by omega) (by rw [lens_flat]; simp only [List.length_nil, Nat.zero_mul, Nat.add_zero]; omega)).mono ?_
      rintro e w' ⟨v', rfl, hf, hB⟩
      rw [join_flat] at hf
      obtain ⟨A', c', rfl, h1, h2⟩ := C_of_fresh hf hbf (by omega)
      exact ⟨A', c', rfl, h1, h2, hB⟩

theorem Tr.parts_pos : ∀ {T : Tr}, ∀ p ∈ T.parts, 0 < p.length
  | .nil => by simp [Tr.parts]
  | .node k v h l r sz dg => by
    intro p hp
    simp only [Tr.parts, List.mem_cons, List.mem_append] at hp
    rcases hp with rfl | hp | hp
    · simp [nodeBytes]
    · exact Tr.parts_pos p hp
    · exact Tr.parts_pos p hp

set_option maxRecDepth 100000 in
set_option maxHeartbeats 1000000 in
theorem mimg_any (w : World) (base : Nat) (ok : Nat → Prop) (bm : Nat) (seed : Int) (T : Tr) (N : List Nat) (hM : IsMap w base ok bm seed T N) (hby : T.Byts) (hc : T.cnt ≤ 900000) :
    Calls Tryz.prog 54 #[.pointer (some ⟨bm, 0, none⟩)] w fun e w' => ∃ v', e = .returned v' ∧ Buf w' w.heap.size v' T.image ∧ Below w.heap.size w w' := by
  obtain ⟨hbm, ⟨p, hm, hT⟩, hN, hOk⟩ := hM
  obtain ⟨m0, m1, m2, mf⟩ := map_cells hm
  have hg := gather_any w base ok T w p N (.slice none 0 0) [] hT (Below.refl _ _) hOk (Kd.R_nil _ _ _ _ _) (by simp; omega)
  have hp := Tr.Byts.parts hOk hby
  have hpl : T.parts.length ≤ 900000 := by rw [Tr.parts_length T]; exact hc
  have hsz := hOk.size
  go_enter Tryz.func54, Tryz.ntmps54
  go_wp2_with (go_at_call 111; refine (mreal_any w bm m0).mono ?_; rintro e w' ⟨rfl, rfl⟩)
  refine hg.mono ?_
  rintro e w1 ⟨v1, rfl, hv1, hB1⟩
  obtain ⟨A1, c1, rfl, _, _⟩ := Kd.R_reads hv1
  have hm1 := (hB1.block bm (blk_lt hm)).trans hm
  obtain ⟨_, _, n2, _⟩ := map_cells hm1
  have hcnt := count_any w1 _ _ p T N (hT.kept (Kept.of_below hB1 (fun _ => False)) (NoBytes.none _ _) (fun _ _ h => h))
  rw [hsz] at hcnt
  have ew : IntKind.u64.wrap (T.cnt : Int) = T.cnt := by show (T.cnt : Int) % 18446744073709551616 = _; omega
  have hlit := little_buf w1 w1 (Below.refl _ _) (.slice none 0 0) [] (T.cnt : Int) 4 (by omega) (by simp) (Kd.R_nil _ _ _ _ _)
  have hv1' : Bufs w1 w.heap.size (.slice A1 T.parts.length c1) T.parts := by simpa using hv1
  clear hv1 hg hsz hm hm1
  go_wp2_with fail
  refine hcnt.mono ?_
  rintro e w' ⟨rfl, rfl⟩
  go_wp2_with fail
  refine hlit.mono ?_
  rintro e w2 ⟨v2, rfl, hb2, hB2⟩
  have hv2 := Kd.R_below hv1' hB2
  have hjoin := join_any w2 w.heap.size A1 T.parts.length c1 T.parts hv2 hp Tr.parts_pos (by omega)
  clear hlit hcnt hv1' hv2
  go_wp2_with fail
  refine hjoin.mono ?_
  rintro e w3 ⟨A3, c3, rfl, hc3, hr3, hB3⟩
  have hb3 := (Kd.R_below hb2 hB3)
  have hfl : T.parts.flatten.length ≤ 2000000000 := by
    have : ∀ l : List (List Int), (∀ p ∈ l, p.length ≤ 2000) → l.flatten.length ≤ 2000 * l.length := by
      intro l
      induction l with
      | nil => simp
      | cons x r ih =>
        intro h
        have h1 := ih (fun p hp => h p (by simp [hp]))
        have h2 := h x (by simp)
        simp only [List.flatten_cons, List.length_append, List.length_cons]
        omega
    have := this T.parts (fun p hp' => (hp p hp').2)
    omega
  obtain ⟨fl, hfl2⟩ : ∃ fl, fl = T.parts.flatten := ⟨_, rfl⟩
  rw [← hfl2] at hr3 hc3 hfl ⊢
  have HFL := Lib.hid hfl2
  have hB13 : Below w.heap.size w w3 := hB1.trans ((hB2.mono hB1.size).trans (hB3.mono (Nat.le_trans hB1.size hB2.size)))
  have hb3' : Buf w3 w.heap.size v2 (lit (T.cnt : Int) 4) := by simpa using Buf.le hb3 hB1.size
  clear hjoin hb2 hb3 hfl2 hB2 hB3 hB1
  go_wp2_with (at_builtin; refine buf_appendN (w0 := w) rfl (.tmp 18) (.tmp 20) rfl v2 (lit (T.cnt : Int) 4) fl A3 fl.length c3 rfl rfl rfl hb3' hr3 hB13 ?hl ?_; (case hl => simp [lit_length]; omega); intro v4 w4 hb4 hB4 _; have HH := Aside0.mk (And.intro hb4 hB4); clear hb4 hB4 hb3' hr3 hB13)
  go_ret
  exact ⟨_, rfl, by have := HH.out.1; rw [HFL.out] at this; exact this, HH.out.2⟩
end Go.Proofs.YtkjplffpihfliaaGreatDoor
end

section
/- A treap is one for each set of pairs: what put leaves, whatever the order of the puts. Plain Lean: no program. -/
namespace Go.Proofs.YtkjplffpihfliaaGreatDoor
open Go.RowKit Go.Proofs.YtkjplffpihfliaaGreatDoorW.PrintWords PAll

theorem cb_flip : ∀ a b : List UInt8, Lib.compareBytes b a = - Lib.compareBytes a b
  | [], [] => rfl
  | [], _ :: _ => rfl
  | _ :: _, [] => rfl
  | x :: a, y :: b => by
    unfold Lib.compareBytes
    by_cases h1 : x < y
    · have h2 : ¬ y < x := fun h => UInt8.lt_irrefl x (UInt8.lt_trans h1 h)
      simp [h1, h2]
    · by_cases h2 : y < x
      · simp [h1, h2]
      · simp [h1, h2, cb_flip a b]
theorem cb_self (a : List UInt8) : Lib.compareBytes a a = 0 := by have := cb_flip a a; omega
theorem cb_eq : ∀ a b : List UInt8, Lib.compareBytes a b = 0 → a = b
  | [], [], _ => rfl
  | [], _ :: _, h => by simp [Lib.compareBytes] at h
  | _ :: _, [], h => by simp [Lib.compareBytes] at h
  | x :: a, y :: b, h => by
    unfold Lib.compareBytes at h
    by_cases h1 : x < y
    · simp [h1] at h
    · by_cases h2 : y < x
      · simp [h1, h2] at h
      · simp [h1, h2] at h
        rw [cb_eq a b h, UInt8.le_antisymm (UInt8.not_lt.1 h2) (UInt8.not_lt.1 h1)]
theorem cb_trans : ∀ a b c : List UInt8, Lib.compareBytes a b < 0 → Lib.compareBytes b c < 0 → Lib.compareBytes a c < 0
  | [], [], _, h, _ => by simp [Lib.compareBytes] at h
  | _ :: _, [], _, h, _ => by simp [Lib.compareBytes] at h
  | _, _ :: _, [], _, h => by simp [Lib.compareBytes] at h
  | [], _ :: _, _ :: _, _, _ => by simp [Lib.compareBytes]
  | x :: a, y :: b, z :: c, h1, h2 => by
    unfold Lib.compareBytes at h1 h2 ⊢
    by_cases p1 : x < y
    · by_cases p2 : y < z
      · rw [if_pos (UInt8.lt_trans p1 p2)]; omega
      · by_cases p3 : z < y
        · simp [p2, p3] at h2
        · have e : y = z := UInt8.le_antisymm (UInt8.not_lt.1 p3) (UInt8.not_lt.1 p2)
          rw [if_pos (e ▸ p1)]; omega
    · by_cases q1 : y < x
      · simp [p1, q1] at h1
      · have e : x = y := UInt8.le_antisymm (UInt8.not_lt.1 q1) (UInt8.not_lt.1 p1)
        subst e
        simp [p1] at h1
        by_cases p2 : x < z
        · rw [if_pos p2]; omega
        · by_cases p3 : z < x
          · simp [p2, p3] at h2
          · simp [p2, p3] at h2 ⊢
            exact cb_trans a b c h1 h2
theorem cmpI_flip (a b : List Int) : cmpI b a = - cmpI a b := cb_flip _ _
theorem cmpI_self (a : List Int) : cmpI a a = 0 := cb_self _
theorem cmpI_trans {a b c : List Int} (h1 : cmpI a b < 0) (h2 : cmpI b c < 0) : cmpI a c < 0 := cb_trans _ _ _ h1 h2
theorem cmpI_congr {a b : List Int} (h : cmpI a b = 0) (c : List Int) : cmpI a c = cmpI b c := by
  unfold cmpI at *
  rw [cb_eq _ _ h]

theorem aboveB_asymm {h1 h2 : Int} {k1 k2 : List Int} (a : aboveB h1 k1 h2 k2 = true) (b : aboveB h2 k2 h1 k1 = true) : False := by
  unfold aboveB at a b
  by_cases e : h1 = h2
  · rw [if_pos e] at a
    rw [if_pos e.symm] at b
    have := cmpI_flip k1 k2
    simp at a b
    omega
  · rw [if_neg e] at a
    rw [if_neg (fun h => e h.symm)] at b
    simp at a b
    omega
theorem aboveB_total {h1 h2 : Int} {k1 k2 : List Int} (hk : cmpI k1 k2 ≠ 0) (a : ¬ aboveB h1 k1 h2 k2 = true) : aboveB h2 k2 h1 k1 = true := by
  unfold aboveB at *
  by_cases e : h1 = h2
  · rw [if_pos e] at a
    rw [if_pos e.symm]
    have := cmpI_flip k1 k2
    simp at a ⊢
    omega
  · rw [if_neg e] at a
    rw [if_neg (fun h => e h.symm)]
    simp at a ⊢
    omega
theorem aboveB_trans {h1 h2 h3 : Int} {k1 k2 k3 : List Int} (a : aboveB h1 k1 h2 k2 = true) (b : aboveB h2 k2 h3 k3 = true) : aboveB h1 k1 h3 k3 = true := by
  unfold aboveB at *
  by_cases e : h1 = h2
  · rw [if_pos e] at a
    by_cases e2 : h2 = h3
    · rw [if_pos e2] at b
      rw [if_pos (e.trans e2)]
      simp at a b ⊢
      exact cmpI_trans a b
    · rw [if_neg e2] at b
      rw [if_neg (fun h => e2 (e.symm.trans h))]
      simp at b ⊢
      omega
  · rw [if_neg e] at a
    by_cases e2 : h2 = h3
    · rw [if_pos e2] at b
      rw [if_neg (fun h => e (h.trans e2.symm))]
      simp at a ⊢
      omega
    · rw [if_neg e2] at b
      simp at a b
      rw [if_neg (by omega)]
      simp
      omega

namespace Tr
abbrev Pr := List Int × List Int
/-- The pairs, in the order of keys. -/
def pairs : Tr → List Pr
  | .nil => []
  | .node k v _ l r _ _ => l.pairs ++ (k, v) :: r.pairs
/-- A treap of a seed. -/
def Treap (seed : Int) : Tr → Prop
  | .nil => True
  | .node k v h l r sz dg => Byt k ∧ h = coin seed 3 k ∧ sz = 1 + l.size + r.size ∧ dg = digestOf seed l.dig k v r.dig ∧ (∀ p ∈ l.pairs, cmpI p.1 k < 0) ∧ (∀ p ∈ r.pairs, cmpI k p.1 < 0) ∧
    (∀ p ∈ l.pairs, aboveB (coin seed 3 k) k (coin seed 3 p.1) p.1 = true) ∧ (∀ p ∈ r.pairs, aboveB (coin seed 3 k) k (coin seed 3 p.1) p.1 = true) ∧ l.Treap seed ∧ r.Treap seed
theorem treap_unique (seed : Int) : ∀ {T1 T2 : Tr}, T1.Treap seed → T2.Treap seed → T1.pairs = T2.pairs → T1 = T2
  | .nil, .nil, _, _, _ => rfl
  | .nil, .node .., _, _, h => by simp [pairs] at h
  | .node .., .nil, _, _, h => by simp [pairs] at h
  | .node k1 v1 h1 l1 r1 s1 d1, .node k2 v2 h2 l2 r2 s2 d2, ⟨_, a1, a2, a3, a4, a5, a6, a7, a8, a9⟩, ⟨_, b1, b2, b3, b4, b5, b6, b7, b8, b9⟩, h => by
    simp only [pairs] at h
    have key : l1.pairs = l2.pairs ∧ (k1, v1) :: r1.pairs = (k2, v2) :: r2.pairs := by
      rcases List.append_eq_append_iff.1 h with ⟨c, hc1, hc2⟩ | ⟨c, hc1, hc2⟩
      · cases c with
        | nil => exact ⟨by simpa using hc1.symm, by simpa using hc2⟩
        | cons x c =>
          simp only [List.cons_append, List.cons.injEq] at hc2
          obtain ⟨rfl, hc2⟩ := hc2
          exact (aboveB_asymm (b6 (k1, v1) (by rw [hc1]; simp)) (a7 (k2, v2) (by rw [hc2]; simp))).elim
      · cases c with
        | nil => exact ⟨by simpa using hc1, by simpa using hc2.symm⟩
        | cons x c =>
          simp only [List.cons_append, List.cons.injEq] at hc2
          obtain ⟨rfl, hc2⟩ := hc2
          exact (aboveB_asymm (a6 (k2, v2) (by rw [hc1]; simp)) (b7 (k1, v1) (by rw [hc2]; simp))).elim
    obtain ⟨e1, e2⟩ := key
    simp only [List.cons.injEq, Prod.mk.injEq] at e2
    obtain ⟨⟨rfl, rfl⟩, e3⟩ := e2
    obtain rfl := treap_unique seed a8 b8 e1
    obtain rfl := treap_unique seed a9 b9 e3
    rw [a1, a2, a3, b1, b2, b3]

theorem Treap.fresh {seed : Int} {k v : List Int} {l r : Tr} (h0 : Byt k) (h1 : ∀ p ∈ l.pairs, cmpI p.1 k < 0) (h2 : ∀ p ∈ r.pairs, cmpI k p.1 < 0)
    (h3 : ∀ p ∈ l.pairs, aboveB (coin seed 3 k) k (coin seed 3 p.1) p.1 = true) (h4 : ∀ p ∈ r.pairs, aboveB (coin seed 3 k) k (coin seed 3 p.1) p.1 = true) (h5 : l.Treap seed) (h6 : r.Treap seed) :
    (fresh seed k v (coin seed 3 k) l r).Treap seed := ⟨h0, rfl, rfl, rfl, h1, h2, h3, h4, h5, h6⟩
theorem pairs_fresh (seed : Int) (k v : List Int) (h : Int) (l r : Tr) : (fresh seed k v h l r).pairs = l.pairs ++ (k, v) :: r.pairs := rfl
/-- What split leaves. -/
theorem split_pairs (seed : Int) (key : List Int) : ∀ {T : Tr}, T.Treap seed →
    (T.split seed key).1.pairs ++ (T.split seed key).2.pairs = T.pairs ∧ (∀ p ∈ (T.split seed key).1.pairs, cmpI p.1 key < 0) ∧ (∀ p ∈ (T.split seed key).2.pairs, ¬ cmpI p.1 key < 0) ∧ (T.split seed key).1.Treap seed ∧ (T.split seed key).2.Treap seed
  | .nil, _ => ⟨rfl, by simp [split, pairs], by simp [split, pairs], trivial, trivial⟩
  | .node k v h l r sz dg, ⟨a0, a1, a2, a3, a4, a5, a6, a7, a8, a9⟩ => by
    obtain ⟨l1, l2, l3, l4, l5⟩ := split_pairs seed key a8
    obtain ⟨r1, r2, r3, r4, r5⟩ := split_pairs seed key a9
    simp only [split]
    by_cases hc : cmpI k key < 0
    · rw [if_pos hc]
      refine ⟨?_, ?_, r3, ?_, r5⟩
      · rw [pairs_fresh, List.append_assoc, List.cons_append, r1]; rfl
      · intro p hp
        rw [pairs_fresh] at hp
        rcases List.mem_append.1 hp with hp | hp
        · exact cmpI_trans (a4 p hp) hc
        · rcases List.mem_cons.1 hp with rfl | hp
          · exact hc
          · exact r2 p hp
      · have hsub : ∀ p ∈ (r.split seed key).1.pairs, p ∈ r.pairs := fun p hp => by rw [← r1]; exact List.mem_append_left _ hp
        rw [a1]
        exact Treap.fresh a0 a4 (fun p hp => a5 p (hsub p hp)) a6 (fun p hp => a7 p (hsub p hp)) a8 r4
    · rw [if_neg hc]
      refine ⟨?_, l2, ?_, l4, ?_⟩
      · rw [pairs_fresh, ← List.append_assoc, l1]; rfl
      · intro p hp
        rw [pairs_fresh] at hp
        rcases List.mem_append.1 hp with hp | hp
        · exact l3 p hp
        · rcases List.mem_cons.1 hp with rfl | hp
          · exact hc
          · intro hlt
            exact hc (cmpI_trans (a5 p hp) hlt)
      · have hsub : ∀ p ∈ (l.split seed key).2.pairs, p ∈ l.pairs := fun p hp => by rw [← l1]; exact List.mem_append_right _ hp
        rw [a1]
        exact Treap.fresh a0 (fun p hp => a4 p (hsub p hp)) a5 (fun p hp => a6 p (hsub p hp)) a7 l5 a9

/-- A pair put among sorted ones. -/
def insP (k v : List Int) : List Pr → List Pr
  | [] => [(k, v)]
  | (k', v') :: r => if cmpI k k' = 0 then (k', v) :: r else if cmpI k k' < 0 then (k, v) :: (k', v') :: r else (k', v') :: insP k v r
theorem insP_left {k v : List Int} {r : List Pr} : ∀ {l : List Pr}, (∀ p ∈ l, cmpI p.1 k < 0) → insP k v (l ++ r) = l ++ insP k v r
  | [], _ => rfl
  | (k', v') :: l, h => by
    have h1 := h (k', v') (by simp)
    have h2 := cmpI_flip k' k
    simp only at h1
    simp only [List.cons_append, insP]
    rw [if_neg (by omega), if_neg (by omega), insP_left (fun p hp => h p (by simp [hp]))]
theorem insP_right {k v : List Int} {x : Pr} {r : List Pr} (hx : cmpI k x.1 < 0) : ∀ {l : List Pr}, insP k v (l ++ x :: r) = insP k v l ++ x :: r
  | [] => by
    show insP k v (x :: r) = _
    obtain ⟨k', v'⟩ := x
    simp only at hx
    simp only [insP, List.cons_append, List.nil_append]
    rw [if_neg (by omega), if_pos hx]
  | (k', v') :: l => by
    simp only [List.cons_append, insP]
    split
    · rfl
    · split
      · rfl
      · rw [insP_right hx]; rfl
theorem insP_mid {k v : List Int} {l r : List Pr} (hl : ∀ p ∈ l, cmpI p.1 k < 0) (hr : ∀ p ∈ r, cmpI k p.1 < 0) : insP k v (l ++ r) = l ++ (k, v) :: r := by
  rw [insP_left hl]
  congr 1
  cases r with
  | nil => rfl
  | cons x r =>
    obtain ⟨k', v'⟩ := x
    have h := hr (k', v') (by simp)
    simp only at h
    simp only [insP]
    rw [if_neg (by omega), if_pos h]
theorem mem_insP {k v : List Int} {p : Pr} : ∀ {l : List Pr}, p ∈ insP k v l → p = (k, v) ∨ (∃ v', (p.1, v') ∈ l)
  | [], h => by simp [insP] at h; exact .inl h
  | (k', v') :: l, h => by
    unfold insP at h
    split at h
    · rcases List.mem_cons.1 h with rfl | h
      · exact .inr ⟨v', by simp⟩
      · exact .inr ⟨p.2, by simp [h]⟩
    · split at h
      · rcases List.mem_cons.1 h with rfl | h
        · exact .inl rfl
        · exact .inr ⟨p.2, h⟩
      · rcases List.mem_cons.1 h with rfl | h
        · exact .inr ⟨v', by simp⟩
        · rcases mem_insP h with h | ⟨u, h⟩
          · exact .inl h
          · exact .inr ⟨u, by simp [h]⟩
/-- What put leaves. -/
theorem treap_byt {seed : Int} : ∀ {T : Tr}, T.Treap seed → ∀ p ∈ T.pairs, Byt p.1
  | .nil, _, p, hp => by simp [pairs] at hp
  | .node k v h l r sz dg, ⟨a0, _, _, _, _, _, _, _, a8, a9⟩, p, hp => by
    rcases List.mem_append.1 hp with hp | hp
    · exact treap_byt a8 p hp
    · rcases List.mem_cons.1 hp with rfl | hp
      · exact a0
      · exact treap_byt a9 p hp
theorem put_pairs (seed : Int) (k v : List Int) (hk : Byt k) : ∀ {T : Tr}, T.Treap seed → (T.put seed k v (coin seed 3 k)).Treap seed ∧ (T.put seed k v (coin seed 3 k)).pairs = insP k v T.pairs
  | .nil, _ => ⟨Treap.fresh hk (by simp [pairs]) (by simp [pairs]) (by simp [pairs]) (by simp [pairs]) trivial trivial, rfl⟩
  | .node k' v' h' l r sz dg, hT => by
    obtain ⟨a0, a1, a2, a3, a4, a5, a6, a7, a8, a9⟩ := id hT
    obtain ⟨l1, l2⟩ := put_pairs seed k v hk a8
    obtain ⟨r1, r2⟩ := put_pairs seed k v hk a9
    subst a1
    simp only [put]
    by_cases hc : cmpI k k' = 0
    · rw [if_pos hc]
      refine ⟨Treap.fresh a0 a4 a5 a6 a7 a8 a9, ?_⟩
      rw [pairs_fresh]
      show _ = insP k v (l.pairs ++ (k', v') :: r.pairs)
      rw [insP_left (fun p hp => by have h1 := a4 p hp; have h2 := cmpI_congr hc p.1; have h3 := cmpI_flip k p.1; have h4 := cmpI_flip k' p.1; omega)]
      simp only [insP]
      rw [if_pos hc]
    · rw [if_neg hc]
      by_cases hab : aboveB (coin seed 3 k) k (coin seed 3 k') k' = true
      · rw [if_pos hab]
        obtain ⟨s1, s2, s3, s4, s5⟩ := split_pairs seed k hT
        have hall : ∀ p ∈ (Tr.node k' v' (coin seed 3 k') l r sz dg).pairs, aboveB (coin seed 3 k) k (coin seed 3 p.1) p.1 = true := by
          intro p hp
          rcases List.mem_append.1 hp with hp | hp
          · exact aboveB_trans hab (a6 p hp)
          · rcases List.mem_cons.1 hp with rfl | hp
            · exact hab
            · exact aboveB_trans hab (a7 p hp)
        have hgt : ∀ p ∈ ((Tr.node k' v' (coin seed 3 k') l r sz dg).split seed k).2.pairs, cmpI k p.1 < 0 := by
          intro p hp
          have h1 := s3 p hp
          have h2 := hall p (by rw [← s1]; exact List.mem_append_right _ hp)
          have h3 := cmpI_flip k p.1
          by_cases h0 : cmpI k p.1 = 0
          · have e : k = p.1 := Byt.inj hk (treap_byt hT p (by rw [← s1]; exact List.mem_append_right _ hp)) (cb_eq _ _ h0)
            rw [← e] at h2
            exact (aboveB_asymm h2 h2).elim
          · omega
        refine ⟨Treap.fresh hk s2 hgt (fun p hp => hall p (by rw [← s1]; exact List.mem_append_left _ hp)) (fun p hp => hall p (by rw [← s1]; exact List.mem_append_right _ hp)) s4 s5, ?_⟩
        rw [pairs_fresh, ← s1, insP_mid s2 hgt]
      · rw [if_neg hab]
        have hba := aboveB_total hc hab
        have hcf := cmpI_flip k k'
        by_cases hlt : cmpI k k' < 0
        · rw [if_pos hlt]
          refine ⟨Treap.fresh a0 ?_ a5 ?_ a7 l1 a9, ?_⟩
          · intro p hp
            rw [l2] at hp
            rcases mem_insP hp with rfl | ⟨u, hu⟩
            · exact hlt
            · exact a4 (p.1, u) hu
          · intro p hp
            rw [l2] at hp
            rcases mem_insP hp with rfl | ⟨u, hu⟩
            · exact hba
            · exact a6 (p.1, u) hu
          · rw [pairs_fresh, l2]
            exact (insP_right (x := (k', v')) hlt).symm
        · rw [if_neg hlt]
          refine ⟨Treap.fresh a0 a4 ?_ a6 ?_ a8 r1, ?_⟩
          · intro p hp
            rw [r2] at hp
            rcases mem_insP hp with rfl | ⟨u, hu⟩
            · show cmpI k' k < 0
              omega
            · exact a5 (p.1, u) hu
          · intro p hp
            rw [r2] at hp
            rcases mem_insP hp with rfl | ⟨u, hu⟩
            · exact hba
            · exact a7 (p.1, u) hu
          · rw [pairs_fresh, r2]
            show _ = insP k v (l.pairs ++ (k', v') :: r.pairs)
            rw [insP_left (fun p hp => cmpI_trans (a4 p hp) (by omega))]
            simp only [insP]
            rw [if_neg hc, if_neg hlt]

theorem treap_sorted {seed : Int} : ∀ {T : Tr}, T.Treap seed → T.pairs.Pairwise (fun p q => cmpI p.1 q.1 < 0)
  | .nil, _ => List.Pairwise.nil
  | .node k v h l r sz dg, ⟨_, _, _, _, a4, a5, _, _, a8, a9⟩ => by
    refine List.pairwise_append.2 ⟨treap_sorted a8, List.pairwise_cons.2 ⟨fun p hp => a5 p hp, treap_sorted a9⟩, fun p hp q hq => ?_⟩
    rcases List.mem_cons.1 hq with rfl | hq
    · exact a4 p hp
    · exact cmpI_trans (a4 p hp) (a5 q hq)
theorem insP_perm {k v : List Int} : ∀ {l : List Pr}, (∀ p ∈ l, cmpI k p.1 ≠ 0) → (insP k v l).Perm ((k, v) :: l)
  | [], _ => List.Perm.refl _
  | (k', v') :: l, h => by
    unfold insP
    rw [if_neg (h (k', v') (by simp))]
    split
    · exact List.Perm.refl _
    · exact (List.Perm.cons _ (insP_perm (fun p hp => h p (by simp [hp])))).trans (List.Perm.swap _ _ _)
/-- The tree of some pairs, put in in their order. -/
def puts (seed : Int) (ps : List Pr) : Tr := ps.foldl (fun T p => T.put seed p.1 p.2 (coin seed 3 p.1)) .nil
theorem puts_pairs (seed : Int) : ∀ (ps : List Pr) (T : Tr), T.Treap seed → (∀ p ∈ ps, Byt p.1) → (∀ p ∈ ps, ∀ q ∈ T.pairs, cmpI p.1 q.1 ≠ 0) → ps.Pairwise (fun p q => cmpI p.1 q.1 ≠ 0) →
    (ps.foldl (fun T p => T.put seed p.1 p.2 (coin seed 3 p.1)) T).Treap seed ∧ (ps.foldl (fun T p => T.put seed p.1 p.2 (coin seed 3 p.1)) T).pairs.Perm (ps ++ T.pairs)
  | [], T, hT, _, _, _ => ⟨hT, List.Perm.refl _⟩
  | (k, v) :: ps, T, hT, hb, hn, hp => by
    obtain ⟨h1, h2⟩ := put_pairs seed k v (hb (k, v) (by simp)) hT
    have hpm : (T.put seed k v (coin seed 3 k)).pairs.Perm ((k, v) :: T.pairs) := by rw [h2]; exact insP_perm (fun q hq => hn (k, v) (by simp) q hq)
    obtain ⟨h3, h4⟩ := puts_pairs seed ps (T.put seed k v (coin seed 3 k)) h1 (fun p h => hb p (by simp [h])) (fun p h q hq => by
      rcases List.mem_cons.1 (hpm.mem_iff.1 hq) with rfl | hq
      · have := (List.pairwise_cons.1 hp).1 p h
        have := cmpI_flip k p.1
        simp only at *
        omega
      · exact hn p (by simp [h]) q hq) (List.pairwise_cons.1 hp).2
    refine ⟨h3, h4.trans ?_⟩
    exact (List.Perm.append_left ps hpm).trans (List.perm_middle)
/-- WHATEVER THE ORDER OF THE PUTS: one tree. -/
theorem puts_perm (seed : Int) {ps qs : List Pr} (h : ps.Perm qs) (hb : ∀ p ∈ ps, Byt p.1) (hp : ps.Pairwise (fun p q => cmpI p.1 q.1 ≠ 0)) : puts seed ps = puts seed qs := by
  have hq : qs.Pairwise (fun p q => cmpI p.1 q.1 ≠ 0) := h.pairwise hp (fun {a b} hab => by have := cmpI_flip a.1 b.1; omega)
  obtain ⟨h1, h2⟩ := puts_pairs seed ps .nil trivial hb (by simp [pairs]) hp
  obtain ⟨h3, h4⟩ := puts_pairs seed qs .nil trivial (fun p hp => hb p (h.mem_iff.2 hp)) (by simp [pairs]) hq
  simp only [pairs, List.append_nil] at h2 h4
  refine treap_unique seed h1 h3 ?_
  refine List.Perm.eq_of_pairwise (le := fun a b : Pr => cmpI a.1 b.1 < 0) (fun a b _ _ x y => ?_) (treap_sorted h1) (treap_sorted h3) ((h2.trans h).trans h4.symm)
  have := cmpI_flip a.1 b.1
  omega
end Tr
end Go.Proofs.YtkjplffpihfliaaGreatDoor
end

section
/- for k, v := range m, m with string keys and not written in the loop, in whatever order. -/
namespace Go.Proofs.YtkjplffpihfliaaGreatDoor
open Go.RowKit Go.Proofs.YtkjplffpihfliaaGreatDoorW.PrintWords PAll

/-- The loop over the map in block b, its iterator in block r: the entries sn have come. -/
def SRng (w : World) (b r : Nat) (l sn : List (ByteArray × Value)) : Prop :=
  ∃ es clock since seen c0, w.heap[b]? = some (.map es clock) ∧ es.toList.map (fun e => (e.key, e.val)) = l.map (fun p => (Value.string p.1, p.2)) ∧ (l.map Prod.fst).Nodup ∧ (es.toList.map MapEntry.born).Pairwise (· < ·) ∧
    w.heap[r]? = some (.mapIter (some b) since seen c0) ∧ (∀ x ∈ es.toList, x.born < since) ∧ since ≤ c0 ∧ since ≤ clock ∧ sn.Nodup ∧
    (∀ p, p ∈ sn ↔ ∃ e ∈ es.toList, seen.contains e.born = true ∧ (e.key, e.val) = (Value.string p.1, p.2))
theorem SRng.kept {w w' : World} {b r : Nat} {l sn : List (ByteArray × Value)} {S : Nat → Prop} (h : SRng w b r l sn) (hk : Kept w w' S) (h1 : ¬ S b) (h2 : ¬ S r) : SRng w' b r l sn := by
  obtain ⟨es, clock, since, seen, c0, hb, q1, q2, q3, hr, rest⟩ := h
  exact ⟨es, clock, since, seen, c0, (hk.2 b (Array.getElem?_eq_some_iff.1 hb).1 h1).trans hb, q1, q2, q3, (hk.2 r (Array.getElem?_eq_some_iff.1 hr).1 h2).trans hr, rest⟩
theorem SRng.lt {w : World} {b r : Nat} {l sn : List (ByteArray × Value)} (h : SRng w b r l sn) : b < w.heap.size ∧ r < w.heap.size := by
  obtain ⟨es, clock, since, seen, c0, hb, q1, q2, q3, hr, rest⟩ := h
  exact ⟨(Array.getElem?_eq_some_iff.1 hb).1, (Array.getElem?_eq_some_iff.1 hr).1⟩
theorem srng_start {P : Program} {w : World} {b : Nat} {l : List (ByteArray × Value)} (h : SMap w b l) (t k e : TypeId) (ht : P.underlying t = some (.map k e)) :
    ∃ o, (Instr.range t (.map (some b))).run P w = .ok (.pointer (some ⟨w.heap.size, 0, none⟩)) (w.alloc o) ∧ SRng (w.alloc o) b w.heap.size l [] := by
  have hlt := h.lt
  obtain ⟨es, clock, hb, h1, h2, h3, h4⟩ := h
  refine ⟨_, run_range_map w t k e b es clock ht hb, es, clock, clock, #[], clock, ((MapKept.heap_alloc w _).2 b hlt).trans hb, h1, h2, h3, (MapKept.heap_alloc w _).1, h4, Nat.le_refl _, Nat.le_refl _, List.nodup_nil, fun p => ?_⟩
  simp
theorem nodup_of_keys : ∀ {l : List (ByteArray × Value)}, (l.map Prod.fst).Nodup → l.Nodup
  | [], _ => List.nodup_nil
  | p :: l, h => by
    rw [List.map_cons, List.nodup_cons] at h
    rw [List.nodup_cons]
    exact ⟨fun hp => h.1 (List.mem_map.2 ⟨p, hp, rfl⟩), nodup_of_keys h.2⟩
theorem key_unique {l : List (ByteArray × Value)} (h : (l.map Prod.fst).Nodup) {p q : ByteArray × Value} (hp : p ∈ l) (hq : q ∈ l) (e : p.1 = q.1) : p = q := by
  induction l with
  | nil => cases hp
  | cons x l ih =>
    rw [List.map_cons, List.nodup_cons] at h
    rcases List.mem_cons.1 hp with hp1 | hp1
    · rcases List.mem_cons.1 hq with hq1 | hq1
      · rw [hp1, hq1]
      · exact (h.1 (List.mem_map.2 ⟨q, hq1, by rw [← e, hp1]⟩)).elim
    · rcases List.mem_cons.1 hq with hq1 | hq1
      · exact (h.1 (List.mem_map.2 ⟨p, hp1, by rw [e, hq1]⟩)).elim
      · exact ih h.2 hp1 hq1
theorem srng_next {P : Program} {w : World} {b r : Nat} {l sn : List (ByteArray × Value)} (h : SRng w b r l sn) :
    (sn.Perm l ∧ ∀ ty, (Instr.next (.pointer (some ⟨r, 0, none⟩)) false ty).run P w = .ok (.tuple #[.bool false]) w) ∨
    ∃ p ∈ l, p ∉ sn ∧ ∃ w', (∀ ty, (Instr.next (.pointer (some ⟨r, 0, none⟩)) false ty).run P w = .ok (.tuple #[.bool true, .string p.1, p.2]) w') ∧ SRng w' b r l (sn ++ [p]) ∧ w.grownBy w' (some r) ∧ w'.heap.size = w.heap.size ∧
      (Instr.entry (.pointer (some ⟨r, 0, none⟩))).run P w' = .ok (.tuple #[.string p.1, p.2]) w' := by
  obtain ⟨es, clock, since, seen, c0, hb, q1, q2, q3, hr, hold, hsc, hsk, hsn, hmem⟩ := h
  have hne : r ≠ b := fun e => by rw [e, hb] at hr; cases hr
  have hto : ∀ e ∈ es.toList, ∃ p ∈ l, (e.key, e.val) = (Value.string p.1, p.2) := fun e he => by
    have : (e.key, e.val) ∈ l.map (fun p => (Value.string p.1, p.2)) := by rw [← q1]; exact List.mem_map.2 ⟨e, he, rfl⟩
    obtain ⟨p, hp, hpe⟩ := List.mem_map.1 this
    exact ⟨p, hp, hpe.symm⟩
  have hfrom : ∀ p ∈ l, ∃ e ∈ es.toList, (e.key, e.val) = (Value.string p.1, p.2) := fun p hp => by
    have : (Value.string p.1, p.2) ∈ es.toList.map (fun e => (e.key, e.val)) := by rw [q1]; exact List.mem_map.2 ⟨p, hp, rfl⟩
    obtain ⟨e, he, hpe⟩ := List.mem_map.1 this
    exact ⟨e, he, hpe⟩
  have hlen : es.toList.length = l.length := by simpa using congrArg List.length q1
  have hkeys : ∀ e ∈ es.toList, ∀ e' ∈ es.toList, e.key = e'.key → e = e' := by
    have hn : (es.toList.map (fun e => e.key)).Nodup := by
      have e : es.toList.map (fun e => e.key) = (l.map Prod.fst).map Value.string := by
        have := congrArg (List.map Prod.fst) q1
        rw [List.map_map, List.map_map] at this
        rw [List.map_map]
        exact this
      rw [e]
      exact List.pairwise_map.2 (q2.imp (fun h e => h (by injection e)))
    intro e he e' he' hk
    exact entry_eq_of_key (List.pairwise_map.1 hn) he he' hk
  have hborn : ∀ e ∈ es.toList, ∀ e' ∈ es.toList, e.born = e'.born → e = e' := by
    have hn : (es.toList.map MapEntry.born).Nodup := q3.imp (fun h => Nat.ne_of_lt h)
    have hn' : es.toList.Pairwise (fun x y => x.born ≠ y.born) := List.pairwise_map.1 hn
    intro e he e' he' hk
    have : ∀ l : List MapEntry, l.Pairwise (fun x y => x.born ≠ y.born) → e ∈ l → e' ∈ l → e = e' := by
      intro l
      induction l with
      | nil => intro _ h; cases h
      | cons x l ih =>
        intro hp h1 h2
        rw [List.pairwise_cons] at hp
        rcases List.mem_cons.1 h1 with g1 | g1
        · rcases List.mem_cons.1 h2 with g2 | g2
          · rw [g1, g2]
          · exact (hp.1 _ g2 (by rw [← g1]; exact hk)).elim
        · rcases List.mem_cons.1 h2 with g2 | g2
          · exact (hp.1 _ g1 (by rw [← g2]; exact hk.symm)).elim
          · exact ih hp.2 g1 g2
    exact this _ hn' he he'
  rcases run_next_at (P := P) w 0 r b since c0 seen es clock hr hb hold hsc with ⟨h0, _⟩ | ⟨e, he, w1, hal, hrun0⟩
  · refine .inl ⟨?_, fun ty => ?_⟩
    · refine (List.perm_ext_iff_of_nodup hsn (nodup_of_keys q2)).2 fun p => ⟨fun hp => ?_, fun hp => ?_⟩
      · obtain ⟨e, he, _, hk⟩ := (hmem p).1 hp
        obtain ⟨p', hp', hk'⟩ := hto e he
        have : p = p' := by
          rw [hk] at hk'
          simp only [Prod.mk.injEq, Value.string.injEq] at hk'
          exact Prod.ext hk'.1 hk'.2
        exact this ▸ hp'
      · obtain ⟨e, he, hk⟩ := hfrom p hp
        exact (hmem p).2 ⟨e, he, all_seen es seen h0 e he, hk⟩
    · rcases run_next_at (P := P) w ty r b since c0 seen es clock hr hb hold hsc with ⟨_, h⟩ | ⟨e, he, _⟩
      · exact h
      · have : leftOf es seen = #[] := Array.eq_empty_of_size_eq_zero h0
        rw [this] at he
        simp at he
  · obtain ⟨hem, hes⟩ := mem_left he
    obtain ⟨p, hp, hpe⟩ := hto e hem
    simp only [Prod.mk.injEq] at hpe
    obtain ⟨hpk, hpv⟩ := hpe
    have hr1 : w1.heap[r]? = some (.mapIter (some b) since seen c0) := by rcases hal with rfl | rfl <;> exact hr
    have hb1 : w1.heap[b]? = some (.map es clock) := by rcases hal with rfl | rfl <;> exact hb
    have hset := MapKept.heap_set (o' := .mapIter (some b) since (seen.push e.born) clock) hr1
    have hb' : (ChangeMaps.setBlock w1 r (.mapIter (some b) since (seen.push e.born) clock)).heap[b]? = some (.map es clock) := (hset.2 b (fun e1 => hne e1.symm)).trans hb1
    have hn : (es.toList.map (·.born)).Nodup := q3.imp (fun h => Nat.ne_of_lt h)
    have hnew : p ∉ sn := fun hps => by
      obtain ⟨e', he', hs', hk'⟩ := (hmem p).1 hps
      simp only [Prod.mk.injEq] at hk'
      have := hkeys e' he' e hem (hk'.1.trans hpk.symm)
      rw [this, hes] at hs'
      cases hs'
    refine .inr ⟨p, hp, hnew, ChangeMaps.setBlock w1 r (.mapIter (some b) since (seen.push e.born) clock), fun ty => ?_, ⟨es, clock, since, seen.push e.born, clock, hb', q1, q2, q3, hset.1, hold, hsk, hsk, ?_, fun p' => ?_⟩, ?_, ?_, ?_⟩
    · have hrun : (Instr.next (.pointer (some ⟨r, 0, none⟩)) false ty).run P w = (Instr.next (.pointer (some ⟨r, 0, none⟩)) false 0).run P w := rfl
      rw [hrun, hrun0, hpk, hpv]
    · rw [List.nodup_append]
      exact ⟨hsn, by simp, fun a ha b hb => by rw [List.mem_singleton.1 hb]; exact fun e => hnew (e ▸ ha)⟩
    · rw [List.mem_append, List.mem_singleton]
      constructor
      · rintro (h | rfl)
        · obtain ⟨e', he', hs', hk'⟩ := (hmem p').1 h
          exact ⟨e', he', by rw [contains_push, hs']; rfl, hk'⟩
        · exact ⟨e, hem, by rw [contains_push]; simp, by rw [hpk, hpv]⟩
      · rintro ⟨e', he', hs', hk'⟩
        rw [contains_push, Bool.or_eq_true] at hs'
        rcases hs' with hs' | hs'
        · exact .inl ((hmem p').2 ⟨e', he', hs', hk'⟩)
        · have := hborn e' he' e hem (by simpa using hs')
          subst this
          rw [hpk, hpv] at hk'
          simp only [Prod.mk.injEq, Value.string.injEq] at hk'
          exact .inr (Prod.ext hk'.1.symm hk'.2.symm)
    · rcases hal with rfl | rfl <;> exact ⟨rfl, rfl, rfl, by simp [ChangeMaps.setBlock], fun i _ hi => hset.2 i (fun e1 => hi (by rw [e1]))⟩
    · rcases hal with rfl | rfl <;> simp [ChangeMaps.setBlock]
    · have := run_entry_at (P := P) (ChangeMaps.setBlock w1 r (.mapIter (some b) since (seen.push e.born) clock)) r b since seen es clock e hset.1 hb' hem hn
      rw [this, hpk, hpv]
end Go.Proofs.YtkjplffpihfliaaGreatDoor
end

section
/- An arena in memory; NewArena, Put into an empty one, Get. -/
namespace Go.Proofs.YtkjplffpihfliaaGreatDoor
open Go.RowKit Go.Proofs.YtkjplffpihfliaaGreatDoorW.PrintWords PAll

abbrev tArena : Nat := 62
abbrev tObjs : Nat := 60
def arenaObj (seed units : Int) (bm : Nat) : Obj := .cells #[.int .u64 seed, .int .i64 units, .map (some bm)] tArena (0, 0)
/-- The entries of a map of byte slices, read. -/
def MatchB (w : World) (base : Nat) (ok : Nat → Prop) : List (ByteArray × Value) → List (ByteArray × List Int) → Prop
  | [], [] => True
  | (k, v) :: l, (k', d) :: t => k = k' ∧ Kd.R kU 5 w base ok v d ∧ MatchB w base ok l t
  | _, _ => False
def ArenaIs (w : World) (base : Nat) (ok : Nat → Prop) (g bm : Nat) (seed units : Int) (t : List (ByteArray × List Int)) : Prop :=
  ok g ∧ ok bm ∧ g ≠ bm ∧ w.heap[g]? = some (arenaObj seed units bm) ∧ ∃ l, SMap w bm l ∧ MatchB w base (fun k => ok k ∧ k ≠ g ∧ k ≠ bm) l t
theorem MatchB.imp {w w' : World} {base : Nat} {ok ok' : Nat → Prop} (hi : ∀ v d, Kd.R kU 5 w base ok v d → Kd.R kU 5 w' base ok' v d) : ∀ {l : List (ByteArray × Value)} {t : List (ByteArray × List Int)}, MatchB w base ok l t → MatchB w' base ok' l t
  | [], [], h => h
  | (k, v) :: l, (k', d) :: t, ⟨h1, h2, h3⟩ => ⟨h1, hi v d h2, MatchB.imp hi h3⟩
  | [], _ :: _, h => h.elim
  | _ :: _, [], h => h.elim
theorem matchB_get {w : World} {base : Nat} {ok : Nat → Prop} {s : ByteArray} : ∀ {l : List (ByteArray × Value)} {t : List (ByteArray × List Int)}, MatchB w base ok l t →
    (sget l s = none ∧ sget t s = none) ∨ ∃ v d, sget l s = some v ∧ sget t s = some d ∧ Kd.R kU 5 w base ok v d
  | [], [], _ => .inl ⟨rfl, rfl⟩
  | (k, v) :: l, (k', d) :: t, ⟨h, hn, hr⟩ => by
    subst h
    by_cases he : s = k
    · exact .inr ⟨v, d, by simp [sget, he], by simp [sget, he], hn⟩
    · rcases matchB_get (s := s) hr with ⟨h1, h2⟩ | ⟨v', d', h1, h2, h3⟩
      · exact .inl ⟨by simp [sget, he, h1], by simp [sget, he, h2]⟩
      · exact .inr ⟨v', d', by simp [sget, he, h1], by simp [sget, he, h2], h3⟩
  | [], _ :: _, h => h.elim
  | _ :: _, [], h => h.elim
theorem MatchB.put {w : World} {base : Nat} {ok : Nat → Prop} {s : ByteArray} {v : Value} {d : List Int} (hn : Kd.R kU 5 w base ok v d) : ∀ {l : List (ByteArray × Value)} {t : List (ByteArray × List Int)}, MatchB w base ok l t → MatchB w base ok (sput l s v) (sput t s d)
  | [], [], _ => ⟨rfl, hn, trivial⟩
  | (k, v0) :: l, (k', d0) :: t, ⟨h1, h2, h3⟩ => by
    subst h1
    unfold sput
    by_cases he : s = k
    · rw [if_pos he, if_pos he]; exact ⟨rfl, hn, h3⟩
    · rw [if_neg he, if_neg he]; exact ⟨rfl, h2, MatchB.put hn h3⟩
  | [], _ :: _, h => h.elim
  | _ :: _, [], h => h.elim
theorem ArenaIs.kept {w w' : World} {base : Nat} {ok S : Nat → Prop} {g bm : Nat} {seed units : Int} {t : List (ByteArray × List Int)} (h : ArenaIs w base ok g bm seed units t) (hk : KeptE w w' S) (hs : ∀ k, ok k → ¬ S k) : ArenaIs w' base ok g bm seed units t := by
  obtain ⟨h1, h2, h3, h4, l, h5, h6⟩ := h
  exact ⟨h1, h2, h3, (hk.1.2 g (blk_lt h4) (hs g h1)).trans h4, l, h5.kept hk (hs bm h2), h6.imp (fun v d hn => Kd.R_kept hn hk.1 (fun k hk => hs k hk.1))⟩
theorem ArenaIs.mono {w : World} {base : Nat} {ok ok' : Nat → Prop} {g bm : Nat} {seed units : Int} {t : List (ByteArray × List Int)} (h : ArenaIs w base ok g bm seed units t) (hs : ∀ k, ok k → k < w.heap.size → ok' k) : ArenaIs w base ok' g bm seed units t := by
  obtain ⟨h1, h2, h3, h4, l, h5, h6⟩ := h
  exact ⟨hs g h1 (blk_lt h4), hs bm h2 h5.lt, h3, h4, l, h5, h6.imp (fun v d hn => Kd.R_mono (Kd.R_bound hn) (fun k hk => ⟨hs k hk.1.1 hk.2.2.1, hk.1.2⟩))⟩
theorem zeroB (w : World) : (zeroValue tB).run Tryz.prog w = .ok (.slice none 0 0) w := Tryz.zeroValue31 w
/-- What a look-up in the arena's map gives. -/
theorem arena_look {w : World} {base : Nat} {ok : Nat → Prop} {g bm : Nat} {seed units : Int} {t : List (ByteArray × List Int)} (h : ArenaIs w base ok g bm seed units t) (s : ByteArray) :
    (sget t s = none ∧ (Instr.lookup tObjs (.map (some bm)) (.string s) true).run Tryz.prog w = .ok (.tuple #[.slice none 0 0, .bool false]) w ∧ (Instr.lookup tObjs (.map (some bm)) (.string s) false).run Tryz.prog w = .ok (.slice none 0 0) w) ∨
    ∃ d A c, sget t s = some d ∧ (Instr.lookup tObjs (.map (some bm)) (.string s) true).run Tryz.prog w = .ok (.tuple #[.slice A d.length c, .bool true]) w ∧ (Instr.lookup tObjs (.map (some bm)) (.string s) false).run Tryz.prog w = .ok (.slice A d.length c) w ∧ Kd.C kU w A d.length d := by
  obtain ⟨_, _, _, _, l, h5, h6⟩ := h
  have hlk := smap_lookup (P := Tryz.prog) h5 tObjs 9 tB Tryz.underlying60 Tryz.underlying9 _ (zeroB w) s
  rcases matchB_get (s := s) h6 with ⟨h1, h2⟩ | ⟨v, d, h1, h2, h3⟩
  · refine .inl ⟨h2, ?_, ?_⟩
    · rw [hlk true, h1]; rfl
    · rw [hlk false, h1]; rfl
  · obtain ⟨A, c, rfl, _, hC⟩ := Kd.R_reads h3
    refine .inr ⟨d, A, c, h2, ?_, ?_, hC⟩
    · rw [hlk true, h1]; rfl
    · rw [hlk false, h1]; rfl
theorem arena_store {w : World} {base : Nat} {ok : Nat → Prop} {g bm : Nat} {seed units : Int} {t : List (ByteArray × List Int)} (h : ArenaIs w base ok g bm seed units t) (s : ByteArray) {v : Value} {d : List Int} (hn : Kd.R kU 5 w base (fun k => ok k ∧ k ≠ g ∧ k ≠ bm) v d) :
    ∃ w', (Instr.mapUpdate tObjs (.map (some bm)) (.string s) v).run Tryz.prog w = .ok () w' ∧ ArenaIs w' base ok g bm seed units (sput t s d) ∧ KeptE w w' (fun k => k = bm) ∧ w'.heap.size = w.heap.size := by
  obtain ⟨h1, h2, h3, h4, l, h5, h6⟩ := h
  obtain ⟨o, hr, hm⟩ := smap_update (P := Tryz.prog) h5 tObjs 9 tB Tryz.underlying60 Tryz.underlying9 s v
  have hk := setBlock_kept w bm o
  refine ⟨_, hr, ⟨h1, h2, h3, (hk.1.2 g (blk_lt h4) h3).trans h4, _, hm, ?_⟩, hk, by simp⟩
  exact MatchB.imp (fun v d hv => Kd.R_kept hv hk.1 (fun k hk => hk.2.2)) (MatchB.put hn h6)

theorem arena_real {w : World} {g bm : Nat} {seed units : Int} (hu : 0 < units) (h : w.heap[g]? = some (arenaObj seed units bm)) :
    Calls Tryz.prog 66 #[.pointer (some ⟨g, 0, none⟩)] w fun e w' => e = .returned (.bool true) ∧ w' = w := by
  have c1 : w.cell? ⟨g, 1, none⟩ = some (.int .i64 units) := by rw [blk_cell h]; rfl
  clear h
  go_enter Tryz.func66, Tryz.ntmps66
  go_wp2
  go_ret
  exact ⟨by simp [hu], rfl⟩
theorem arena_real_none (w : World) : Calls Tryz.prog 66 #[.pointer none] w fun e w' => e = .returned (.bool false) ∧ w' = w := by
  go_enter Tryz.func66, Tryz.ntmps66
  go_wp2
  go_ret
  exact ⟨rfl, rfl⟩
/-- What Get gives. -/
def getT (t : List (ByteArray × List Int)) (s : ByteArray) : List Int × Int :=
  match sget t s with
  | some d => (d, 0)
  | none => ([], 3)
set_option maxRecDepth 100000 in
theorem get_any (w : World) (base : Nat) (ok : Nat → Prop) (g bm : Nat) (seed units : Int) (t : List (ByteArray × List Int)) (s : ByteArray) (hu : 0 < units) (hl : ∀ p ∈ t, p.2.length ≤ 100000) (h : ArenaIs w base ok g bm seed units t) :
    Calls Tryz.prog 29 #[.pointer (some ⟨g, 0, none⟩), .string s] w fun e w' => ∃ v, e = .returned (.tuple #[v, .int .i64 (getT t s).2]) ∧ Buf w' w.heap.size v (getT t s).1 ∧ Below w.heap.size w w' := by
  have hreal := arena_real hu h.2.2.2.1
  have c2 : w.cell? ⟨g, 2, none⟩ = some (.map (some bm)) := by rw [blk_cell h.2.2.2.1]; rfl
  rcases arena_look h s with ⟨h1, h2, _⟩ | ⟨d, A, c, h1, h2, _, hC⟩
  · have HE := Aside0.mk (show getT t s = ([], 3) by unfold getT; rw [h1])
    clear h h1
    go_enter Tryz.func29, Tryz.ntmps29
    go_wp2_with (go_at_call 66; refine hreal.mono ?_; rintro e w ⟨rfl, hw⟩; cases hw)
    go_ret2
    rw [HE.out]
    exact ⟨_, rfl, Kd.R_nil _ _ _ _ _, Below.refl _ _⟩
  · have hd : d.length ≤ 100000 := hl _ (sget_mem h1)
    have hcl := clone_any w A c d hC (by omega)
    have HE := Aside0.mk (show getT t s = (d, 0) by unfold getT; rw [h1])
    clear h h1 hC
    go_enter Tryz.func29, Tryz.ntmps29
    go_wp2_with (first | (go_at_call 66; refine hreal.mono ?_; rintro e w ⟨rfl, hw⟩; cases hw) | (go_at_call 48; refine hcl.mono ?_; rintro e w2 ⟨v, rfl, hb, hB⟩))
    go_ret2
    rw [HE.out]
    exact ⟨_, rfl, hb, hB⟩

/-- How many units an object needs. -/
def needI (name : ByteArray) (n : Nat) : Int := (3 + (name.size : Int) + n + 15) / 16
set_option maxRecDepth 100000 in
theorem need_any (w : World) (s : ByteArray) (A : Option Addr) (n c : Nat) (hs : s.size ≤ 100000) (hn : n ≤ 100000) : Calls Tryz.prog 69 #[.string s, .slice A n c] w fun e w' => e = .returned (.int .i64 (needI s n)) ∧ w' = w := by
  obtain ⟨k, hk⟩ : ∃ k, k = s.size := ⟨_, rfl⟩
  have hk1 : (k : Int) ≤ 100000 := by omega
  have hn1 : (n : Int) ≤ 100000 := by omega
  have e1 : IntKind.i64.wrap (3 + (k : Int)) = 3 + k := IntWalk.i64_in _ (by omega)
  have e2 : IntKind.i64.wrap (3 + (k : Int) + n) = 3 + k + n := IntWalk.i64_in _ (by omega)
  have e3 : IntKind.i64.wrap (3 + (k : Int) + n + 16) = 3 + k + n + 16 := IntWalk.i64_in _ (by omega)
  have e4 : IntKind.i64.wrap (3 + (k : Int) + n + 16 - 1) = 3 + k + n + 15 := by rw [IntWalk.i64_in _ (by omega)]; omega
  have HE : Aside0 (needI s n = (3 + (k : Int) + n + 15) / 16) := ⟨by unfold needI; rw [hk]⟩
  have hk' : s.size = k := hk.symm
  clear hk hs hn
  go_enter Tryz.func69, Tryz.ntmps69
  go_wp2
  go_ret
  rw [HE.out]
  exact ⟨rfl, rfl⟩
set_option maxRecDepth 100000 in
theorem newArena_any (w : World) (seed : Int) (u : Nat) (h1 : 64 ≤ u) (h2 : u ≤ 4096) : Calls Tryz.prog 58 #[.int .u64 seed, .int .i64 u] w fun e w' => e = .returned (.tuple #[.pointer (some ⟨w.heap.size + 1, 0, none⟩), .int .i64 0]) ∧ w' = (w.alloc (.map #[] 0)).alloc (arenaObj seed u w.heap.size) := by
  have hmm := @run_makeMap Tryz.prog
  have t1 : ¬ (u : Int) < 64 := by omega
  have t2 : ¬ (4096 : Int) < u := by omega
  go_enter Tryz.func58, Tryz.ntmps58
  go_wp2
  go_ret2
  refine ⟨?_, rfl⟩
  simp
theorem arenaIs_new (w : World) (base : Nat) (ok : Nat → Prop) (seed units : Int) (h1 : ok w.heap.size) (h2 : ok (w.heap.size + 1)) : ArenaIs ((w.alloc (.map #[] 0)).alloc (arenaObj seed units w.heap.size)) base ok (w.heap.size + 1) w.heap.size seed units [] := by
  refine ⟨h2, h1, by omega, ?_, [], ?_, trivial⟩
  · have := heap_alloc_new (w.alloc (.map #[] 0)) (arenaObj seed units w.heap.size)
    simpa using this
  · exact (SMap.made w).kept (S := fun _ => False) ((KeptE.refl _ _).alloc _) (fun h => h)
theorem treeIs_new (w : World) (base : Nat) (ok : Nat → Prop) (seed : Int) (h1 : ok w.heap.size) (h2 : ok (w.heap.size + 1)) : TreeIs ((w.alloc (.map #[] 0)).alloc (treeObj seed w.heap.size)) base ok (w.heap.size + 1) w.heap.size seed [] := by
  refine ⟨h2, h1, by omega, ?_, [], ?_, trivial⟩
  · have := heap_alloc_new (w.alloc (.map #[] 0)) (treeObj seed w.heap.size)
    simpa using this
  · exact (SMap.made w).kept (S := fun _ => False) ((KeptE.refl _ _).alloc _) (fun h => h)

set_option maxRecDepth 100000 in
set_option maxHeartbeats 1000000 in
/-- Put into an empty arena. -/
theorem put_first (w : World) (base : Nat) (ok : Nat → Prop) (g bm : Nat) (seed units : Int) (s : ByteArray) (A0 : Option Addr) (c0 : Nat) (data : List Int) (hu : 46 ≤ units) (hu2 : units ≤ 4096) (hs : s.size ≤ 100000) (hname : isName s = true) (hneed : needI s data.length ≤ 16) (hbase : base ≤ w.heap.size)
    (hdl : data.length ≤ 100000) (hx : Kd.C kU w A0 data.length data) (h : ArenaIs w base ok g bm seed units []) :
    Calls Tryz.prog 32 #[.pointer (some ⟨g, 0, none⟩), .string s, .slice A0 data.length c0] w fun e w' => e = .returned (.int .i64 0) ∧ ArenaIs w' base (fun k => ok k ∨ w.heap.size ≤ k) g bm seed units [(s, data)] ∧ KeptE w w' (fun k => k = bm) := by
  have hreal := arena_real (by omega) h.2.2.2.1
  have hnm := named_any w s hs
  rw [hname] at hnm
  have hnd := fun W => need_any W s A0 data.length c0 hs hdl
  obtain ⟨n, hn⟩ : ∃ n, n = needI s data.length := ⟨_, rfl⟩
  rw [← hn] at hnd hneed
  have HT := Aside0.mk (fun (W : World) (hB : Below w.heap.size w W) => ((h.mono (fun k q _ => .inl q)).kept (KeptE.of_below hB (fun _ => False)) (fun _ _ h => h) : ArenaIs W base (fun k => ok k ∨ w.heap.size ≤ k) g bm seed units []))
  have HC := Aside0.mk (fun (w2 : World) (hB2 : Below w.heap.size w w2) => clone_any w2 A0 c0 data (Kd.C_below hx hB2) (by omega))
  have hn0 : 0 ≤ n := by rw [hn]; unfold needI; omega
  clear hn hx h
  go_enter Tryz.func32, Tryz.ntmps32
  go_upto_region 4 with (first | (go_at_call 66; refine hreal.mono ?_; rintro e w ⟨rfl, hw⟩; cases hw) | (go_at_call 68; refine hnm.mono ?_; rintro e w2 ⟨rfl, hB⟩) | (go_at_call 69; refine (hnd _).mono ?_; rintro e w3 ⟨rfl, hw⟩; cases hw))
  have hT2 := HT.out w2 hB
  have c2 : w2.cell? ⟨g, 2, none⟩ = some (.map (some bm)) := by rw [blk_cell hT2.2.2.2.1]; rfl
  obtain ⟨clock, hmap⟩ : ∃ clock, w2.heap[bm]? = some (.map #[] clock) := by
    obtain ⟨_, _, _, _, l, ⟨es, clock, hb, h1, _⟩, h6⟩ := hT2
    have hl : l = [] := by cases l with | nil => rfl | cons p l => exact h6.elim
    subst hl
    have he : es = #[] := by
      have : es.toList = [] := by simpa using h1
      exact Array.toList_eq_nil_iff.1 this
    subst he
    exact ⟨clock, hb⟩
  have hrg := run_range_map (P := Tryz.prog) w2 tObjs 9 tB bm #[] clock Tryz.underlying60 hmap
  obtain ⟨W3, hW3⟩ : ∃ W3, W3 = w2.alloc (.mapIter (some bm) clock #[] clock) := ⟨_, rfl⟩
  have hnx : ∀ ty, (Instr.next (.pointer (some ⟨w2.heap.size, 0, none⟩)) false ty).run Tryz.prog W3 = .ok (.tuple #[.bool false]) W3 := fun ty => by
    rw [hW3]
    rcases run_next_map (P := Tryz.prog) w2 ty bm clock clock #[] #[] clock hmap (fun x hx => by simp at hx) (Nat.le_refl _) with ⟨_, h⟩ | ⟨e, he, _⟩
    · exact h
    · simp [leftOf] at he
  have b3 : Below w.heap.size w W3 := by rw [hW3]; exact below_alloc hB _
  rw [← hW3] at hrg
  have hT3 := HT.out W3 b3
  have c3 : W3.cell? ⟨g, 2, none⟩ = some (.map (some bm)) := by rw [blk_cell hT3.2.2.2.1]; rfl
  have c4 : W3.cell? ⟨g, 1, none⟩ = some (.int .i64 units) := by rw [blk_cell hT3.2.2.2.1]; rfl
  have hcl := HC.out W3.drew b3.drew
  have HU := Aside0.mk (fun (w4 : World) (sv : Value) (hb : Buf w4 W3.drew.heap.size sv data) (hB4 : Below W3.drew.heap.size W3.drew w4) =>
    arena_store (w := w4) (HT.out w4 (below_then b3.drew b3.drew.size hB4)) s (Kd.R_mono (Kd.R_lower (Kd.R_bound hb) (Nat.le_trans hbase b3.size)) (fun k hk => ⟨.inr (Nat.le_trans b3.size hk.1), by have h1 := blk_lt hT3.2.2.2.1; have h2 : W3.heap.size ≤ k := hk.1; omega, by obtain ⟨l, h5, _⟩ := hT3.2.2.2.2; have h1 := h5.lt; have h2 : W3.heap.size ≤ k := hk.1; omega⟩)))
  have HB3 := Aside0.mk b3
  have e1 : IntKind.i64.wrap (n + 30) = n + 30 := IntWalk.i64_in _ (by omega)
  have t1 : ¬ units < n + 30 := by omega
  clear hT2 hT3 hW3 b3 hmap hB HC
  go_wp2_with (fail)
  go_loopg [7, 8, 9, 10] 0 (fun kq v7 v8 v9 v10 w' => v7 = .int .i64 n ∧ v8 = .int .i64 1 ∧ w' = W3)
  case atStart => exact ⟨rfl, rfl, rfl⟩
  case round =>
    obtain ⟨rfl, rfl, rfl⟩ := hrel
    go_upto_region 12 with (fail)
    go_region_held3 (fun w' => w'.cell? ⟨g, 2, none⟩ = some (.map (some bm))) (first | exact c3 | exact d4 | exact d5 | go_keep) (first | (go_at_call 48; refine hcl.mono ?_; rintro e w4 ⟨sv, rfl, hb, hB4⟩; obtain ⟨w5, hu5, hT5, hk5, _⟩ := HU.out w4 sv hb hB4; obtain ⟨A3, c5, rfl, _, _⟩ := hb.reads; have d4 : w4.cell? ⟨g, 2, none⟩ = some (.map (some bm)) := (by rw [blk_cell (HT.out w4 (below_then HB3.out.drew HB3.out.drew.size hB4)).2.2.2.1]; rfl); have d5 : w5.cell? ⟨g, 2, none⟩ = some (.map (some bm)) := (by rw [blk_cell hT5.2.2.2.1]; rfl); have HT5 := Aside0.mk (And.intro hT5 ((KeptE.of_below (below_then HB3.out.drew HB3.out.drew.size hB4) (fun k => k = bm)).then_ hk5 (fun k h => .inl h))); clear hb hB4 hT5 hk5))
    go_wp2
    go_ret
    exact ⟨rfl, HT5.out.1, HT5.out.2⟩
end Go.Proofs.YtkjplffpihfliaaGreatDoor
end
