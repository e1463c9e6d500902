/- Texts of this claim, merged by wip/merge.py: TWalk Places Bytes. -/
import Derived.Test.YtkjplffpihfliaaGreatDoorMFull8
import Derived.Laws.EntriesVeiled
import Derived.WalkMore
import Derived.Deep.QuietTactic
import Derived.BigQuiet
import Derived.Laws.CopyOwn
section
/- The walk of (*Tree).Image. -/
namespace Go.Proofs.YtkjplffpihfliaaGreatDoor
open Go.RowKit Go.Proofs.YtkjplffpihfliaaGreatDoorW.PrintWords PAll

/-- Between two rounds: the entries sn have come, and lie in the map at block M0. -/
def TImgAt (w W : World) (base : Nat) (ok : Nat → Prop) (g bm r : Nat) (seed : Int) (l : List (ByteArray × Value)) (t : List (ByteArray × NodeD)) (n : Nat) : Prop :=
  ∃ (sn : List (ByteArray × Value)) (td : List (ByteArray × NodeD)) (okm : Nat → Prop) (N : List Nat), SRng W bm r l sn ∧ sn.length = n ∧ td.map Prod.fst = sn.map Prod.fst ∧ (∀ q ∈ td, q ∈ t) ∧ IsMap W w.heap.size okm w.heap.size seed (Tr.puts seed (td.map trPair)) N ∧ Below w.heap.size w W ∧ w.heap.size < r ∧ (∀ i, okm i → i ≠ r)
theorem timg_notr {W : World} {B0 : Nat} {ok : Nat → Prop} {M r : Nat} {seed : Int} {T : Tr} {N : List Nat} (h : IsMap W B0 ok M seed T N) {o : Obj} (hr : W.heap[r]? = some o) (ho : ∀ c t, o ≠ .cells c t (0, 0)) : r ≠ M ∧ r ∉ N := by
  obtain ⟨p, hm, hT⟩ := h.root
  refine ⟨fun e => ?_, fun e => ?_⟩
  · rw [e, hm] at hr
    cases hr
    exact ho _ _ rfl
  · obtain ⟨_, cells, hc⟩ := hT.types r e
    rw [hc] at hr
    cases hr
    exact ho _ _ rfl
theorem srng_iter {w : World} {b r : Nat} {l sn : List (ByteArray × Value)} (h : SRng w b r l sn) : ∃ o, w.heap[r]? = some o ∧ ∀ c t, o ≠ .cells c t (0, 0) := by
  obtain ⟨es, clock, since, seen, c0, hb, q1, q2, q3, hr, rest⟩ := h
  exact ⟨_, hr, fun _ _ e => by cases e⟩

theorem timg_iter {w wr W1 : World} {bm r : Nat} {seed : Int} {l sn : List (ByteArray × Value)} {T : Tr} {okm : Nat → Prop} {N : List Nat} (h1 : SRng wr bm r l sn) (h2 : IsMap wr w.heap.size okm w.heap.size seed T N) (h3 : Below w.heap.size w wr) (h4 : w.heap.size < r) (h5 : ∀ i, okm i → i ≠ r) (hg : wr.grownBy W1 (some r)) :
    IsMap W1 w.heap.size okm w.heap.size seed T N ∧ Below w.heap.size w W1 := by
  obtain ⟨o, ho1, ho2⟩ := srng_iter h1
  obtain ⟨n1, n2⟩ := timg_notr h2 ho1 ho2
  have hk : Kept wr W1 (fun i => i = r) := Kept.of_grown hg (Kept.refl _ _) (fun k e => .inl (by cases e; rfl))
  exact ⟨h2.kept hk (fun i a b => absurd b (h5 i a)) (fun e => n1 e.symm) (fun i hi e => n2 (e ▸ hi)), pw_below_grown h3 _ h3.size hg (fun k e => by cases e; omega)⟩
theorem timg_step {w W1 W' W7 : World} {base : Nat} {ok : Nat → Prop} {g bm r n : Nat} {seed : Int} {l sn : List (ByteArray × Value)} {t td : List (ByteArray × NodeD)} {okm : Nat → Prop} {N N' : List Nat} {s : ByteArray} {v : Value} {d : NodeD}
    (h1 : SRng W1 bm r l (sn ++ [(s, v)])) (h2 : sn.length = n) (h3 : td.map Prod.fst = sn.map Prod.fst) (h4 : ∀ q ∈ td, q ∈ t) (hd : (s, d) ∈ t) (h5 : IsMap W1 w.heap.size okm w.heap.size seed (Tr.puts seed (td.map trPair)) N) (h7 : w.heap.size < r) (h8 : ∀ i, okm i → i ≠ r) (hbm : bm < w.heap.size)
    (hB : Below W1.heap.size W1 W') (hM : IsMap W7 w.heap.size (fun i => okm i ∨ W'.heap.size ≤ i) w.heap.size seed ((Tr.puts seed (td.map trPair)).put seed (trPair (s, d)).1 (trPair (s, d)).2 (coin seed 3 (trPair (s, d)).1)) N') (hB7 : Below w.heap.size w W7) (hk : Kept W' W7 (fun i => i = w.heap.size ∨ i ∈ N)) :
    TImgAt w W7 base ok g bm r seed l t (n + 1) := by
  obtain ⟨o, ho1, ho2⟩ := srng_iter h1
  obtain ⟨n1, n2⟩ := timg_notr h5 ho1 ho2
  have hrl := h1.lt.2
  have hN : ∀ i ∈ N, w.heap.size ≤ i := by
    obtain ⟨p, hm, hT⟩ := h5.root
    exact fun i hi => (hT.types i hi).1
  refine ⟨sn ++ [(s, v)], td ++ [(s, d)], fun i => okm i ∨ W'.heap.size ≤ i, N', ?_, by simp [h2], by simp [h3], fun q hq => ?_, ?_, hB7, h7, fun i hi => ?_⟩
  · exact (h1.kept (Kept.of_below hB (fun _ => False)) (fun h => h) (fun h => h)).kept hk (fun e => by rcases e with e | e; omega; have := hN bm e; omega) (fun e => by rcases e with e | e; exact n1 e; exact n2 e)
  · rcases List.mem_append.1 hq with hq | hq
    · exact h4 q hq
    · rw [List.mem_singleton.1 hq]; exact hd
  · rw [List.map_append, List.map_cons, List.map_nil, Tr.puts_snoc]
    exact hM
  · rcases hi with hi | hi
    · exact h8 i hi
    · have := hB.size; omega
set_option maxRecDepth 100000 in
set_option maxHeartbeats 2000000 in
theorem treeImage_any (w : World) (base : Nat) (ok : Nat → Prop) (g bm : Nat) (seed : Int) (t : List (ByteArray × NodeD)) (h : TreeIs w base ok g bm seed t) (hl : t.length ≤ 1000) (hk : ∀ p ∈ t, 1 ≤ p.1.size ∧ p.1.size ≤ 64) (hv : ∀ p ∈ t, p.2.2.length ≤ 900) (hby : ∀ p ∈ t, Byt p.2.2) :
    Calls Tryz.prog 16 #[.pointer (some ⟨g, 0, none⟩)] w fun e w' => ∃ v', e = .returned v' ∧ Buf w' w.heap.size v' (treeImg seed t) ∧ Below w.heap.size w w' := by
  have hreal := tree_real h.2.2.2.1
  have k1 : w.cell? ⟨g, 1, none⟩ = some (.int .u64 seed) := by rw [blk_cell h.2.2.2.1]; rfl
  have HT := Aside0.mk (fun (W : World) (hB : Below w.heap.size w W) => (h.kept (KeptE.of_below hB (fun _ => False)) (fun _ _ h => h) : TreeIs W base ok g bm seed t))
  obtain ⟨l, hS, hM⟩ := h.2.2.2.2
  have hbm := hS.lt
  have HM := Aside0.mk (fun (W : World) (hB : Below w.heap.size w W) => (⟨hS.kept (KeptE.of_below hB (fun _ => False)) (fun h => h), Match.imp (fun v d hn => hn.kept (KeptE.of_below hB (fun _ => False)) (fun _ _ h => h)) hM⟩ : SMap W bm l ∧ Match W base (fun k => ok k ∧ k ≠ g ∧ k ≠ bm) l t))
  have HKeys := Aside0.mk (match_keys hM)
  have HLen := Aside0.mk (Match.length hM)
  have HF := Aside0.mk (And.intro hl (And.intro hk (And.intro hv hby)))
  have HBM := Aside0.mk hbm
  have hnew := new_any w w (Below.refl _ _) seed
  clear h hS hM hk hv hby hl hbm
  go_enter Tryz.func16, Tryz.ntmps16
  go_upto_region 4 with (first | (go_at_call 49; refine hreal.mono ?_; rintro e w2 ⟨rfl, hw⟩; cases hw) | (go_at_call 52; refine hnew.mono ?_; rintro e w1 ⟨rfl, hm1, hB1⟩))
  have k2 : w1.cell? ⟨g, 2, none⟩ = some (.map (some bm)) := by rw [blk_cell (HT.out w1 hB1).2.2.2.1]; rfl
  obtain ⟨o, hrng, hs1⟩ := srng_start (P := Tryz.prog) (HM.out w1 hB1).1 tNodes 9 tNode Tryz.underlying63
  have hs0 : w.heap.size < w1.heap.size := by obtain ⟨p, hp, _⟩ := hm1.root; exact blk_lt hp
  have HS := Aside0.mk (show TImgAt w (w1.alloc o) base ok g bm w1.heap.size seed l t 0 from by
    obtain ⟨p, hp, hpt⟩ := hm1.root
    refine ⟨[], [], _, _, hs1, rfl, rfl, fun q hq => (by cases hq), IsMap.kept hm1 (Kept.of_below (below_alloc (Below.refl _ _) _) (fun _ => False)) (NoBytes.none _ _) (fun h => h) (fun _ _ h => h), below_alloc hB1 _, hs0, fun i hi => hi.elim⟩)
  clear hs1 hs0 hm1 hB1
  go_wp2_with (fail)
  go_loopg [4, 5, 6] l.length (fun kq v4 v5 v6 W => Aside0 (∃ n, n + kq = l.length ∧ TImgAt w W base ok g bm w1.heap.size seed l t n))
  case atStart => exact ⟨0, by omega, HS.out⟩
  case round =>
    obtain ⟨n, hn, sn, td, okm, N, q1, q2, q3, q4, q5, q6, q7, q8⟩ := hrel.out
    rcases srng_next (P := Tryz.prog) q1 with ⟨hp, hnx⟩ | ⟨p, hpl, hps, W1, hnx, hr1, hg1, hz1, hen⟩
    · have hpm : td.Perm t := perm_of_keys (by rw [q3, ← HKeys.out]; exact hp.map _) q4 (by rw [← HKeys.out]; exact q1.keysNodup)
      have hcn := Tr.puts_cnt seed (td.map trPair) .nil
      have hTb : (Tr.puts seed (td.map trPair)).Byts := by
        refine Tr.byts_iff.2 fun x hx => ?_
        have hkn : (td.map Prod.fst).Nodup := by rw [q3]; exact (hp.map _).nodup_iff.2 q1.keysNodup
        have hx' := ((Tr.puts_pairs seed (td.map trPair) .nil trivial (trPairs_byt td) (by simp [Tr.pairs]) (trPairs_apart hkn)).2.mem_iff (a := x)).1 hx
        rw [Tr.pairs, List.append_nil] at hx'
        obtain ⟨⟨s, f, d⟩, hq, rfl⟩ := List.mem_map.1 hx'
        refine ⟨bytesI_byt _, ?_⟩
        have hb := HF.out.2.2.2 _ (q4 _ hq)
        show Byt (if f then 1 :: d else [0])
        cases f with
        | false =>
          intro y hy
          have := List.mem_singleton.1 hy
          omega
        | true =>
          intro y hy
          rcases List.mem_cons.1 hy with h | h
          · omega
          · exact hb y h
      have himg := mimg_any wr w.heap.size okm w.heap.size seed _ N q5 hTb (by have h1 : td.length = t.length := hpm.length_eq; have h2 := HF.out.1; have h3 : (Tr.puts seed (td.map trPair)).cnt ≤ 0 + (td.map trPair).length := hcn; rw [List.length_map] at h3; omega)
      have HD := Aside0.mk (And.intro q6 (show (Tr.puts seed (td.map trPair)).image = treeImg seed t from treeImg_perm seed hpm (by rw [q3]; exact (hp.map _).nodup_iff.2 q1.keysNodup)))
      clear hp q1 q2 q3 q4 q5 q6 q7 q8 hrel hpm hcn hTb k1 k2 hrng
      go_wp2_with (go_at_call 54; refine himg.mono ?_; rintro e w9 ⟨v9, rfl, h9, hB9⟩; have H9 := Aside0.mk (And.intro h9 hB9); clear h9 hB9)
      go_ret
      refine ⟨_, rfl, ?_, below_then HD.out.1 HD.out.1.size H9.out.2⟩
      have := H9.out.1
      rw [HD.out.2] at this
      exact Buf.le this HD.out.1.size
    · obtain ⟨hI1, hB1⟩ := timg_iter q1 q5 q6 q7 q8 hg1
      obtain ⟨⟨f, d⟩, hd1, hd2⟩ := match_mem (HM.out W1 hB1).2 hpl
      obtain ⟨s, v⟩ := p
      obtain ⟨sv, hv1, hv2⟩ := hd2
      simp only at hd1 hv1
      subst hv1
      obtain ⟨A, c, rfl, hc, hC⟩ := Kd.R_reads hv2
      simp only at hv2 hC hc hnx hen hr1
      have hlen := hr1.length_le
      rw [List.length_append, List.length_singleton, q2] at hlen
      obtain ⟨gk, rfl⟩ : ∃ m, gk = m + 1 := ⟨gk - 1, by omega⟩
      have hcn := Tr.puts_cnt seed (td.map trPair) .nil
      have hcnt : (Tr.puts seed (td.map trPair)).cnt ≤ 90000 := by
        have h1 : (Tr.puts seed (td.map trPair)).cnt ≤ 0 + (td.map trPair).length := hcn
        have h2 : td.length = sn.length := by simpa using congrArg List.length q3
        have h3 := HLen.out
        have h4 := HF.out.1
        rw [List.length_map] at h1
        omega
      have HP := Aside0.mk (fun (W' : World) (hB : Below W1.heap.size W1 W') (A1 A2 : Option Addr) (c1 c2 : Nat) (k v : List Int) (e1 : Kd.C kU W' A1 k.length k) (e2 : k.length ≤ c1) (e3 : Kd.C kU W' A2 v.length v) (e4 : v.length ≤ c2) (e5 : 1 ≤ k.length) (e6 : k.length ≤ 64) (e7 : v.length ≤ 1000) =>
        mput_any w W' (below_then hB1 hB1.size hB) okm w.heap.size seed _ N (hI1.kept (Kept.of_below hB (fun _ => False)) (NoBytes.none _ _) (fun h => h) (fun _ _ h => h)) hcnt A1 A2 c1 c2 k v e1 e2 e3 e4 e5 e6 e7)
      have HQ := Aside0.mk (fun (W' W7 : World) (N' : List Nat) (hB : Below W1.heap.size W1 W') hM hB7 hk => timg_step (base := base) (ok := ok) (g := g) (N' := N') (d := (f, d)) (W' := W') (W7 := W7) hr1 q2 q3 q4 hd1 hI1 q7 q8 HBM.out hB hM hB7 hk)
      have HK := Aside0.mk (show 1 ≤ s.size ∧ s.size ≤ 64 from HF.out.2.1 _ hd1)
      have HV := Aside0.mk (show d.length ≤ 900 from HF.out.2.2.1 _ hd1)
      have HC := Aside0.mk (And.intro hc hC)
      clear hr1 hI1 q1 q2 q3 q4 q5 q6 q7 q8 hd1 hv2 hC hc hrel hlen hcn hcnt hg1 hz1 hpl hps hB1 k1 k2 hrng
      go_upto_region 8 with (fail)
      obtain ⟨W3, hW3⟩ : ∃ W3, W3 = (W1.alloc (.cells #[.bool f, .slice A d.length c] tNode)).alloc (.cells #[.int .u8 0] 5) := ⟨_, rfl⟩
      rw [← hW3]
      have b13 : Below W1.heap.size W1 W3 := by rw [hW3]; exact below_alloc (below_alloc (Below.refl _ _) _) _
      have v3 : W3.heap[W1.heap.size]? = some (.cells #[.bool f, .slice A d.length c] tNode (0, 0)) := by
        rw [hW3, Deep.blk_alloc_lt _ _ _ (by simp)]
        exact heap_alloc_new W1 _
      have e3 : Kd.C kU W3 (some ⟨W1.heap.size + 1, 0, none⟩) [(0 : Int)].length [0] := by
        rw [hW3]
        have := C_lit (W := W1.alloc (.cells #[.bool f, .slice A d.length c] tNode)) #[.int .u8 0] [0] rfl (by simp)
        simpa using this
      have k0 : W3.cell? ⟨W1.heap.size, 0, none⟩ = some (.bool f) := by rw [blk_cell v3]; rfl
      have k1 : W3.cell? ⟨W1.heap.size, 1, none⟩ = some (.slice A d.length c) := by rw [blk_cell v3]; rfl
      have k3 : (W3.alloc (.cells #[.int .u8 1] 5)).cell? ⟨W1.heap.size, 1, none⟩ = some (.slice A d.length c) := by
        rw [blk_cell (show (W3.alloc (.cells #[.int .u8 1] 5)).heap[W1.heap.size]? = _ from by rw [Deep.blk_alloc_lt _ _ _ (blk_lt v3)]; exact v3)]; rfl
      have H3 := Aside0.mk (And.intro b13 e3)
      clear hW3 b13 v3 e3 hnx hen hreal hnew
      cases f with
      | false =>
        obtain ⟨cap, W6, hcv, hB6, hcap, hC6⟩ := conv_C W3 s (by have := HK.out.2; omega)
        rw [bytesI_length] at hC6
        have hput := HP.out W6 (below_then H3.out.1 H3.out.1.size hB6) (some ⟨W3.heap.size, 0, none⟩) (some ⟨W1.heap.size + 1, 0, none⟩) cap 1 (bytesI s) [0] (by rw [bytesI_length]; exact hC6) (by rw [bytesI_length]; exact hcap) (Kd.C_below H3.out.2 hB6) (Nat.le_refl _) (by rw [bytesI_length]; exact HK.out.1) (by rw [bytesI_length]; exact HK.out.2) (by simp)
        rw [bytesI_length] at hput
        have HB6 := Aside0.mk hB6
        have HS6 := Aside0.mk (show s.size = s.size from rfl)
        clear hB6 hC6 hcap
        go_wp2_with (go_at_call 53; refine hput.mono ?_; rintro e W7 ⟨N', rfl, g1, g2, g3, g4⟩; have H7 := Aside0.mk (HQ.out W6 W7 N' (below_then H3.out.1 H3.out.1.size HB6.out) g1 g3 g4); clear g1 g2 g3 g4)
        go_roundg gk
        case measure => omega
        case rel => exact ⟨n + 1, by omega, H7.out⟩
      | true =>
        go_upto_region 10 with (at_builtin; refine buf_appendN (w0 := W3) rfl (.tmp 28) (.tmp 30) rfl _ [1] d A d.length c rfl rfl rfl (R_lit W3.heap.size _ #[.int .u8 1] [1] rfl (by simp) (Nat.le_refl _) (Nat.le_refl _)) (Kd.C_below HC.out.2 (below_alloc H3.out.1 _)) (below_alloc (Below.refl _ _) _) (by have := HV.out; simp; omega) ?_; intro v5 w5 h5 hB5 _)
        obtain ⟨A5, c5, rfl, hc5, hC5⟩ := h5.reads
        have hl5 : ([1] ++ d).length = d.length + 1 := by simp
        obtain ⟨L5, hL5⟩ : ∃ L5, L5 = [1] ++ d := ⟨_, rfl⟩
        rw [← hL5] at h5 hc5 hC5 hl5 ⊢
        obtain ⟨cap, W6, hcv, hB6, hcap, hC6⟩ := conv_C w5 s (by have := HK.out.2; omega)
        rw [bytesI_length] at hC6
        have hput := HP.out W6 (below_then H3.out.1 H3.out.1.size (below_then hB5 hB5.size hB6)) (some ⟨w5.heap.size, 0, none⟩) A5 cap c5 (bytesI s) L5 (by rw [bytesI_length]; exact hC6) (by rw [bytesI_length]; exact hcap) (Kd.C_below hC5 hB6) hc5 (by rw [bytesI_length]; exact HK.out.1) (by rw [bytesI_length]; exact HK.out.2) (by rw [hl5]; have := HV.out; omega)
        rw [bytesI_length] at hput
        have HB6 := Aside0.mk (below_then hB5 hB5.size hB6)
        have HL5 := Aside0.mk (show (bytesI s, L5) = trPair (s, (true, d)) by rw [hL5]; rfl)
        clear hB6 hC6 hcap hB5 h5 hC5 hc5 hL5 hl5
        go_wp2_with (go_at_call 53; refine hput.mono ?_; rintro e W7 ⟨N', rfl, g1, g2, g3, g4⟩; have H7 := Aside0.mk (HQ.out W6 W7 N' (below_then H3.out.1 H3.out.1.size HB6.out) (by rw [← HL5.out]; exact g1) g3 g4); clear g1 g2 g3 g4)
        go_roundg gk
        case measure => omega
        case rel => exact ⟨n + 1, by omega, H7.out⟩
end Go.Proofs.YtkjplffpihfliaaGreatDoor
end

section
/- Places of an arena of one object of one unit. -/
namespace Go.Proofs.YtkjplffpihfliaaGreatDoor
open Go.RowKit Go.Proofs.YtkjplffpihfliaaGreatDoorW.PrintWords PAll

abbrev tExt : Nat := 125
theorem infoBool : (Tryz.prog.info? 4).map (fun i => (i.zero, i.size, i.bytes)) = some (some (.bool false), 1, 1) := by kernel_rfl
abbrev kExt : Kd (ByteArray × (Int × Int)) := Kd.pair Kd.string (Kd.pair (Kd.int .i64) (Kd.int .i64))
theorem infoExt : (Tryz.prog.info? tExt).map (fun i => (i.zero, i.size, i.bytes)) = some (some (.agg #[.string ⟨#[]⟩, .int .i64 0, .int .i64 0]), 3, 32) := by kernel_rfl
theorem ext_M (w : World) (base : Nat) (ok : Nat → Prop) (s : ByteArray) (a b : Int) : kExt.M w base ok (s, (a, b)) [.string s, .int .i64 a, .int .i64 b] :=
  ⟨[.string s], _, rfl, rfl, [.int .i64 a], _, rfl, rfl, rfl⟩
set_option maxRecDepth 100000 in
set_option maxHeartbeats 2000000 in
theorem places1 (w : World) (base : Nat) (ok : Nat → Prop) (g bm : Nat) (seed : Int) (s : ByteArray) (data : List Int) (hs : s.size ≤ 100000) (hd : data.length ≤ 100000) (hneed : needI s data.length = 1) (h : ArenaIs w base ok g bm seed 64 [(s, data)]) :
    Calls Tryz.prog 34 #[.pointer (some ⟨g, 0, none⟩)] w fun e w' => ∃ x c, ∃ home : Nat, e = .returned (.slice (some ⟨x, 0, none⟩) 1 c) ∧ home < 64 ∧ w'.cell? ⟨x, 0, none⟩ = some (.string s) ∧ w'.cell? ⟨x, 1, none⟩ = some (.int .i64 home) ∧ w'.cell? ⟨x, 2, none⟩ = some (.int .i64 1) ∧ Below w.heap.size w w' := by
  have HT := Aside0.mk (fun (W : World) (hB : Below w.heap.size w W) => (h.kept (KeptE.of_below hB (fun _ => False)) (fun _ _ h => h) : ArenaIs W base ok g bm seed 64 [(s, data)]))
  have HR := Aside0.mk (fun (W : World) (hB : Below w.heap.size w W) => arena_real (by decide) (HT.out W hB).2.2.2.1)
  have HC := Aside0.mk (fun (W : World) (hB : Below w.heap.size w W) => (⟨by rw [blk_cell (HT.out W hB).2.2.2.1]; rfl, by rw [blk_cell (HT.out W hB).2.2.2.1]; rfl, by rw [blk_cell (HT.out W hB).2.2.2.1]; rfl⟩ : W.cell? ⟨g, 0, none⟩ = some (.int .u64 seed) ∧ W.cell? ⟨g, 1, none⟩ = some (.int .i64 64) ∧ W.cell? ⟨g, 2, none⟩ = some (.map (some bm))))
  clear h
  go_enter Tryz.func34, Tryz.ntmps34
  go_upto_region 4 with (go_at_call 66; refine (HR.out _ (below_alloc (Below.refl _ _) _)).mono ?_; rintro e w2 ⟨rfl, hw⟩; cases hw)
  obtain ⟨W1, hW1⟩ : ∃ W1, W1 = (w.alloc (.cells #[.pointer (some ⟨g, 0, none⟩)] 56)).alloc (.cells #[.func (.func 70) #[] #[.pointer (some ⟨w.heap.size, 0, none⟩)]] 116) := ⟨_, rfl⟩
  rw [← hW1]
  have b1 : Below w.heap.size w W1 := by rw [hW1]; exact below_alloc (below_alloc (Below.refl _ _) _) _
  have v1 : W1.heap[w.heap.size]? = some (.cells #[.pointer (some ⟨g, 0, none⟩)] 56 (0, 0)) := by
    rw [hW1, Deep.blk_alloc_lt _ _ _ (by simp)]
    exact heap_alloc_new w _
  have v2 : W1.heap[w.heap.size + 1]? = some (.cells #[.func (.func 70) #[] #[.pointer (some ⟨w.heap.size, 0, none⟩)]] 116 (0, 0)) := by
    rw [hW1]
    have := heap_alloc_new (w.alloc (.cells #[.pointer (some ⟨g, 0, none⟩)] 56)) (.cells #[.func (.func 70) #[] #[.pointer (some ⟨w.heap.size, 0, none⟩)]] 116)
    simpa using this
  have HV := Aside0.mk (fun (W : World) (hB : Below W1.heap.size W1 W) => (⟨by rw [blk_cell ((hB.block _ (blk_lt v1)).trans v1)]; rfl, by rw [blk_cell ((hB.block _ (blk_lt v2)).trans v2)]; rfl, below_then b1 b1.size hB, (HC.out W (below_then b1 b1.size hB)).1, (HC.out W (below_then b1 b1.size hB)).2.1, (HC.out W (below_then b1 b1.size hB)).2.2⟩ :
    W.cell? ⟨w.heap.size, 0, none⟩ = some (.pointer (some ⟨g, 0, none⟩)) ∧ W.cell? ⟨w.heap.size + 1, 0, none⟩ = some (.func (.func 70) #[] #[.pointer (some ⟨w.heap.size, 0, none⟩)]) ∧ Below w.heap.size w W ∧ W.cell? ⟨g, 0, none⟩ = some (.int .u64 seed) ∧ W.cell? ⟨g, 1, none⟩ = some (.int .i64 64) ∧ W.cell? ⟨g, 2, none⟩ = some (.map (some bm))))
  obtain ⟨k1, k2, k3, k4, k5, k6⟩ := HV.out W1 (Below.refl _ _)
  have hkeys := keysB_any W1 (some bm)
  have HS := Aside0.mk (show ∃ v, SMap W1 bm [(s, v)] by
    obtain ⟨_, _, _, _, l, h5, h6⟩ := HT.out W1 b1
    cases l with
    | nil => exact h6.elim
    | cons p l =>
      obtain ⟨k, v⟩ := p
      obtain ⟨rfl, _, h8⟩ := h6
      cases l with
      | nil => exact ⟨v, h5⟩
      | cons => exact h8.elim)
  have hsort : Calls Tryz.prog 72 #[keyFn 126 W1.heap.size, .func (.func 74) #[] #[.pointer (some ⟨w.heap.size + 1, 0, none⟩)]] (W1.alloc (.cells #[.map (some bm)] 60)) fun e w' => ∃ n c, e = .returned (.slice (some ⟨n, 0, none⟩) 1 c) ∧ Aside0 (w'.cell? ⟨n, 0, none⟩ = some (.string s) ∧ Below W1.heap.size W1 w') := by
    obtain ⟨v, hv⟩ := HS.out
    have hb := below_alloc (Below.refl W1.heap.size W1) (.cells #[.map (some bm)] 60)
    refine (sortedFunc1 (W1.alloc (.cells #[.map (some bm)] 60)) W1.heap.size bm s v _ hs (by rw [blk_cell (heap_alloc_new W1 _)]; rfl) (hv.kept (KeptE.of_below hb (fun _ => False)) (fun h => h))).mono ?_
    rintro e w' ⟨n, c, rfl, q1, q2, q3⟩
    exact ⟨n, c, rfl, ⟨q1, below_then hb hb.size q3⟩⟩
  clear hW1 v1 v2
  have HB1 := Aside0.mk b1
  clear b1
  go_upto_region 7 with (first | (go_at_call 73; refine hkeys.mono ?_; rintro e w2 ⟨rfl, hw⟩; subst hw) | (go_at_call 72; refine hsort.mono ?_; rintro e w3 ⟨nb, nc, rfl, hh⟩; obtain ⟨r1, r2, r3, r4, r5, r6⟩ := HV.out w3 hh.out.2) | (at_make; refine Kd.R_make Kd.bool (w0 := w3) w3.heap.size 4 rfl rfl _ _ _ rfl (64 : Int) rfl rfl Tryz.underlying123 _ 1 infoBool rfl (by decide) (by decide) false (ok := fun k => w3.heap.size ≤ k) (okp := fun _ => False) rfl (fun _ h => h.elim) (Nat.le_refl _) (by omega) (by decide) (Below.refl _ _) (Nat.le_refl _) ?_; intro tv w4 h1 hB hgr hb))
  obtain ⟨tb, hb1, hb2⟩ := hb
  obtain ⟨tc, rfl⟩ := R_shape h1 hb1
  obtain ⟨cur, hcur, hcs⟩ := R_cells h1
  have htk : ∀ j : Nat, j < 64 → w4.cell? ⟨tb, j, none⟩ = some (.bool false) := fun j hj => by
    have hr : ReadsOf Value.bool false w4 (some ⟨tb, 0, none⟩) (List.replicate 64 false).length (List.replicate 64 false) := Kd.reads_of_C (Kd.R_reads' h1).2.2
    obtain ⟨ad, e, hc⟩ := hr.2.2 (by simp)
    cases e
    have := hc j (by simpa using hj)
    rw [add_plain] at this
    rw [this, getD_lt (by simpa using hj), List.getElem_replicate]
  rw [List.length_replicate] at h1 ⊢
  have e64 : Int.toNat 64 = 64 := rfl
  rw [e64] at h1 ⊢
  clear e64
  have HT4 := Aside0.mk (And.intro hcur (And.intro hcs (And.intro hb2 (And.intro hB htk))))
  have HB4 := Aside0.mk (below_then hh.out.2 hh.out.2.size hB)
  obtain ⟨r1, r2, r3, r4, r5, r6⟩ := HV.out w4 HB4.out
  have htc : 64 ≤ tc := by obtain ⟨A, c, e, q, _⟩ := Kd.R_reads h1; injection e with _ _ e; rw [e]; simpa using q
  clear hb1 hb2 hcur hcs hB hgr h1 htk hkeys hsort r3 k1 k2 k3 k4 k5 k6
  go_wp2_with (fail)
  have d0 : w4.cell? ⟨nb, 0, none⟩ = some (.string s) := (HT4.out.2.2.2.1.cell (World.block_lt_of_cell? _ _ hh.out.1)).trans hh.out.1
  obtain ⟨A7, c7, hlk⟩ : ∃ A7 c7, (Instr.lookup tObjs (.map (some bm)) (.string s) false).run Tryz.prog w4 = .ok (.slice A7 data.length c7) w4 := by
    rcases arena_look (HT.out w4 (below_then HB1.out HB1.out.size HB4.out)) s with ⟨q, _⟩ | ⟨d, A, c, q, _, q2, _⟩
    · simp [sget] at q
    · simp [sget] at q
      subst q
      exact ⟨A, c, q2⟩
  have hnd := fun W => need_any W s A7 data.length c7 hs hd
  rw [hneed] at hnd
  have hco := fun (W : World) (hB : Below W1.heap.size W1 W) => coinS_any W w.heap.size g seed 1 s hs (HV.out W hB).1 (HV.out W hB).2.2.2.1
  obtain ⟨cn, hcn⟩ : ∃ cn, cn = coin seed 1 (bytesI s) := ⟨_, rfl⟩
  rw [← hcn] at hco
  have hcr := coin_range seed 1 (bytesI s) (by rw [bytesI_length]; omega)
  rw [← hcn] at hcr
  obtain ⟨hm, hhm⟩ : ∃ hm : Nat, hm = (cn % 64).toNat := ⟨_, rfl⟩
  have ht1 : cn.tmod 64 = hm := by rw [Int.tmod_eq_emod_of_nonneg hcr.1]; omega
  have ht2 : cn % 64 = hm := by omega
  have hm64 : (hm : Int) < 64 := by omega
  have e1 : IntKind.u64.wrap (hm : Int) = hm := by unfold IntKind.wrap; simp [IntKind.signed, IntKind.bits]; omega
  have e2 : IntKind.i64.wrap (hm : Int) = hm := IntWalk.i64_in _ (by omega)
  have HM := Aside0.mk hm64
  have ew : IntKind.u64.wrap 64 = 64 := by decide
  clear hcn hcr hhm
  refine wp_loop_rounds 2 ?_
  rw [rounds_succ]
  go_wp2_with (fail)
  go_step3
  go_upto_region 11 with (go_at_call 69; refine (hnd _).mono ?_; rintro e w5 ⟨rfl, hw⟩; cases hw)
  obtain ⟨W5, hW5⟩ : ∃ W5, W5 = w4.alloc (.cells #[.string s, .int .i64 0, .int .i64 1] tExt) := ⟨_, rfl⟩
  rw [← hW5]
  have b45 : Below w4.heap.size w4 W5 := by rw [hW5]; exact below_alloc (Below.refl _ _) _
  have v5 : W5.heap[w4.heap.size]? = some (.cells #[.string s, .int .i64 0, .int .i64 1] tExt (0, 0)) := by rw [hW5]; exact heap_alloc_new w4 _
  have b5 : Below W1.heap.size W1 W5 := below_then HB4.out HB4.out.size b45
  have H5 := Aside0.mk (And.intro b45 (And.intro v5 b5))
  obtain ⟨p1, p2, p3, p4, p5, p6⟩ := HV.out W5 b5
  have hco5 := hco W5.drew b5.drew
  have HKV := Aside0.mk (fun (w6 : World) (hB6 : Below W5.drew.heap.size W5.drew w6) => HV.out w6 (below_then b5.drew b5.drew.size hB6))
  clear hW5 b45 v5 b5 p3 p4 p6 hco d0 r1 r2 r4 r5 r6 hlk hnd
  go_region_held3 (fun w' => w'.cell? ⟨w.heap.size, 0, none⟩ = some (.pointer (some ⟨g, 0, none⟩)) ∧ w'.cell? ⟨w.heap.size + 1, 0, none⟩ = some (.func (.func 70) #[] #[.pointer (some ⟨w.heap.size, 0, none⟩)]) ∧ w'.cell? ⟨g, 1, none⟩ = some (.int .i64 64)) (first | exact ⟨p1, p2, p5⟩ | exact ⟨x1, x2, x5⟩ | go_keep) (first | (go_at_call 70; refine hco5.mono ?_; rintro e w6 ⟨rfl, hB6⟩; obtain ⟨x1, x2, x3, x4, x5, x6⟩ := HKV.out w6 hB6; have HB6 := Aside0.mk (And.intro hB6 x3); clear hB6 x3 x4 x6))
  go_wp2_with (fail)
  have y9 : w6.heap[w4.heap.size]? = some (.cells #[.string s, .int .i64 0, .int .i64 1] tExt (0, 0)) := (HB6.out.1.block _ (blk_lt H5.out.2.1)).trans H5.out.2.1
  have ytb : w6.heap[tb]? = some (.cells cur 4 (0, 0)) := (HB6.out.1.block _ (Nat.lt_of_lt_of_le (blk_lt HT4.out.1) H5.out.1.size)).trans ((H5.out.1.block _ (blk_lt HT4.out.1)).trans HT4.out.1)
  have yb : w6.cell? ⟨tb, hm, none⟩ = some (.bool false) := by rw [blk_cell ytb, ← blk_cell HT4.out.1]; exact HT4.out.2.2.2.2 hm (by omega)
  have yf := blk_frozen ytb hm
  have y0 : w6.cell? ⟨w4.heap.size, 0, none⟩ = some (.string s) := by rw [blk_cell y9]; rfl
  have y1 : w6.cell? ⟨w4.heap.size, 1, none⟩ = some (.int .i64 0) := by rw [blk_cell y9]; rfl
  have y2 : w6.cell? ⟨w4.heap.size, 2, none⟩ = some (.int .i64 1) := by rw [blk_cell y9]; rfl
  have yf1 := blk_frozen y9 1
  have hne : ¬ w4.heap.size = tb := by have := blk_lt HT4.out.1; omega
  have hne2 : ¬ tb = w4.heap.size := fun e => hne e.symm
  have e3 : IntKind.i64.wrap ((hm : Int) + 1) = (hm : Int) + 1 := IntWalk.i64_in _ (by omega)
  have ht3 : (hm : Int).tmod 64 = hm := by rw [Int.tmod_eq_emod_of_nonneg (by omega)]; omega
  have ht4 : (hm : Int) % 64 = hm := by omega
  have t1 : ¬ (64 : Int) < (hm : Int) + 1 := by omega
  have t2 : ¬ tc = hm := by omega
  have t3 : (hm : Int) + 1 ≤ tc := by omega
  have HY := Aside0.mk (And.intro y9 ytb)
  clear y9 ytb
  go_step3
  go_wp2_with (fail)
  refine wp_loop_rounds 1 ?_
  rw [rounds_succ]
  go_upto_region 16 with (fail)
  obtain ⟨W7, hW7⟩ : ∃ W7, W7 = w6.setCell ⟨w4.heap.size, 1, none⟩ (.int .i64 hm) := ⟨_, rfl⟩
  rw [← hW7]
  have z9 : W7.heap[w4.heap.size]? = some (.cells #[.string s, .int .i64 hm, .int .i64 1] tExt (0, 0)) := by rw [hW7]; exact blk_set HY.out.1 1 _
  have b67 : Below w4.heap.size w6 W7 := by rw [hW7]; exact (Below.refl _ _).setCell (p := ⟨w4.heap.size, 1, none⟩) (Nat.le_refl _) _
  have ztb : W7.heap[tb]? = some (.cells cur 4 (0, 0)) := (b67.block _ (blk_lt HT4.out.1)).trans HY.out.2
  have z46 : Below w4.heap.size w4 W7 := (below_then H5.out.1.drew H5.out.1.size HB6.out.1).trans b67
  have q0 : W7.cell? ⟨w4.heap.size, 0, none⟩ = some (.string s) := by rw [blk_cell z9]; rfl
  have q1 : W7.cell? ⟨w4.heap.size, 1, none⟩ = some (.int .i64 hm) := by rw [blk_cell z9]; rfl
  have q2 : W7.cell? ⟨w4.heap.size, 2, none⟩ = some (.int .i64 1) := by rw [blk_cell z9]; rfl
  have qb : W7.cell? ⟨tb, hm, none⟩ = some (.bool false) := by rw [blk_cell ztb, ← blk_cell HT4.out.1]; exact HT4.out.2.2.2.2 hm (by omega)
  have qf := blk_frozen ztb hm
  obtain ⟨q3, q4, q5, q6, q7, q8⟩ := HV.out W7 (below_then HB4.out HB4.out.size z46)
  have HZ := Aside0.mk (And.intro z9 (And.intro ztb z46))
  clear hW7 z9 ztb b67 z46 q5 q6 q8 y0 y1 y2 yf1 yb yf x1 x2 x5 hne hne2
  go_quiet (fail)
  go_upto_region 18 with (fail)
  refine wp_loop_rounds 2 ?_
  rw [rounds_succ]
  go_wp2_with (fail)
  rw [rounds_succ]
  go_wp2_with (fail)
  refine wp_loop_rounds 2 ?_
  rw [rounds_succ]
  go_wp2_with (fail)
  rw [rounds_succ]
  go_upto_region 28 with (fail)
  obtain ⟨W8, hW8⟩ : ∃ W8, W8 = (W7.drewN nq).setCell ⟨tb, hm, none⟩ (.bool true) := ⟨_, rfl⟩
  rw [← hW8]
  have b78 : Below w.heap.size W7 W8 := by rw [hW8]; exact (pw_below_drewN (Below.refl _ _) nq).setCell (p := ⟨tb, hm, none⟩) (Nat.le_trans HB1.out.size (Nat.le_trans hh.out.2.size HT4.out.2.2.1)) _
  have b08 : Below w.heap.size w W8 := (HV.out W7 (below_then HB4.out HB4.out.size HZ.out.2.2)).2.2.1.trans b78
  have z8 : W8.heap[w4.heap.size]? = some (.cells #[.string s, .int .i64 hm, .int .i64 1] tExt (0, 0)) := by
    rw [hW8, Deep.blk_setCell_other _ _ _ _ (by have := blk_lt HT4.out.1; show w4.heap.size ≠ tb; omega)]
    exact HZ.out.1
  have d8 : W8.cell? ⟨w4.heap.size, 0, none⟩ = some (.string s) := by rw [blk_cell z8]; rfl
  have d9 : W8.cell? ⟨w4.heap.size, 1, none⟩ = some (.int .i64 hm) := by rw [blk_cell z8]; rfl
  have d10 : W8.cell? ⟨w4.heap.size, 2, none⟩ = some (.int .i64 1) := by rw [blk_cell z8]; rfl
  have HB8 := Aside0.mk b08
  clear hW8 b78 b08 z8 q0 q1 q2 q3 q4 q7 qb qf
  go_upto_region 29 with (at_builtin; refine Kd.R_append kExt (w0 := w) (W := W8) w.heap.size rfl _ _ 70 tExt _ 32 rfl Tryz.underlying70 infoExt rfl (by decide) (by decide) _ [] (s, ((hm : Int), (1 : Int))) [.string s, .int .i64 hm, .int .i64 1] (fun k => w.heap.size ≤ k) (fun _ => False) rfl rfl (ext_M _ _ _ _ _ _) (fun _ h => h.elim) (fun k hk => Nat.le_trans HB8.out.size hk) (Kd.R_nil _ _ _ _ _) HB8.out HB8.out.size (by simp) ?_; intro v1 w9 h1 hB9 hg9 ha9)
  have HX : ∃ x c, v1 = .slice (some ⟨x, 0, none⟩) 1 c ∧ w9.cell? ⟨x, 0, none⟩ = some (.string s) ∧ w9.cell? ⟨x, 1, none⟩ = some (.int .i64 hm) ∧ w9.cell? ⟨x, 2, none⟩ = some (.int .i64 1) := by
    obtain ⟨A, c, rfl, _, hC⟩ := Kd.R_reads h1
    obtain ⟨ad, cc, hA, hcl, hK, hc⟩ := ReadsRow.get_ hC (s, ((hm : Int), (1 : Int))) (0 : Int) (by omega) (by simp)
    obtain ⟨x, rfl⟩ : ∃ x, ad = ⟨x, 0, none⟩ := by
      subst hA
      obtain ⟨x, hx⟩ := Kd.R_head h1
      exact ⟨x, hx⟩
    subst hA
    obtain ⟨a0, a1, rfl, k0, b0, b1, rfl, k1, k2⟩ := hK
    have k0' : a0 = [.string s] := k0
    have k1' : b0 = [.int .i64 hm] := k1
    have k2' : b1 = [.int .i64 1] := k2
    subst k0' k1' k2'
    refine ⟨x, c, rfl, ?_, ?_, ?_⟩
    · have := hc 0 _ rfl; rw [add_plain] at this; simpa using this
    · have := hc 1 _ rfl; rw [add_plain] at this; simpa using this
    · have := hc 2 _ rfl; rw [add_plain] at this; simpa using this
  obtain ⟨x, c, rfl, f0, f1, f2⟩ := HX
  have HE := Aside0.mk (And.intro f0 (And.intro f1 (And.intro f2 hB9)))
  have hst := fun W f => sort1_E W (some ⟨x, 0, none⟩) c f
  clear h1 hg9 ha9 f0 f1 f2 hB9 d8 d9 d10
  go_wp2_with (fail)
  rw [Exit.noGoto_normal]
  go_wp2_with (fail)
  rw [rounds_succ]
  go_wp2_with (go_at_call 78; refine (hst _ _).mono ?_; rintro e w10 ⟨rfl, hw⟩; cases hw)
  go_ret
  exact ⟨x, c, hm, rfl, by have := HM.out; omega, HE.out⟩
end Go.Proofs.YtkjplffpihfliaaGreatDoor
end

section
/- Bytes of an arena of one object of one unit: their number. -/
namespace Go.Proofs.YtkjplffpihfliaaGreatDoor
open Go.RowKit Go.Proofs.YtkjplffpihfliaaGreatDoorW.PrintWords PAll

theorem own_lit {W : World} (base : Nat) (cs : Array Value) (xs : List Int) (h : cs.toList = xs.map (Value.int .u8)) (hl : xs.length ≤ 100) (hb : base ≤ W.heap.size) :
    (W.alloc (.cells cs 5)).ownsRow base 5 1 (.slice (some ⟨W.heap.size, 0, none⟩) xs.length xs.length) xs.length (nums .u8 xs) := by
  refine ⟨by simp [nums], .inr ⟨W.heap.size, xs.length, cs, rfl, hb, heap_alloc_new W _, Nat.le_refl _, by unfold maxLen; omega, ?_, ?_⟩⟩
  · rw [← Array.length_toList, h]; simp
  · rw [h, List.take_of_length_le (by simp)]; rfl
theorem copy_fact {w : World} {base : Nat} {ok : Nat → Prop} {v : Value} {xs : List Int} (h : Kd.R kU 5 w base ok v xs) (hl : 0 < xs.length) :
    ∃ ad c, v = .slice (some ad) xs.length c ∧ ∀ (j : Nat) (u : Value), (xs.map (Value.int .u8))[j]? = some u → w.cell? (ad.add j) = some u := by
  obtain ⟨A, c, rfl, _, hC⟩ := Kd.R_reads h
  have hr : ReadsOf (Value.int .u8) 0 w A xs.length xs := Kd.reads_of_C hC
  obtain ⟨ad, rfl, hc⟩ := hr.2.2 hl
  refine ⟨ad, c, rfl, fun j u hu => ?_⟩
  have hj : j < xs.length := by have := (List.getElem?_eq_some_iff.1 hu).1; simpa using this
  rw [hc j hj]
  rw [List.getElem?_map, List.getElem?_eq_getElem hj] at hu
  rw [getD_lt hj]
  exact hu
theorem sizeU : (Tryz.prog.info? 5).map (·.size) = some 1 := by kernel_rfl
theorem copy_keep {w w9 w10 : World} {ob B7 : Nat} {cur : List Value} {v9 : Value} (h1 : w9.heap[ob]? = some (.cells cur.toArray 5 (0, 0))) (h2 : Below w.heap.size w w9) (h3 : ∀ k, v9.ownBlock = some k → B7 ≤ k) (hg : w9.grownBy w10 v9.ownBlock) (h4 : w.heap.size ≤ B7) (h5 : ob < B7) :
    w10.heap[ob]? = some (.cells cur.toArray 5 (0, 0)) ∧ Below w.heap.size w w10 :=
  ⟨(hg.block ob (blk_lt h1) (fun e => by have := h3 ob e.symm; omega)).trans h1, pw_below_grown h2 _ h2.size hg (fun k hk => Nat.le_trans h4 (h3 k hk))⟩
set_option maxRecDepth 100000 in
set_option maxHeartbeats 2000000 in
theorem bytes1 (w : World) (base : Nat) (ok : Nat → Prop) (g bm : Nat) (seed : Int) (s : ByteArray) (data : List Int) (hs : s.size ≤ 100000) (hd : data.length ≤ 100000) (hneed : needI s data.length = 1) (h : ArenaIs w base ok g bm seed 64 [(s, data)]) :
    Calls Tryz.prog 35 #[.pointer (some ⟨g, 0, none⟩)] w fun e w' => ∃ A c, e = .returned (.slice A 1024 c) ∧ Below w.heap.size w w' := by
  have HT := Aside0.mk (fun (W : World) (hB : Below w.heap.size w W) => (h.kept (KeptE.of_below hB (fun _ => False)) (fun _ _ h => h) : ArenaIs W base ok g bm seed 64 [(s, data)]))
  have hreal := arena_real (by decide) h.2.2.2.1
  have HC := Aside0.mk (fun (W : World) (hB : Below w.heap.size w W) => (⟨by rw [blk_cell (HT.out W hB).2.2.2.1]; rfl, by rw [blk_cell (HT.out W hB).2.2.2.1]; rfl⟩ : W.cell? ⟨g, 1, none⟩ = some (.int .i64 64) ∧ W.cell? ⟨g, 2, none⟩ = some (.map (some bm))))
  have HP := Aside0.mk (fun (W : World) (hB : Below w.heap.size w W) => places1 W base ok g bm seed s data hs hd hneed (HT.out W hB))
  have hsd : 3 + s.size + data.length ≤ 16 := by unfold needI at hneed; omega
  obtain ⟨k1, k2⟩ := HC.out w (Below.refl _ _)
  clear h
  go_enter Tryz.func35, Tryz.ntmps35
  go_upto_region 4 with (first | (go_at_call 66; refine hreal.mono ?_; rintro e w2 ⟨rfl, hw⟩; cases hw) | (at_make; refine Kd.R_make kU (w0 := w) w.heap.size 5 rfl rfl _ _ _ rfl (1024 : Int) rfl rfl Tryz.underlying31 _ 1 info5 rfl (by decide) (by decide) 0 (ok := fun k => w.heap.size ≤ k) (okp := fun _ => False) rfl (fun _ h => h.elim) (Nat.le_refl _) (by omega) (by decide) (Below.refl _ _) (Nat.le_refl _) ?_; intro ov w4 h1 hB hgr hb))
  obtain ⟨ob, hb1, hb2⟩ := hb
  obtain ⟨oc, rfl⟩ := R_shape h1 hb1
  obtain ⟨cur, hcur, hcs⟩ := R_cells h1
  rw [List.length_replicate] at h1 hcs ⊢
  have e64 : Int.toNat 1024 = 1024 := rfl
  rw [e64] at h1 hcs ⊢
  have hoc : 1024 ≤ oc := by obtain ⟨A, c, e, q, _⟩ := Kd.R_reads h1; injection e with _ _ e; rw [e]; simpa using q
  have hpl := HP.out w4 hB
  have H4 := Aside0.mk (And.intro hcur (And.intro hcs (And.intro hb2 hB)))
  clear e64 hcur hcs hb1 hb2 hB hgr h1 k1 k2
  go_upto_region 5 with (go_at_call 34; refine hpl.mono ?_; rintro e w5 ⟨x, xc, hm, rfl, hh, d0, d1, d2, hB5⟩)
  have hb5 : Below w.heap.size w w5 := below_then H4.out.2.2.2 H4.out.2.2.2.size hB5
  have hB5s := hB5.size
  have hob : w5.heap[ob]? = some (.cells cur 5 (0, 0)) := (hB5.block _ (blk_lt H4.out.1)).trans H4.out.1
  have H5 := Aside0.mk (And.intro hob (And.intro hb5 hB5s))
  have e1 : IntKind.u8.wrap (s.size : Int) = s.size := by show (s.size : Int) % 256 = _; omega
  obtain ⟨n, hn⟩ : ∃ n, n = s.size := ⟨_, rfl⟩
  rw [← hn] at e1
  have hn' : s.size = n := hn.symm
  obtain ⟨k16, hk⟩ : ∃ k16, k16 = hm * 16 := ⟨_, rfl⟩
  have e2 : IntKind.i64.wrap ((hm : Int) * 16) = (k16 : Int) := by rw [IntWalk.i64_in _ (by omega)]; omega
  have hkk : (k16 : Int) ≤ 1024 := by omega
  have hk16 : k16 + 16 ≤ 1024 := by omega
  have t1 : ¬ oc = k16 := by omega
  have HK := Aside0.mk (And.intro hk (And.intro hn (And.intro hoc (And.intro hk16 hsd))))
  clear hob hb5 hB5 hB5s hk hn hoc hpl hreal hneed hh hk16
  refine wp_loop_rounds 2 ?_
  rw [rounds_succ]
  go_upto_region 7 with (fail)
  obtain ⟨W6, hW6⟩ : ∃ W6, W6 = w5.alloc (.cells #[.string s, .int .i64 hm, .int .i64 1] tExt) := ⟨_, rfl⟩
  rw [← hW6]
  have b56 : Below w5.heap.size w5 W6 := by rw [hW6]; exact below_alloc (Below.refl _ _) _
  have b6 : Below w.heap.size w W6 := below_then H5.out.2.1 H5.out.2.1.size b56
  have v6 : W6.heap[w5.heap.size]? = some (.cells #[.string s, .int .i64 hm, .int .i64 1] tExt (0, 0)) := by rw [hW6]; exact heap_alloc_new w5 _
  have f0 : W6.cell? ⟨w5.heap.size, 0, none⟩ = some (.string s) := by rw [blk_cell v6]; rfl
  have f1 : W6.cell? ⟨w5.heap.size, 1, none⟩ = some (.int .i64 hm) := by rw [blk_cell v6]; rfl
  have f2 := (HC.out W6 b6).2
  obtain ⟨A7, c7, hlk, hC7⟩ : ∃ A7 c7, (Instr.lookup tObjs (.map (some bm)) (.string s) false).run Tryz.prog W6.drew = .ok (.slice A7 data.length c7) W6.drew ∧ Aside0 (Kd.C kU W6.drew A7 data.length data) := by
    rcases arena_look (HT.out W6.drew b6.drew) s with ⟨q, _⟩ | ⟨d, A, c, q, _, q2, q3⟩
    · simp [sget] at q
    · simp [sget] at q
      subst q
      exact ⟨A, c, q2, ⟨q3⟩⟩
  have H6 := Aside0.mk (And.intro b56 (And.intro v6 b6))
  clear hW6 b56 b6 v6 d0 d1 d2
  go_region
  obtain ⟨W7, hW7⟩ : ∃ W7, W7 = W6.drew := ⟨_, rfl⟩
  rw [← hW7] at hC7 ⊢
  have b7 : Below w.heap.size w W7 := by rw [hW7]; exact H6.out.2.2.drew
  have g0 : W7.cell? ⟨w5.heap.size, 0, none⟩ = some (.string s) := by rw [hW7]; exact f0
  have g1 : W7.cell? ⟨w5.heap.size, 1, none⟩ = some (.int .i64 hm) := by rw [hW7]; exact f1
  have b57 : Below w5.heap.size w5 W7 := by rw [hW7]; exact H6.out.1.drew
  have s57 : w5.heap.size < W7.heap.size := by rw [hW7]; exact blk_lt H6.out.2.1
  have HV7 : Aside0 (W7.heap[w5.heap.size]? = some (.cells #[.string s, .int .i64 hm, .int .i64 1] tExt (0, 0))) := ⟨by rw [hW7]; exact H6.out.2.1⟩
  have H7 := Aside0.mk (And.intro b7 (And.intro b57 s57))
  clear hW7 b7 b57 f0 f1 f2 hlk
  go_upto_region 9 with (at_builtin; refine print_append_str (w0 := W7) W7.heap.size rfl (.tmp 35) (.tmp 37) 31 9 5 rfl Tryz.underlying31 Tryz.underlying9 info5 _ [(n : Int)] s rfl rfl (own_lit _ _ _ rfl (by simp) (Nat.le_refl _)) ((Below.refl _ _).alloc (Nat.le_refl _) _) (by simp) (by simp; have := HK.out; omega) ?_; intro v8 w8 h8 hB8 hg8)
  have hR8 : Kd.R kU 5 w8 W7.heap.size (fun k => W7.heap.size ≤ k) v8 ([(n : Int)] ++ bytesOf s) := Kd.R_of_own h8 (fun _ hk => own_base h8 _ hk)
  have H8 := Aside0.mk (And.intro hR8 hB8)
  have hlen : ([(n : Int)] ++ bytesOf s).length = n + 1 := by simp [bytesOf_length]; omega
  have HL := Aside0.mk hlen
  clear h8 hB8 hg8 hR8 hlen g0 g1
  go_upto_region 10 with (at_builtin; refine ok_appendN (base := W7.heap.size) (ok := fun k => W7.heap.size ≤ k) rfl (.tmp 39) (.tmp 47) rfl v8 ([(n : Int)] ++ bytesOf s) [_, _] _ 2 2 rfl rfl rfl (Kd.R_alloc H8.out.1 _) (C_lit _ [_, _] rfl (by simp)) (fun k hk => Nat.le_trans H8.out.2.size (by simp at hk; omega)) (by have := H8.out.2.size; simp; omega) (by have := HL.out; have := HK.out; omega) ?_; intro v9 w9 h9 hg9)
  obtain ⟨L9, hL9⟩ : ∃ L9, L9 = [(n : Int)] ++ bytesOf s ++ [(data.length : Int) / 256, (data.length : Int)] := ⟨_, rfl⟩
  rw [← hL9] at h9
  have hl9 : L9.length = n + 3 := by rw [hL9, List.length_append, HL.out]; simp
  have b79 : Below W7.heap.size W7 w9 := pw_below_grown ((H8.out.2).alloc H8.out.2.size _) _ (by have := H8.out.2.size; simp; omega) hg9 (fun k hk => H8.out.1.1 k hk)
  have b9 : Below w.heap.size w w9 := below_then H7.out.1 H7.out.1.size b79
  have hob9 : w9.heap[ob]? = some (.cells cur.toList.toArray 5 (0, 0)) := by
    have h1 := H5.out.1
    have h2 := (H7.out.2.1.block _ (blk_lt h1)).trans h1
    have h3 := (b79.block _ (blk_lt h2)).trans h2
    simpa using h3
  have HV9 := Aside0.mk ((b79.block _ s57).trans HV7.out)
  have c51 : w9.cell? ⟨w5.heap.size, 1, none⟩ = some (.int .i64 hm) := by rw [blk_cell HV9.out]; rfl
  have hC9 := Kd.C_below hC7.out b79
  have hs9 := b79.size
  have HN := Aside0.mk (And.intro h9 (And.intro b9 (And.intro hob9 (And.intro hC9 (And.intro hl9 (And.intro b79 hs9))))))
  have HX10 := Aside0.mk (And.intro H7.out.1.size (And.intro (Nat.lt_of_lt_of_le (blk_lt H5.out.1) (Nat.le_of_lt s57)) s57))
  clear h9 b9 hob9 hC9 hl9 b79 hL9 hg9 hs9 s57
  go_region_law (first | (refine ok_appendN_step (base := W7.heap.size) (ok := fun k => W7.heap.size ≤ k) rfl (.tmp 54) (.tmp 55) rfl v9 L9 data A7 data.length c7 rfl rfl rfl ?ho ?hc ?hf ?hb ?hl ?_; (case ho => first | exact HN.out.1 | exact Kd.R_drew HN.out.1); (case hc => first | exact HN.out.2.2.2.1 | exact Kd.C_drew HN.out.2.2.2.1); (case hf => intro k hk; exact Nat.le_trans HN.out.2.2.2.2.2.2 hk); (case hb => exact HN.out.2.2.2.2.2.2); (case hl => have := HN.out.2.2.2.2.1; have := HK.out; omega); intro v10 w10 h10 hg10; (obtain ⟨ad10, c10, rfl, hx10⟩ := copy_fact h10 (by rw [List.length_append, HN.out.2.2.2.2.1]; omega); obtain ⟨L10, hL10⟩ : ∃ L10, L10 = L9 ++ data := ⟨_, rfl⟩; rw [← hL10] at h10 hx10 ⊢; have H10 : Aside0 (w10.heap[ob]? = some (.cells cur.toList.toArray 5 (0, 0)) ∧ Below w.heap.size w w10) := (by first | exact ⟨copy_keep HN.out.2.2.1 HN.out.2.1 HN.out.1.1 hg10 HX10.out.1 HX10.out.2.1⟩ | exact ⟨copy_keep (w9 := w9.drew) HN.out.2.2.1 HN.out.2.1.drew HN.out.1.1 hg10 HX10.out.1 HX10.out.2.1⟩); have c52 : w10.cell? ⟨w5.heap.size, 1, none⟩ = some (.int .i64 hm) := (by have hne : some w5.heap.size ≠ v9.ownBlock := fun e => (by have := HN.out.1.1 _ e.symm; have := HX10.out.2.2; omega); first | (rw [blk_cell ((hg10.block _ (blk_lt HV9.out) hne).trans HV9.out)]; rfl)); have hl10 : L10.length = n + 3 + data.length := (by rw [hL10, List.length_append, HN.out.2.2.2.2.1]); have H11 := Aside0.mk (And.intro hx10 hl10); clear h10 hx10 hg10 hL10 hl10)) | ((have hcn : (L10.map (Value.int .u8)).length = Nat.min L10.length (1024 - k16) := (by rw [List.length_map]; exact (Nat.min_eq_left (by have := H11.out.2; have := HK.out; omega)).symm); have hcf : k16 + (L10.map (Value.int .u8)).length ≤ cur.toList.length := (by rw [List.length_map]; have := H11.out.2; have := HK.out; have h0 : 1024 * 1 ≤ cur.size := H4.out.2.1; have h1 : cur.toList.length = cur.size := Array.length_toList; omega); have hc1 : ∀ v ∈ L10.map (Value.int .u8), v.oneCell' = true := (fun v hv => (by obtain ⟨x, _, rfl⟩ := List.mem_map.1 hv; rfl))); ((refine step_copy_splice rfl (.tmp 53) (.tmp 56) 31 31 rfl 5 Tryz.underlying31 sizeU (some ⟨ob, k16, none⟩) (some ad10) (1024 - k16) (oc - k16) L10.length c10 rfl rfl ob k16 cur.toList 5 H10.out.1 (L10.map (Value.int .u8)) hcn (fun _ => ⟨rfl, _, rfl, H11.out.1⟩) hcf hc1 w.heap.size w H10.out.2 H4.out.2.2.1 ?_)); intro w11 hh11 hB11) | fail)
  all_goals
    go_wp2_with (fail)
    rw [rounds_succ]
    go_wp2_with (fail)
    go_ret
    exact ⟨_, _, rfl, hB11⟩
end Go.Proofs.YtkjplffpihfliaaGreatDoor
end
