/- Texts of this claim, merged by wip/merge.py: Ord7 Ord8 Ord9 Ord10 ShJoin. -/
import Derived.Test.YtkjplffpihfliaaGreatDoorMFull5
import Derived.Test.YtkjplffpihfliaaGreatDoorMFull2
import Derived.Deep.DeepCutAuto
import Derived.Deep.CutBlock
import Derived.Shelf.Small.Bits
import Derived.Shelf.Small.Strs
import Derived.Shelf.Utf8.RuneCount
import Derived.Shelf.Strconv.Itoa0
import Derived.Shelf.Strings.Search1
import Derived.Shelf.Strings.Search2
import Derived.Shelf.Strings.Search3
import Derived.Shelf.Strings.Count
import Derived.Shelf.LaysM
import Derived.Shelf.Strings.Shaped
import Derived.Shelf.Sort.Plain
import Derived.Shelf.Strings.LastIndex
import Derived.Shelf.Strings.Prefix
import Derived.Shelf.Strings.Split
import Derived.Shelf.Strings.SplitShaped
import Derived.Shelf.Unicode.Decode
import Derived.Shelf.Strings.RuneCount
import Derived.Shelf.Strings.Explode
import Derived.Shelf.Unicode.DecodeSlow
import Derived.Shelf.Unicode.DecodeAny
import Derived.Ground.Names2Prog
import Derived.Shelf.Slices.SearchI
import Derived.Shelf.Slices.In.SortNone
import Derived.Shelf.Bytes.SlSearch0
import Derived.Ground.SlbNamesProg
import Derived.Shelf.Bytes.SlJoin
import Derived.Ground.PaProg
import Derived.Shelf.Path.Small
import Derived.Shelf.Bytes.Small
import Derived.Test.YtkjplffpihfliaaGreatDoorProg
section
/- The contract of order.put. -/
namespace Go.Proofs.YtkjplffpihfliaaGreatDoor
open Go.RowKit Go.Proofs.YtkjplffpihfliaaGreatDoorW.PrintWords PAll

namespace Tr
def put (seed : Int) (k v : List Int) (h : Int) : Tr → Tr
  | .nil => fresh seed k v h .nil .nil
  | .node k' v' h' l r sz dg =>
    if cmpI k k' = 0 then fresh seed k' v h' l r
    else if aboveB h k h' k' = true then fresh seed k v h ((Tr.node k' v' h' l r sz dg).split seed k).1 ((Tr.node k' v' h' l r sz dg).split seed k).2
    else if cmpI k k' < 0 then fresh seed k' v' h' (l.put seed k v h) r
    else fresh seed k' v' h' l (r.put seed k v h)
theorem cnt_put (seed : Int) (k v : List Int) (h : Int) : ∀ T : Tr, (T.put seed k v h).cnt ≤ T.cnt + 1
  | .nil => by simp [put, fresh, cnt]
  | .node k' v' h' l r sz dg => by
    have e1 := cnt_put seed k v h l
    have e2 := cnt_put seed k v h r
    have e3 := cnt_split seed k (.node k' v' h' l r sz dg)
    simp only [put]
    split
    · simp [fresh, cnt]
    · split
      · simp only [cnt] at e3; simp only [fresh, cnt]; omega
      · split <;> simp [fresh, cnt] <;> omega
theorem Ok.put {seed : Int} {k v : List Int} {h : Int} (h1 : k.length ≤ 64) (h2 : v.length ≤ 1000) : ∀ {T : Tr}, T.Ok → (T.put seed k v h).Ok
  | .nil, _ => Ok.fresh h1 h2 trivial trivial
  | .node k' v' h' l r sz dg, hT => by
    obtain ⟨g1, g2, g3, g4, g5⟩ := id hT
    simp only [Tr.put]
    split
    · exact Ok.fresh g1 h2 g4 g5
    · split
      · exact Ok.fresh h1 h2 (Ok.split seed k hT).1 (Ok.split seed k hT).2
      · split
        · exact Ok.fresh g1 g2 (Ok.put h1 h2 g4) g5
        · exact Ok.fresh g1 g2 g4 (Ok.put h1 h2 g5)
end Tr

set_option maxRecDepth 100000 in
theorem put_any (w0 : World) (ok : Nat → Prop) (bm bx : Nat) (seed : Int) (root : Option Addr) (kvx vvx : Value) (k v : List Int) (h sx dx : Int) (hbx : w0.heap.size ≤ bx) (hkl : k.length ≤ 64) (hvl : v.length ≤ 1000) (T : Tr) :
    ∀ (w : World) (p : Option Addr) (N : List Nat) (hB : Below w0.heap.size w0 w) (hm : w.heap[bm]? = some (mapObj seed root)) (hx : w.heap[bx]? = some (nodeObj kvx vvx h none none sx dx))
    (hkx : BytesAt w w0.heap.size ok kvx k) (hvx : BytesAt w w0.heap.size ok vvx v) (hT : IsTree w w0.heap.size ok p T N) (hN : N.Nodup) (hxN : bx ∉ N) (hOk : T.Ok) (hc : T.cnt ≤ 900000),
    Calls Tryz.prog 114 #[.pointer (some ⟨bm, 0, none⟩), .pointer p, .pointer (some ⟨bx, 0, none⟩)] w fun e w' => ∃ p' N', e = .returned (.pointer p') ∧
      IsTree w' w0.heap.size ok p' (T.put seed k v h) N' ∧ N'.Nodup ∧ (∀ i ∈ N', i ∈ N ∨ i = bx) ∧ Below w0.heap.size w0 w' ∧ Kept w w' (fun i => i ∈ N ∨ i = bx) := by
  induction T with
  | nil =>
    intro w p N hB hm hx hkx hvx hT hN hxN hOk hc
    obtain ⟨rfl, rfl⟩ := hT
    have hf := fresh_tree w0 w hB ok bm bx seed root kvx vvx k v h sx dx .nil .nil none none [] [] hm hbx hx hkx hvx ⟨rfl, rfl⟩ ⟨rfl, rfl⟩ hkl hvl trivial trivial (by simp [Tr.cnt]) (by simp [Tr.cnt]) (by simp) (by simp)
    clear hx hkx hvx hm hB
    go_enter Tryz.func114, Tryz.ntmps114
    go_wp2_with fail
    refine hf.mono ?_
    rintro e w1 ⟨rfl, h1, h2, h3⟩
    have HQ := Aside0.mk (And.intro h1 (And.intro h2 h3))
    clear hf h1 h2 h3
    go_wp2
    go_ret
    exact ⟨_, _, rfl, HQ.out.1, by simp, by simp, HQ.out.2.1, HQ.out.2.2.mono (fun i hi => .inr hi)⟩
  | node k' v' h' l r sz dg ihl ihr =>
    intro w p N hB hm hx hkx hvx hT hN hxN hOk hc
    have hT0 := hT
    have hOk0 := hOk
    obtain ⟨b, kv, vv, pl, pr, Nl, Nr, rfl, hb, hblk, h1, h2, h3, h4, rfl⟩ := hT
    obtain ⟨Ax, cx, rfl, hcx, hrx⟩ := Kd.R_reads hkx
    obtain ⟨Av, cv, rfl, _, _⟩ := Kd.R_reads hvx
    obtain ⟨A1, c1, rfl, hc1, hr1⟩ := Kd.R_reads h1
    obtain ⟨hkl', hvl', hsz, hol, hor⟩ := hOk
    simp only [Tr.cnt] at hc
    have hcmp := fun n => compare_any (w.drewN n) Ax A1 cx c1 k k' (Kd.C_drewN hrx n) (Kd.C_drewN hr1 n)
    have habv := fun (n : Nat) => above_any (w.drewN n) bx b Ax A1 cx c1 _ vv h h' sx sz dx dg none none pl pr k k' hx hblk (Kd.C_drewN hrx n) (Kd.C_drewN hr1 n)
    obtain ⟨x0, x1, _, x3, x4, _, _, xf⟩ := node_cells hx
    obtain ⟨y0, y1, _, y3, y4, _, _, yf⟩ := node_cells hblk
    have hNd := List.nodup_cons.1 hN
    have hNa := List.nodup_append.1 hNd.2
    have hbr : b ∉ Nr := fun hi => hNd.1 (by simp [hi])
    have hbl : b ∉ Nl := fun hi => hNd.1 (by simp [hi])
    simp only [List.mem_cons, List.mem_append, not_or] at hxN
    by_cases e0 : cmpI k k' = 0
    · have e1 : (Tr.node k' v' h' l r sz dg).put seed k v h = Tr.fresh seed k' v h' l r := by simp [Tr.put, e0]
      rw [e1]
      have n2 := noBytes_node (ok := ok) hblk
      have ks := kept_set (w := w) (b := b) (j := 1) (.slice Av v.length cv)
      have FIN := fun (n : Nat) => fresh_tree w0 ((w.setCell ⟨b, 1, none⟩ (.slice Av v.length cv)).drewN n) (pw_below_drewN (hB.setCell (p := ⟨b, 1, none⟩) hb _) n) ok bm b seed root _ _ k' v h' sz dg l r pl pr Nl Nr
        (map_kept hm (ks.drewN n) (node_ne_map hblk hm)) hb (blk_set hblk 1 _) (h1.kept (ks.drewN n) n2) (hvx.kept (ks.drewN n) n2)
        (h3.kept (ks.drewN n) n2 (fun i hi e => hbl (e ▸ hi))) (h4.kept (ks.drewN n) n2 (fun i hi e => hbr (e ▸ hi))) hkl' hvl hol hor (by omega) (by omega) hbl hbr
      have e2 : (cmpI k k' == 0) = true := by simp [e0]
      have f1 := yf 1
      clear hT0 ihl ihr hc e1 h1 h2 h3 h4 hNa hr1 hm hx hkx hvx hrx habv hB hblk e0 xf yf
      go_enter Tryz.func114, Tryz.ntmps114
      go_wp2_with fail
      go_quiet ((go_at_call 156; exact quiet_left (hcmp _)))
      go_wp2_with fail
      refine (FIN nq).mono ?_
      rintro e w2 ⟨rfl, q1, q2, q3⟩
      have HQ := Aside0.mk (And.intro q1 (And.intro q2 (((ks.drewN nq).then_ q3 (fun i hi => .inl hi)).mono (S' := fun i => i ∈ b :: (Nl ++ Nr) ∨ i = bx) (fun i hi => .inl (by simp [hi])))))
      clear FIN q1 q2 q3 ks hcmp
      go_wp2
      go_ret
      exact ⟨_, _, rfl, HQ.out.1, hN, fun i hi => .inl hi, HQ.out.2.1, HQ.out.2.2⟩
    · have ez : (cmpI k k' == 0) = false := by simp [e0]
      by_cases ea : aboveB h k h' k' = true
      · have e1 : (Tr.node k' v' h' l r sz dg).put seed k v h = Tr.fresh seed k v h ((Tr.node k' v' h' l r sz dg).split seed k).1 ((Tr.node k' v' h' l r sz dg).split seed k).2 := by simp only [Tr.put]; rw [if_neg e0, if_pos ea]
        rw [e1]
        rw [ea] at habv
        have nN := hT0.noBytes (ok' := ok)
        have hxN' : bx ∉ b :: (Nl ++ Nr) := by simp [hxN]
        have hspl := fun (n : Nat) => split_any w0 ok bm seed root k Ax cx (Tr.node k' v' h' l r sz dg) (w.drewN n) (some ⟨b, 0, none⟩) (b :: (Nl ++ Nr)) (pw_below_drewN hB n) hm (hT0.drewN n) hN hOk0 (by simp only [Tr.cnt]; omega)
          (fun W hW => (Kd.R_reads' (hkx.kept (((Kept.refl w (fun i => i ∈ b :: (Nl ++ Nr))).drewN n).then_ hW (fun i hi => .inl hi)) nN)).2.2)
        have hcn := Tr.cnt_split seed k (Tr.node k' v' h' l r sz dg)
        simp only [Tr.cnt] at hcn
        have hos := Tr.Ok.split seed k hOk0
        have FIN : ∀ (w1 : World) (p1 p2 : Option Addr) (N1 N2 : List Nat), IsTree w1 w0.heap.size ok p1 ((Tr.node k' v' h' l r sz dg).split seed k).1 N1 → IsTree w1 w0.heap.size ok p2 ((Tr.node k' v' h' l r sz dg).split seed k).2 N2 → (N1 ++ N2).Perm (b :: (Nl ++ Nr)) → Below w0.heap.size w0 w1 → Kept w w1 (fun i => i ∈ b :: (Nl ++ Nr)) →
            w1.cell? ⟨bx, 3, none⟩ = some (.pointer none) ∧ w1.cell? ⟨bx, 4, none⟩ = some (.pointer none) ∧ (w1.setCell ⟨bx, 3, none⟩ (.pointer p1)).cell? ⟨bx, 4, none⟩ = some (.pointer none) ∧ w1.frozen? ⟨bx, 3, none⟩ = false ∧ w1.frozen? ⟨bx, 4, none⟩ = false ∧
            Calls Tryz.prog 158 #[.pointer (some ⟨bm, 0, none⟩), .pointer (some ⟨bx, 0, none⟩)] ((w1.setCell ⟨bx, 3, none⟩ (.pointer p1)).setCell ⟨bx, 4, none⟩ (.pointer p2)) fun e w' =>
              e = .returned (.pointer (some ⟨bx, 0, none⟩)) ∧ ∃ N3, IsTree w' w0.heap.size ok (some ⟨bx, 0, none⟩) (Tr.fresh seed k v h ((Tr.node k' v' h' l r sz dg).split seed k).1 ((Tr.node k' v' h' l r sz dg).split seed k).2) N3 ∧ N3.Nodup ∧ (∀ i ∈ N3, i ∈ b :: (Nl ++ Nr) ∨ i = bx) ∧ Below w0.heap.size w0 w' ∧ Kept w w' (fun i => i ∈ b :: (Nl ++ Nr) ∨ i = bx) := by
          intro w1 p1 p2 N1 N2 g1 g2 g3 g4 g5
          have hx1 : w1.heap[bx]? = some (nodeObj (.slice Ax k.length cx) (.slice Av v.length cv) h none none sx dx) := (g5.2 bx (blk_lt hx) hxN').trans hx
          obtain ⟨_, _, _, u3, u4, _, _, uf⟩ := node_cells hx1
          obtain ⟨_, _, _, _, u5, _, _, _⟩ := node_cells (node_set3 hx1 p1)
          have n2 := noBytes_node (ok := ok) hx1
          have hb1 : bx ∉ N1 := fun hi => hxN' (g3.mem_iff.1 (by simp [hi]))
          have hb2 : bx ∉ N2 := fun hi => hxN' (g3.mem_iff.1 (by simp [hi]))
          have ks : Kept w1 ((w1.setCell ⟨bx, 3, none⟩ (.pointer p1)).setCell ⟨bx, 4, none⟩ (.pointer p2)) (fun i => i = bx) := (kept_set (w := w1) (b := bx) (j := 3) (.pointer p1)).then_ (kept_set (.pointer p2)) (fun i hi => .inl hi)
          refine ⟨u3, u4, u5, uf 3, uf 4, ?_⟩
          refine (fresh_tree w0 _ ((g4.setCell (p := ⟨bx, 3, none⟩) hbx _).setCell (p := ⟨bx, 4, none⟩) hbx _) ok bm bx seed root _ _ k v h sx dx _ _ p1 p2 N1 N2 (map_kept (map_kept hm g5 (hT0.ne_map hm)) ks (node_ne_map hx hm)) hbx (node_set4 (node_set3 hx1 p1) p2)
            ((hkx.kept g5 nN).kept ks n2) ((hvx.kept g5 nN).kept ks n2) (g1.kept ks n2 (fun i hi e => hb1 (e ▸ hi))) (g2.kept ks n2 (fun i hi e => hb2 (e ▸ hi))) hkl hvl hos.1 hos.2 (by omega) (by omega) hb1 hb2).mono ?_
          rintro e w' ⟨he, q1, q2, q3⟩
          refine ⟨he, bx :: (N1 ++ N2), q1, ?_, ?_, q2, ?_⟩
          · exact List.nodup_cons.2 ⟨fun hi => hxN' (g3.mem_iff.1 hi), g3.nodup_iff.2 hN⟩
          · intro i hi
            rcases List.mem_cons.1 hi with rfl | hi
            · exact .inr rfl
            · exact .inl (g3.mem_iff.1 hi)
          · exact ((g5.mono (S' := fun i => i ∈ b :: (Nl ++ Nr) ∨ i = bx) (fun i hi => .inl hi)).then_ ks (fun i hi => .inl (.inr hi))).then_ q3 (fun i hi => .inl (.inr hi))
        have HF := Aside0.mk FIN
        have HKw := Aside0.mk (fun n => (Kept.refl w (fun i => i ∈ b :: (Nl ++ Nr))).drewN n)
        clear FIN hT0 ihl ihr hc e1 h1 h2 h3 h4 hNa hr1 hm hx hkx hvx hrx hB hblk e0 xf yf ea hcn hos nN hOk0 hN hNd hsz
        go_enter Tryz.func114, Tryz.ntmps114
        go_wp2_with fail
        go_quiet ((go_at_call 156; exact quiet_left (hcmp _)))
        go_wp2_with fail
        refine (habv nq).mono ?_
        rintro e w' ⟨rfl, m, rfl⟩
        go_wp2_with fail
        refine (hspl (nq + m)).mono ?_
        rintro e w1 ⟨p1, p2, N1, N2, rfl, g1, g2, g3, g4, g5⟩
        obtain ⟨z1, z2, z3, z4, z5, hfr⟩ := HF.out w1 p1 p2 N1 N2 g1 g2 g3 g4 ((HKw.out (nq + m)).then_ g5 (fun i hi => .inl hi))
        clear hspl g1 g2 g3 g4 g5 HF hcmp habv HKw
        go_wp2_with fail
        refine hfr.mono ?_
        rintro e w2 ⟨rfl, N3, q1, q2, q3, q4, q5⟩
        have HQ := Aside0.mk (And.intro q1 (And.intro q2 (And.intro q3 (And.intro q4 q5))))
        clear hfr q1 q2 q3 q4 q5
        go_wp2
        go_ret
        exact ⟨_, N3, rfl, HQ.out.1, HQ.out.2.1, HQ.out.2.2.1, HQ.out.2.2.2.1, HQ.out.2.2.2.2⟩
      · have ea' : aboveB h k h' k' = false := by simpa using ea
        rw [ea'] at habv
        by_cases hlt : cmpI k k' < 0
        · have e1 : (Tr.node k' v' h' l r sz dg).put seed k v h = Tr.fresh seed k' v' h' (l.put seed k v h) r := by simp only [Tr.put]; rw [if_neg e0, if_neg ea, if_pos hlt]
          rw [e1]
          have hrec := fun (n : Nat) => ihl (w.drewN n) pl Nl (pw_below_drewN hB n) hm hx (Kd.R_drewN hkx n) (Kd.R_drewN hvx n) (h3.drewN n) hNa.1 hxN.2.1 hol (by omega)
          have FIN : ∀ (w1 : World) (p1 : Option Addr) (N1 : List Nat), IsTree w1 w0.heap.size ok p1 (l.put seed k v h) N1 → N1.Nodup → (∀ i ∈ N1, i ∈ Nl ∨ i = bx) → Below w0.heap.size w0 w1 → Kept w w1 (fun i => i ∈ Nl ∨ i = bx) →
              w1.cell? ⟨b, 3, none⟩ = some (.pointer pl) ∧ w1.frozen? ⟨b, 3, none⟩ = false ∧
              Calls Tryz.prog 158 #[.pointer (some ⟨bm, 0, none⟩), .pointer (some ⟨b, 0, none⟩)] (w1.setCell ⟨b, 3, none⟩ (.pointer p1)) fun e w' =>
                e = .returned (.pointer (some ⟨b, 0, none⟩)) ∧ ∃ N3, IsTree w' w0.heap.size ok (some ⟨b, 0, none⟩) (Tr.fresh seed k' v' h' (l.put seed k v h) r) N3 ∧ N3.Nodup ∧ (∀ i ∈ N3, i ∈ b :: (Nl ++ Nr) ∨ i = bx) ∧ Below w0.heap.size w0 w' ∧ Kept w w' (fun i => i ∈ b :: (Nl ++ Nr) ∨ i = bx) := by
            intro w1 p1 N1 g1 g2 g3 g4 g5
            have nS : NoBytes w ok (fun i => i ∈ Nl ∨ i = bx) := fun i ho hi => hi.elim (fun hi => h3.noBytes i ho hi) (fun hi => noBytes_node (ok := ok) hx i ho hi)
            have hbS : ¬ (b ∈ Nl ∨ b = bx) := fun hi => hi.elim hbl (fun e => hxN.1 e.symm)
            have hb1 : b ∉ N1 := fun hi => hbS (g3 b hi)
            have hblk1 : w1.heap[b]? = some (nodeObj (.slice A1 k'.length c1) vv h' pl pr sz dg) := (g5.2 b (blk_lt hblk) hbS).trans hblk
            have n2 := noBytes_node (ok := ok) hblk1
            have ks := kept_set (w := w1) (b := b) (j := 3) (.pointer p1)
            have hrS : ∀ i ∈ Nr, ¬ (i ∈ Nl ∨ i = bx) := fun i hi hs => hs.elim (fun h2 => hNa.2.2 i h2 i hi rfl) (fun e => hxN.2.2 (e ▸ hi))
            obtain ⟨_, _, _, u3, _, _, _, uf⟩ := node_cells hblk1
            refine ⟨u3, uf 3, ?_⟩
            have hcn := Tr.cnt_put seed k v h l
            have hmS : ¬ (bm ∈ Nl ∨ bm = bx) := fun hs => hs.elim (h3.ne_map hm) (node_ne_map hx hm)
            refine (fresh_tree w0 _ (g4.setCell (p := ⟨b, 3, none⟩) hb _) ok bm b seed root _ vv k' v' h' sz dg (l.put seed k v h) r p1 pr N1 Nr (map_kept (map_kept hm g5 hmS) ks (node_ne_map hblk hm)) hb (node_set3 hblk1 p1)
              ((h1.kept g5 nS).kept ks n2) ((h2.kept g5 nS).kept ks n2) (g1.kept ks n2 (fun i hi e => hb1 (e ▸ hi))) ((h4.kept g5 nS hrS).kept ks n2 (fun i hi e => hbr (e ▸ hi))) hkl' hvl' (hol.put hkl hvl) hor (by omega) (by omega) hb1 hbr).mono ?_
            rintro e w' ⟨he, q1, q2, q3⟩
            refine ⟨he, b :: (N1 ++ Nr), q1, ?_, ?_, q2, ?_⟩
            · refine List.nodup_cons.2 ⟨by simp [hb1, hbr], List.nodup_append.2 ⟨g2, hNa.2.1, ?_⟩⟩
              rintro i hi j hj rfl
              exact hrS i hj (g3 i hi)
            · intro i hi
              rcases List.mem_cons.1 hi with rfl | hi
              · exact .inl (by simp)
              · rcases List.mem_append.1 hi with hi | hi
                · exact (g3 i hi).imp (fun h => by simp [h]) id
                · exact .inl (by simp [hi])
            · exact ((g5.mono (S' := fun i => i ∈ b :: (Nl ++ Nr) ∨ i = bx) (fun i hi => hi.imp (fun h => by simp [h]) id)).then_ ks (fun i hi => .inl (.inl (by simp [hi])))).then_ q3 (fun i hi => .inl (.inl (by simp [hi])))
          have HF := Aside0.mk FIN
          have HKw := Aside0.mk (fun n => (Kept.refl w (fun i => i ∈ Nl ∨ i = bx)).drewN n)
          have el : decide (cmpI k k' < 0) = true := by simp [hlt]
          clear FIN hT0 ihl ihr hc e1 h1 h2 h3 h4 hNa hr1 hm hx hkx hvx hrx hB hblk e0 xf yf ea hOk0 hN hNd hsz ea'
          go_enter Tryz.func114, Tryz.ntmps114
          go_wp2_with fail
          go_quiet ((go_at_call 156; exact quiet_left (hcmp _)))
          go_wp2_with fail
          refine (habv nq).mono ?_
          rintro e w' ⟨rfl, m, rfl⟩
          go_wp2_with fail
          refine (hrec (nq + m)).mono ?_
          rintro e w1 ⟨p1, N1, rfl, g1, g2, g3, g4, g5⟩
          obtain ⟨z1, z4, hfr⟩ := HF.out w1 p1 N1 g1 g2 g3 g4 ((HKw.out (nq + m)).then_ g5 (fun i hi => .inl hi))
          clear hrec g1 g2 g3 g4 g5 HF hcmp habv HKw
          go_wp2_with fail
          refine hfr.mono ?_
          rintro e w2 ⟨rfl, N3, q1, q2, q3, q4, q5⟩
          have HQ := Aside0.mk (And.intro q1 (And.intro q2 (And.intro q3 (And.intro q4 q5))))
          clear hfr q1 q2 q3 q4 q5
          go_wp2
          go_ret
          exact ⟨_, N3, rfl, HQ.out.1, HQ.out.2.1, HQ.out.2.2.1, HQ.out.2.2.2.1, HQ.out.2.2.2.2⟩
        · have e1 : (Tr.node k' v' h' l r sz dg).put seed k v h = Tr.fresh seed k' v' h' l (r.put seed k v h) := by simp only [Tr.put]; rw [if_neg e0, if_neg ea, if_neg hlt]
          rw [e1]
          have hrec := fun (n : Nat) => ihr (w.drewN n) pr Nr (pw_below_drewN hB n) hm hx (Kd.R_drewN hkx n) (Kd.R_drewN hvx n) (h4.drewN n) hNa.2.1 hxN.2.2 hor (by omega)
          have FIN : ∀ (w1 : World) (p1 : Option Addr) (N1 : List Nat), IsTree w1 w0.heap.size ok p1 (r.put seed k v h) N1 → N1.Nodup → (∀ i ∈ N1, i ∈ Nr ∨ i = bx) → Below w0.heap.size w0 w1 → Kept w w1 (fun i => i ∈ Nr ∨ i = bx) →
              w1.cell? ⟨b, 4, none⟩ = some (.pointer pr) ∧ w1.frozen? ⟨b, 4, none⟩ = false ∧
              Calls Tryz.prog 158 #[.pointer (some ⟨bm, 0, none⟩), .pointer (some ⟨b, 0, none⟩)] (w1.setCell ⟨b, 4, none⟩ (.pointer p1)) fun e w' =>
                e = .returned (.pointer (some ⟨b, 0, none⟩)) ∧ ∃ N3, IsTree w' w0.heap.size ok (some ⟨b, 0, none⟩) (Tr.fresh seed k' v' h' l (r.put seed k v h)) N3 ∧ N3.Nodup ∧ (∀ i ∈ N3, i ∈ b :: (Nl ++ Nr) ∨ i = bx) ∧ Below w0.heap.size w0 w' ∧ Kept w w' (fun i => i ∈ b :: (Nl ++ Nr) ∨ i = bx) := by
            intro w1 p1 N1 g1 g2 g3 g4 g5
            have nS : NoBytes w ok (fun i => i ∈ Nr ∨ i = bx) := fun i ho hi => hi.elim (fun hi => h4.noBytes i ho hi) (fun hi => noBytes_node (ok := ok) hx i ho hi)
            have hbS : ¬ (b ∈ Nr ∨ b = bx) := fun hi => hi.elim hbr (fun e => hxN.1 e.symm)
            have hb1 : b ∉ N1 := fun hi => hbS (g3 b hi)
            have hblk1 : w1.heap[b]? = some (nodeObj (.slice A1 k'.length c1) vv h' pl pr sz dg) := (g5.2 b (blk_lt hblk) hbS).trans hblk
            have n2 := noBytes_node (ok := ok) hblk1
            have ks := kept_set (w := w1) (b := b) (j := 4) (.pointer p1)
            have hrS : ∀ i ∈ Nl, ¬ (i ∈ Nr ∨ i = bx) := fun i hi hs => hs.elim (fun h2 => hNa.2.2 i hi i h2 rfl) (fun e => hxN.2.1 (e ▸ hi))
            obtain ⟨_, _, _, _, u3, _, _, uf⟩ := node_cells hblk1
            refine ⟨u3, uf 4, ?_⟩
            have hcn := Tr.cnt_put seed k v h r
            have hmS : ¬ (bm ∈ Nr ∨ bm = bx) := fun hs => hs.elim (h4.ne_map hm) (node_ne_map hx hm)
            refine (fresh_tree w0 _ (g4.setCell (p := ⟨b, 4, none⟩) hb _) ok bm b seed root _ vv k' v' h' sz dg l (r.put seed k v h) pl p1 Nl N1 (map_kept (map_kept hm g5 hmS) ks (node_ne_map hblk hm)) hb (node_set4 hblk1 p1)
              ((h1.kept g5 nS).kept ks n2) ((h2.kept g5 nS).kept ks n2) ((h3.kept g5 nS hrS).kept ks n2 (fun i hi e => hbl (e ▸ hi))) (g1.kept ks n2 (fun i hi e => hb1 (e ▸ hi))) hkl' hvl' hol (hor.put hkl hvl) (by omega) (by omega) hbl hb1).mono ?_
            rintro e w' ⟨he, q1, q2, q3⟩
            refine ⟨he, b :: (Nl ++ N1), q1, ?_, ?_, q2, ?_⟩
            · refine List.nodup_cons.2 ⟨by simp [hb1, hbl], List.nodup_append.2 ⟨hNa.1, g2, ?_⟩⟩
              rintro i hi j hj rfl
              exact hrS i hi (g3 i hj)
            · intro i hi
              rcases List.mem_cons.1 hi with rfl | hi
              · exact .inl (by simp)
              · rcases List.mem_append.1 hi with hi | hi
                · exact .inl (by simp [hi])
                · exact (g3 i hi).imp (fun h => by simp [h]) id
            · exact ((g5.mono (S' := fun i => i ∈ b :: (Nl ++ Nr) ∨ i = bx) (fun i hi => hi.imp (fun h => by simp [h]) id)).then_ ks (fun i hi => .inl (.inl (by simp [hi])))).then_ q3 (fun i hi => .inl (.inl (by simp [hi])))
          have HF := Aside0.mk FIN
          have HKw := Aside0.mk (fun n => (Kept.refl w (fun i => i ∈ Nr ∨ i = bx)).drewN n)
          have el : decide (cmpI k k' < 0) = false := by simp [hlt]
          clear FIN hT0 ihl ihr hc e1 h1 h2 h3 h4 hNa hr1 hm hx hkx hvx hrx hB hblk e0 xf yf ea hOk0 hN hNd hsz ea'
          go_enter Tryz.func114, Tryz.ntmps114
          go_wp2_with fail
          go_quiet ((go_at_call 156; exact quiet_left (hcmp _)))
          go_wp2_with fail
          refine (habv nq).mono ?_
          rintro e w' ⟨rfl, m, rfl⟩
          go_wp2_with fail
          refine (hrec (nq + m)).mono ?_
          rintro e w1 ⟨p1, N1, rfl, g1, g2, g3, g4, g5⟩
          obtain ⟨z1, z4, hfr⟩ := HF.out w1 p1 N1 g1 g2 g3 g4 ((HKw.out (nq + m)).then_ g5 (fun i hi => .inl hi))
          clear hrec g1 g2 g3 g4 g5 HF hcmp habv HKw
          go_wp2_with fail
          refine hfr.mono ?_
          rintro e w2 ⟨rfl, N3, q1, q2, q3, q4, q5⟩
          have HQ := Aside0.mk (And.intro q1 (And.intro q2 (And.intro q3 (And.intro q4 q5))))
          clear hfr q1 q2 q3 q4 q5
          go_wp2
          go_ret
          exact ⟨_, N3, rfl, HQ.out.1, HQ.out.2.1, HQ.out.2.2.1, HQ.out.2.2.2.1, HQ.out.2.2.2.2⟩
end Go.Proofs.YtkjplffpihfliaaGreatDoor
end

section
/- The contracts of order.New and order.Put. -/
namespace Go.Proofs.YtkjplffpihfliaaGreatDoor
open Go.RowKit Go.Proofs.YtkjplffpihfliaaGreatDoorW.PrintWords PAll

/-- An ordered map in memory: its block is bm, its nodes' blocks are N. -/
structure IsMap (w : World) (B0 : Nat) (ok : Nat → Prop) (bm : Nat) (seed : Int) (T : Tr) (N : List Nat) : Prop where
  base : B0 ≤ bm
  root : ∃ p, w.heap[bm]? = some (mapObj seed p) ∧ IsTree w B0 ok p T N
  nodup : N.Nodup
  okT : T.Ok

theorem IsMap.kept {w w' : World} {base : Nat} {ok S : Nat → Prop} {bm : Nat} {seed : Int} {T : Tr} {N : List Nat} (h : IsMap w base ok bm seed T N) (hk : Kept w w' S) (hn : NoBytes w ok S) (h1 : ¬ S bm) (h2 : ∀ i ∈ N, ¬ S i) : IsMap w' base ok bm seed T N := by
  obtain ⟨p, hm, hT⟩ := h.root
  exact ⟨h.base, ⟨p, map_kept hm hk h1, hT.kept hk hn h2⟩, h.nodup, h.okT⟩
theorem IsTree.mono {w : World} {base : Nat} {ok ok' : Nat → Prop} (ho : ∀ i, ok i → ok' i) : ∀ {T : Tr} {p : Option Addr} {N : List Nat}, IsTree w base ok p T N → IsTree w base ok' p T N
  | .nil, _, _, h => h
  | .node k v h l r sz dg, p, N, ⟨b, kv, vv, pl, pr, Nl, Nr, hp, hb, hblk, h1, h2, h3, h4, hN⟩ =>
    ⟨b, kv, vv, pl, pr, Nl, Nr, hp, hb, hblk, Kd.R_mono h1 ho, Kd.R_mono h2 ho, IsTree.mono ho h3, IsTree.mono ho h4, hN⟩

set_option maxRecDepth 100000 in
theorem new_any (w0 w : World) (hB : Below w0.heap.size w0 w) (seed : Int) :
    Calls Tryz.prog 52 #[.int .u64 seed] w fun e w' => e = .returned (.pointer (some ⟨w.heap.size, 0, none⟩)) ∧ IsMap w' w0.heap.size (fun _ => False) w.heap.size seed .nil [] ∧ Below w.heap.size w w' := by
  go_enter Tryz.func52, Tryz.ntmps52
  go_wp2
  go_ret
  refine ⟨rfl, ⟨hB.size, ⟨none, heap_alloc_new w _, rfl, rfl⟩, by simp, trivial⟩, below_alloc (Below.refl _ _) _⟩

/-- A node that has just been made, out of a tree. -/
structure NewNode (w w' : World) (bx : Nat) (k v : List Int) (h : Int) : Prop where
  lt : w.heap.size ≤ bx
  blk : ∃ kv vv, w'.heap[bx]? = some (nodeObj kv vv h none none 0 0) ∧ Buf w' w.heap.size kv k ∧ Buf w' w.heap.size vv v
  below : Below w.heap.size w w'

theorem Buf.le {w : World} {b b' : Nat} {v : Value} {xs : List Int} (h : Buf w b v xs) (hb : b' ≤ b) : Buf w b' v xs := Kd.R_mono (Kd.R_lower h hb) (fun _ h => Nat.le_trans hb h)
/-- A buffer stays what it is behind an append to a block that is older, or newer, than it. -/
theorem Buf.grown_old {w w' : World} {b g : Nat} {v : Value} {xs : List Int} (h : Buf w b v xs) (hg : w.grownBy w' (some g)) (hgb : g < b) : Buf w' b v xs := Kd.R_grown h hg (fun k hk e => by cases e; omega)
theorem Buf.grown_new {w w' : World} {b g : Nat} {v : Value} {xs : List Int} (h : Buf w b v xs) (o : Obj) (hg : (w.alloc o).grownBy w' (some g)) (hgb : w.heap.size ≤ g) : Buf w' b v xs :=
  Kd.R_mono (Kd.R_grown (Kd.R_alloc (Kd.R_bound h) o) hg (fun k hk e => by cases e; have := hk.2.2.1; omega)) (fun _ h => h.1)
theorem newnode_fin {w w2 w3 : World} {k v : List Int} {h : Int} {A1 A3 : Option Addr} {c1 c3 : Nat} (hk : Buf w2 w.heap.size (.slice A1 k.length c1) k) (hv : Buf w2 w.heap.size (.slice A3 v.length c3) v) (hB : Below w.heap.size w w2) (hd : Drawn0 w2 w3) :
    NewNode w (w3.alloc (nodeObj (.slice A1 k.length c1) (.slice A3 v.length c3) h none none 0 0)) w3.heap.size k v h := by
  have hB3 : Below w.heap.size w w3 := hB.trans (hd.below.mono hB.size)
  exact ⟨hB3.size, ⟨_, _, heap_alloc_new w3 _, Kd.R_alloc (Kd.R_below hk hd.below) _, Kd.R_alloc (Kd.R_below hv hd.below) _⟩, hB3.alloc hB3.size _⟩

set_option maxRecDepth 100000 in
set_option maxHeartbeats 1000000 in
theorem mput_any (w0 w : World) (hB : Below w0.heap.size w0 w) (ok : Nat → Prop) (bm : Nat) (seed : Int) (T : Tr) (N : List Nat) (hM : IsMap w w0.heap.size ok bm seed T N) (hc : T.cnt ≤ 90000)
    (A1 A2 : Option Addr) (c1 c2 : Nat) (k v : List Int) (hk : Kd.C (Kd.int .u8) w A1 k.length k) (hkc : k.length ≤ c1) (hv : Kd.C (Kd.int .u8) w A2 v.length v) (hvc : v.length ≤ c2) (hk0 : 1 ≤ k.length) (hk1 : k.length ≤ 64) (hv1 : v.length ≤ 1000) :
    Calls Tryz.prog 53 #[.pointer (some ⟨bm, 0, none⟩), .slice A1 k.length c1, .slice A2 v.length c2] w fun e w' => ∃ N', e = .returned (.int .i64 0) ∧
      IsMap w' w0.heap.size (fun i => ok i ∨ w.heap.size ≤ i) bm seed (T.put seed k v (coin seed 3 k)) N' ∧ (∀ i ∈ N', i ∈ N ∨ w.heap.size ≤ i) ∧ Below w0.heap.size w0 w' ∧ Kept w w' (fun i => i = bm ∨ i ∈ N) := by
  obtain ⟨hbm, ⟨p, hm, hT⟩, hN, hOk⟩ := hM
  obtain ⟨m0, m1, m2, mf⟩ := map_cells hm
  have hfind := find_any w _ _ bm p T N A1 c1 k m0 m2 hT hk
  have hcnt := count_any w _ _ p T N hT
  have e1 := hOk.size
  have hcl := fun (W : World) (hW : Below w.heap.size w W) => (clone_any W A1 c1 k (C_old hk hW) (by omega)).mono (R' := fun e w1 => ∃ v1 cv1, e = .returned (.slice v1 k.length cv1) ∧ Aside0 (Buf w1 W.heap.size (.slice v1 k.length cv1) k) ∧ Aside0 (Below w.heap.size w w1) ∧ Aside0 (Below W.heap.size W w1) ∧ w1.cell? ⟨bm, 1, none⟩ = some (.int .u64 seed))
    (fun e w1 ⟨v1, he, hb1, hB1⟩ => by
      have hB2 := hW.trans (hB1.mono hW.size)
      obtain ⟨A', c', rfl, _, _⟩ := hb1.reads
      exact ⟨A', c', he, ⟨hb1⟩, ⟨hB2⟩, ⟨hB1⟩, (hB2.cell (World.block_lt_of_cell? _ _ m1)).trans m1⟩)
  have hfd : (Calls Tryz.prog 112 #[.pointer (some ⟨bm, 0, none⟩), .slice A1 k.length c1] w fun e w' => e = .returned (.pointer none) ∧ w = w') ∨
      (Calls Tryz.prog 112 #[.pointer (some ⟨bm, 0, none⟩), .slice A1 k.length c1] w fun e w' => ∃ a, e = .returned (.pointer (some a)) ∧ w = w') := by
    by_cases hh : T.has k = true
    · exact .inr (hfind.mono fun e w' ⟨q, he, hq, hw⟩ => by
        cases q with
        | none => have := hq.1 rfl; rw [hh] at this; cases this
        | some a => exact ⟨a, he, hw⟩)
    · exact .inl (hfind.mono fun e w' ⟨q, he, hq, hw⟩ => ⟨by rw [he, hq.2 (by simpa using hh)], hw⟩)
  have hsz : T.size < 100000 := by omega
  clear e1
  generalize T.size = sz at hcnt hsz
  have hP : ∀ bx W, NewNode w W bx k v (coin seed 3 k) → W.cell? ⟨bm, 2, none⟩ = some (.pointer p) ∧ W.frozen? ⟨bm, 2, none⟩ = false ∧
      Calls Tryz.prog 114 #[.pointer (some ⟨bm, 0, none⟩), .pointer p, .pointer (some ⟨bx, 0, none⟩)] W fun e w2 => ∃ p' N', e = .returned (.pointer p') ∧
        w2.cell? ⟨bm, 2, none⟩ = some (.pointer p) ∧ w2.frozen? ⟨bm, 2, none⟩ = false ∧
        Aside0 (IsMap (w2.setCell ⟨bm, 2, none⟩ (.pointer p')) w0.heap.size (fun i => ok i ∨ w.heap.size ≤ i) bm seed (T.put seed k v (coin seed 3 k)) N' ∧ (∀ i ∈ N', i ∈ N ∨ w.heap.size ≤ i) ∧
          Below w0.heap.size w0 (w2.setCell ⟨bm, 2, none⟩ (.pointer p')) ∧ Kept w (w2.setCell ⟨bm, 2, none⟩ (.pointer p')) (fun i => i = bm ∨ i ∈ N)) := by
    rintro bx W ⟨hlt, ⟨kv, vv, hblk, hkv, hvv⟩, hbl⟩
    have hm1 : W.heap[bm]? = some (mapObj seed p) := (hbl.block bm (blk_lt hm)).trans hm
    have hk1' : Kept w W (fun _ => False) := Kept.of_below hbl _
    have hT1 : IsTree W w0.heap.size (fun i => ok i ∨ w.heap.size ≤ i) p T N := (hT.kept hk1' (NoBytes.none _ _) (fun _ _ h => h)).mono (fun i h => .inl h)
    have hlow : ∀ i ∈ N, i < w.heap.size := fun i hi => let ⟨_, c, hc⟩ := hT.types i hi; blk_lt hc
    have hxN : bx ∉ N := fun hi => by have := hlow bx hi; omega
    refine ⟨(map_cells hm1).2.2.1, (map_cells hm1).2.2.2 2, ?_⟩
    refine (put_any w0 _ bm bx seed p kv vv k v (coin seed 3 k) 0 0 (Nat.le_trans hB.size hlt) hk1 hv1 T W p N (hB.trans (hbl.mono hB.size)) hm1 hblk (Kd.R_lower (Kd.R_mono hkv (fun _ h => .inr h)) hB.size) (Kd.R_lower (Kd.R_mono hvv (fun _ h => .inr h)) hB.size) hT1 hN hxN hOk (by omega)).mono ?_
    rintro e w2 ⟨p', N', he, g1, g2, g3, g4, g5⟩
    have hbS : ¬ (bm ∈ N ∨ bm = bx) := fun h => h.elim (hT.ne_map hm) (fun e => by have := blk_lt hm; omega)
    have hm2 := map_kept hm1 g5 hbS
    refine ⟨p', N', he, (map_cells hm2).2.2.1, (map_cells hm2).2.2.2 2, ⟨?_, ?_, g4.setCell (p := ⟨bm, 2, none⟩) hbm _, ?_⟩⟩
    · have ks := kept_set (w := w2) (b := bm) (j := 2) (.pointer p')
      refine ⟨hbm, ⟨p', blk_set hm2 2 _, g1.kept ks (fun i _ hi cells => by subst hi; rw [hm2]; simp [mapObj]) ?_⟩, g2, hOk.put hk1 hv1⟩
      intro i hi e
      exact (g1.ne_map hm2) (e ▸ hi)
    · intro i hi
      exact (g3 i hi).imp id (fun e => by rw [e]; exact hlt)
    · refine ((hk1'.mono (S' := fun i => i = bm ∨ i ∈ N) (fun _ h => h.elim)).then_ g5 ?_).then_ (kept_set (.pointer p')) (fun i hi => .inl (.inl hi))
      rintro i (hi | rfl)
      · exact .inl (.inr hi)
      · exact .inr hlt
  have HP := Aside0.mk hP
  have HCL := Aside0.mk hcl
  clear hcl hT hfind hP
  rcases hfd with hfd | hfd
  · go_enter Tryz.func53, Tryz.ntmps53
    go_upto_region 5 with (first | (go_at_call 111; refine (mreal_any w bm m0).mono ?_; rintro e w' ⟨rfl, rfl⟩) | (go_at_call 112; refine hfd.mono ?_; rintro e w' ⟨rfl, rfl⟩) | (go_at_call 113; refine hcnt.mono ?_; rintro e w' ⟨rfl, rfl⟩))
    go_cut [7] (fun v7 w' => ∃ bx, v7 = .pointer (some ⟨bx, 0, none⟩) ∧ NewNode w w' bx k v (coin seed 3 k))
    case first =>
      go_region_held3 (fun w' => w'.cell? ⟨bm, 1, none⟩ = some (.int .u64 seed)) (go_keep)
        (first | (go_at_call 48; refine (HCL.out _ ?hcb).mono ?_; (case hcb => first | exact (below_alloc (Below.refl _ _) _).drew | exact (Below.refl _ _).drew); rintro e w1 ⟨v1, cv1, rfl, hb1, hB1, hB2, d1⟩) | (refine buf_appendN_step (w0 := w) rfl (.tmp 40) (.tmp 41) rfl _ [] v A2 v.length c2 rfl rfl rfl ?ho (C_old hv ?hb) ?hb ?hl ?_; (case hl => simp; omega); (case ho => first | exact Kd.R_below (Kd.R_drew (buf_empty (Nat.le_refl _))) hB2.out | exact buf_empty hB1.out.size); (case hb => first | exact hB1.out | exact hB1.out.alloc hB1.out.size _); intro v2 w2 hb2 hB3 hg2; have hh2 := Aside0.mk (And.intro hb2 (And.intro hB3 hg2)); have d2 : w2.cell? ⟨bm, 1, none⟩ = some (.int .u64 seed) := (hB3.cell (World.block_lt_of_cell? _ _ m1)).trans m1; clear hb2 hB3 hg2; obtain ⟨A3, c3, rfl, _, _⟩ := hh2.out.1.reads) | (go_at_call 71; refine (slots_Coin.calls _ seed 3 A1 c1 k _ _ (C_old hk hh2.out.2.1) hkc (coin_f seed 3 k (by omega))).mono ?_; rintro e w3 ⟨rfl, hd⟩; have hd' := Aside0.mk hd; have d3 : w3.cell? ⟨bm, 1, none⟩ = some (.int .u64 seed) := (hd.below.cell (World.block_lt_of_cell? _ _ d2)).trans d2; clear hd))
      all_goals
        go_wp2_with fail
        go_meet
      · exact ⟨_, rfl, newnode_fin (Buf.grown_new hb1.out _ hh2.out.2.2 (Nat.le_refl _)) (by simpa using hh2.out.1) hh2.out.2.1 hd'.out⟩
      · exact ⟨_, rfl, newnode_fin ((hb1.out.grown_old (g := w.heap.size) hh2.out.2.2 (by simp)).le (by simp)) (by simpa using hh2.out.1) hh2.out.2.1 hd'.out⟩
    case rest =>
      obtain ⟨bx, rfl, hnn⟩ := hcut
      obtain ⟨z1, z2, hput⟩ := HP.out _ _ hnn
      clear hnn HP HCL hfd hcnt m0 m1 m2 mf hm hB
      go_wp2_with fail
      refine hput.mono ?_
      rintro e w2 ⟨p', N', rfl, q0, q1, q5⟩
      clear hput
      go_wp2
      go_ret
      exact ⟨N', rfl, q5.out⟩
  · go_enter Tryz.func53, Tryz.ntmps53
    go_upto_region 5 with (first | (go_at_call 111; refine (mreal_any w bm m0).mono ?_; rintro e w' ⟨rfl, rfl⟩) | (go_at_call 112; refine hfd.mono ?_; rintro e w' ⟨a, rfl, rfl⟩) | (go_at_call 113; refine hcnt.mono ?_; rintro e w' ⟨rfl, rfl⟩))
    go_cut [7] (fun v7 w' => ∃ bx, v7 = .pointer (some ⟨bx, 0, none⟩) ∧ NewNode w w' bx k v (coin seed 3 k))
    case first =>
      go_region_held3 (fun w' => w'.cell? ⟨bm, 1, none⟩ = some (.int .u64 seed)) (go_keep)
        (first | (go_at_call 48; refine (HCL.out _ ?hcb).mono ?_; (case hcb => first | exact (below_alloc (Below.refl _ _) _).drew | exact (Below.refl _ _).drew); rintro e w1 ⟨v1, cv1, rfl, hb1, hB1, hB2, d1⟩) | (refine buf_appendN_step (w0 := w) rfl (.tmp 40) (.tmp 41) rfl _ [] v A2 v.length c2 rfl rfl rfl ?ho (C_old hv ?hb) ?hb ?hl ?_; (case hl => simp; omega); (case ho => first | exact Kd.R_below (Kd.R_drew (buf_empty (Nat.le_refl _))) hB2.out | exact buf_empty hB1.out.size); (case hb => first | exact hB1.out | exact hB1.out.alloc hB1.out.size _); intro v2 w2 hb2 hB3 hg2; have hh2 := Aside0.mk (And.intro hb2 (And.intro hB3 hg2)); have d2 : w2.cell? ⟨bm, 1, none⟩ = some (.int .u64 seed) := (hB3.cell (World.block_lt_of_cell? _ _ m1)).trans m1; clear hb2 hB3 hg2; obtain ⟨A3, c3, rfl, _, _⟩ := hh2.out.1.reads) | (go_at_call 71; refine (slots_Coin.calls _ seed 3 A1 c1 k _ _ (C_old hk hh2.out.2.1) hkc (coin_f seed 3 k (by omega))).mono ?_; rintro e w3 ⟨rfl, hd⟩; have hd' := Aside0.mk hd; have d3 : w3.cell? ⟨bm, 1, none⟩ = some (.int .u64 seed) := (hd.below.cell (World.block_lt_of_cell? _ _ d2)).trans d2; clear hd))
      all_goals
        go_wp2_with fail
        go_meet
      · exact ⟨_, rfl, newnode_fin (Buf.grown_new hb1.out _ hh2.out.2.2 (Nat.le_refl _)) (by simpa using hh2.out.1) hh2.out.2.1 hd'.out⟩
      · exact ⟨_, rfl, newnode_fin ((hb1.out.grown_old (g := w.heap.size) hh2.out.2.2 (by simp)).le (by simp)) (by simpa using hh2.out.1) hh2.out.2.1 hd'.out⟩
    case rest =>
      obtain ⟨bx, rfl, hnn⟩ := hcut
      obtain ⟨z1, z2, hput⟩ := HP.out _ _ hnn
      clear hnn HP HCL hfd hcnt m0 m1 m2 mf hm hB
      go_wp2_with fail
      refine hput.mono ?_
      rintro e w2 ⟨p', N', rfl, q0, q1, q5⟩
      clear hput
      go_wp2
      go_ret
      exact ⟨N', rfl, q5.out⟩
end Go.Proofs.YtkjplffpihfliaaGreatDoor
end

section
/- The contract of what order.Image makes of a node. -/
namespace Go.Proofs.YtkjplffpihfliaaGreatDoor
open Go.RowKit Go.Proofs.YtkjplffpihfliaaGreatDoorW.PrintWords PAll

def kids (pl pr : Option Addr) : Int := (if pl.isSome then 1 else 0) + (if pr.isSome then 2 else 0)
/-- The bytes of a node in an image. -/
def nodeBytes (ch : Int) (k v : List Int) : List Int := [ch, k.length] ++ lit v.length 2 ++ k ++ v

theorem C_two (W : World) (a b : Int) : Kd.C (Kd.int .u8) (W.alloc (.cells #[.int .u8 a, .int .u8 b] 5)) (some ⟨W.heap.size, 0, none⟩) [a, b].length [a, b] := by
  have h := own_lit W 0 5 .u8 [a, b] (Nat.zero_le _) (by simp)
  exact (Kd.R_reads' (Kd.R_of_own (h1 := fun _ => rfl) (ok := fun _ => True) h (fun _ _ => trivial))).2.2

set_option maxRecDepth 100000 in
set_option maxHeartbeats 1000000 in
theorem img1_any (w : World) (b : Nat) (A1 A2 : Option Addr) (c1 c2 : Nat) (h sz dg : Int) (pl pr : Option Addr) (k v : List Int)
    (hblk : w.heap[b]? = some (nodeObj (.slice A1 k.length c1) (.slice A2 v.length c2) h pl pr sz dg)) (hk : Kd.C (Kd.int .u8) w A1 k.length k) (hv : Kd.C (Kd.int .u8) w A2 v.length v) (hkl : k.length ≤ 64) (hvl : v.length ≤ 1000) :
    Calls Tryz.prog 116 #[.pointer (some ⟨b, 0, none⟩)] w fun e w' => ∃ v', e = .returned v' ∧ Buf w' w.heap.size v' (nodeBytes (kids pl pr) k v) ∧ Below w.heap.size w w' := by
  obtain ⟨c0, c1', _, c3, c4, _, _, _⟩ := node_cells hblk
  have hl : ∀ W, Below w.heap.size w W → W.cell? ⟨b, 0, none⟩ = some (.slice A1 k.length c1) ∧ W.cell? ⟨b, 1, none⟩ = some (.slice A2 v.length c2) := fun W hW =>
    ⟨(hW.cell (World.block_lt_of_cell? _ _ c0)).trans c0, (hW.cell (World.block_lt_of_cell? _ _ c1')).trans c1'⟩
  have HL := Aside0.mk hl
  clear hl hblk
  have ew : IntKind.u8.wrap (k.length : Int) = k.length := by show (k.length : Int) % 256 = _; omega
  have ew2 : IntKind.u64.wrap (v.length : Int) = v.length := by show (v.length : Int) % 18446744073709551616 = _; omega
  have hp : pl = none ∨ ∃ a, pl = some a := by cases pl <;> simp
  have hr : pr = none ∨ ∃ a, pr = some a := by cases pr <;> simp
  rcases hp with rfl | ⟨a1, rfl⟩ <;> rcases hr with rfl | ⟨a2, rfl⟩
  · go_enter Tryz.func116, Tryz.ntmps116
    go_wp2_with fail
    go_region_held3 (fun w' => w'.cell? ⟨b, 0, none⟩ = some (.slice A1 k.length c1) ∧ w'.cell? ⟨b, 1, none⟩ = some (.slice A2 v.length c2)) (go_keep)
      (first | (refine buf_appendN_step (w0 := w) rfl (.tmp 17) (.tmp 25) rfl (.slice none 0 0) [] [0, (k.length : Int)] (some ⟨w.heap.size, 0, none⟩) 2 2 rfl rfl rfl (Kd.R_nil _ _ _ _ _) (Kd.C_drew (C_two w 0 (k.length : Int))) ?hb ?hl ?_; (case hl => simp); (case hb => exact (below_alloc (Below.refl _ _) _).drew); intro v2 w2 hb2 hB2 _; obtain ⟨d0, d1⟩ := HL.out w2 hB2; have HH2 := Aside0.mk (And.intro hb2 hB2); clear hb2 hB2) | (go_at_call 117; refine (little_buf w w2 HH2.out.2 v2 _ (v.length : Int) 2 ?hx ?hy HH2.out.1).mono ?_; (case hx => omega); (case hy => simp); rintro e w3 ⟨v3, rfl, hb3, hB3⟩; obtain ⟨d2, d3⟩ := HL.out w3 hB3; have HH3 := Aside0.mk (And.intro hb3 hB3); clear hb3 hB3))
    clear HH2 d0 d1
    go_wp2_with fail
    go_region_held3 (fun w' => w'.cell? ⟨b, 0, none⟩ = some (.slice A1 k.length c1) ∧ w'.cell? ⟨b, 1, none⟩ = some (.slice A2 v.length c2)) (go_keep)
      (first | (refine buf_appendN_step (w0 := w) rfl (.tmp 34) (.tmp 38) rfl v3 _ k A1 k.length c1 rfl rfl rfl (Kd.R_drew HH3.out.1) (C_old hk HH3.out.2.drew) HH3.out.2.drew ?hl ?_; (case hl => simp [lit_length]; omega); intro v4 w4 hb4 hB4 _; obtain ⟨d4, d5⟩ := HL.out w4 hB4; have HH4 := Aside0.mk (And.intro hb4 hB4); clear hb4 hB4) | (refine buf_appendN_step (w0 := w) rfl (.tmp 39) (.tmp 43) rfl v4 _ v A2 v.length c2 rfl rfl rfl HH4.out.1 (C_old hv HH4.out.2) HH4.out.2 ?hl ?_; (case hl => simp [lit_length]; omega); intro v5 w5 hb5 hB5 _; obtain ⟨d6, d7⟩ := HL.out w5 hB5; have HH5 := Aside0.mk (And.intro hb5 hB5); clear hb5 hB5))
    clear HH3 HH4 d2 d3 d4 d5
    go_wp2
    go_ret
    exact ⟨_, rfl, by simpa [nodeBytes, kids] using HH5.out.1, HH5.out.2⟩
  · go_enter Tryz.func116, Tryz.ntmps116
    go_wp2_with fail
    go_region_held3 (fun w' => w'.cell? ⟨b, 0, none⟩ = some (.slice A1 k.length c1) ∧ w'.cell? ⟨b, 1, none⟩ = some (.slice A2 v.length c2)) (go_keep)
      (first | (refine buf_appendN_step (w0 := w) rfl (.tmp 17) (.tmp 25) rfl (.slice none 0 0) [] [2, (k.length : Int)] (some ⟨w.heap.size, 0, none⟩) 2 2 rfl rfl rfl (Kd.R_nil _ _ _ _ _) (Kd.C_drew (C_two w 2 (k.length : Int))) ?hb ?hl ?_; (case hl => simp); (case hb => exact (below_alloc (Below.refl _ _) _).drew); intro v2 w2 hb2 hB2 _; obtain ⟨d0, d1⟩ := HL.out w2 hB2; have HH2 := Aside0.mk (And.intro hb2 hB2); clear hb2 hB2) | (go_at_call 117; refine (little_buf w w2 HH2.out.2 v2 _ (v.length : Int) 2 ?hx ?hy HH2.out.1).mono ?_; (case hx => omega); (case hy => simp); rintro e w3 ⟨v3, rfl, hb3, hB3⟩; obtain ⟨d2, d3⟩ := HL.out w3 hB3; have HH3 := Aside0.mk (And.intro hb3 hB3); clear hb3 hB3))
    clear HH2 d0 d1
    go_wp2_with fail
    go_region_held3 (fun w' => w'.cell? ⟨b, 0, none⟩ = some (.slice A1 k.length c1) ∧ w'.cell? ⟨b, 1, none⟩ = some (.slice A2 v.length c2)) (go_keep)
      (first | (refine buf_appendN_step (w0 := w) rfl (.tmp 34) (.tmp 38) rfl v3 _ k A1 k.length c1 rfl rfl rfl (Kd.R_drew HH3.out.1) (C_old hk HH3.out.2.drew) HH3.out.2.drew ?hl ?_; (case hl => simp [lit_length]; omega); intro v4 w4 hb4 hB4 _; obtain ⟨d4, d5⟩ := HL.out w4 hB4; have HH4 := Aside0.mk (And.intro hb4 hB4); clear hb4 hB4) | (refine buf_appendN_step (w0 := w) rfl (.tmp 39) (.tmp 43) rfl v4 _ v A2 v.length c2 rfl rfl rfl HH4.out.1 (C_old hv HH4.out.2) HH4.out.2 ?hl ?_; (case hl => simp [lit_length]; omega); intro v5 w5 hb5 hB5 _; obtain ⟨d6, d7⟩ := HL.out w5 hB5; have HH5 := Aside0.mk (And.intro hb5 hB5); clear hb5 hB5))
    clear HH3 HH4 d2 d3 d4 d5
    go_wp2
    go_ret
    exact ⟨_, rfl, by simpa [nodeBytes, kids] using HH5.out.1, HH5.out.2⟩
  · go_enter Tryz.func116, Tryz.ntmps116
    go_wp2_with fail
    go_region_held3 (fun w' => w'.cell? ⟨b, 0, none⟩ = some (.slice A1 k.length c1) ∧ w'.cell? ⟨b, 1, none⟩ = some (.slice A2 v.length c2)) (go_keep)
      (first | (refine buf_appendN_step (w0 := w) rfl (.tmp 17) (.tmp 25) rfl (.slice none 0 0) [] [1, (k.length : Int)] (some ⟨w.heap.size, 0, none⟩) 2 2 rfl rfl rfl (Kd.R_nil _ _ _ _ _) (Kd.C_drew (C_two w 1 (k.length : Int))) ?hb ?hl ?_; (case hl => simp); (case hb => exact (below_alloc (Below.refl _ _) _).drew); intro v2 w2 hb2 hB2 _; obtain ⟨d0, d1⟩ := HL.out w2 hB2; have HH2 := Aside0.mk (And.intro hb2 hB2); clear hb2 hB2) | (go_at_call 117; refine (little_buf w w2 HH2.out.2 v2 _ (v.length : Int) 2 ?hx ?hy HH2.out.1).mono ?_; (case hx => omega); (case hy => simp); rintro e w3 ⟨v3, rfl, hb3, hB3⟩; obtain ⟨d2, d3⟩ := HL.out w3 hB3; have HH3 := Aside0.mk (And.intro hb3 hB3); clear hb3 hB3))
    clear HH2 d0 d1
    go_wp2_with fail
    go_region_held3 (fun w' => w'.cell? ⟨b, 0, none⟩ = some (.slice A1 k.length c1) ∧ w'.cell? ⟨b, 1, none⟩ = some (.slice A2 v.length c2)) (go_keep)
      (first | (refine buf_appendN_step (w0 := w) rfl (.tmp 34) (.tmp 38) rfl v3 _ k A1 k.length c1 rfl rfl rfl (Kd.R_drew HH3.out.1) (C_old hk HH3.out.2.drew) HH3.out.2.drew ?hl ?_; (case hl => simp [lit_length]; omega); intro v4 w4 hb4 hB4 _; obtain ⟨d4, d5⟩ := HL.out w4 hB4; have HH4 := Aside0.mk (And.intro hb4 hB4); clear hb4 hB4) | (refine buf_appendN_step (w0 := w) rfl (.tmp 39) (.tmp 43) rfl v4 _ v A2 v.length c2 rfl rfl rfl HH4.out.1 (C_old hv HH4.out.2) HH4.out.2 ?hl ?_; (case hl => simp [lit_length]; omega); intro v5 w5 hb5 hB5 _; obtain ⟨d6, d7⟩ := HL.out w5 hB5; have HH5 := Aside0.mk (And.intro hb5 hB5); clear hb5 hB5))
    clear HH3 HH4 d2 d3 d4 d5
    go_wp2
    go_ret
    exact ⟨_, rfl, by simpa [nodeBytes, kids] using HH5.out.1, HH5.out.2⟩
  · go_enter Tryz.func116, Tryz.ntmps116
    go_wp2_with fail
    go_region_held3 (fun w' => w'.cell? ⟨b, 0, none⟩ = some (.slice A1 k.length c1) ∧ w'.cell? ⟨b, 1, none⟩ = some (.slice A2 v.length c2)) (go_keep)
      (first | (refine buf_appendN_step (w0 := w) rfl (.tmp 17) (.tmp 25) rfl (.slice none 0 0) [] [3, (k.length : Int)] (some ⟨w.heap.size, 0, none⟩) 2 2 rfl rfl rfl (Kd.R_nil _ _ _ _ _) (Kd.C_drew (C_two w 3 (k.length : Int))) ?hb ?hl ?_; (case hl => simp); (case hb => exact (below_alloc (Below.refl _ _) _).drew); intro v2 w2 hb2 hB2 _; obtain ⟨d0, d1⟩ := HL.out w2 hB2; have HH2 := Aside0.mk (And.intro hb2 hB2); clear hb2 hB2) | (go_at_call 117; refine (little_buf w w2 HH2.out.2 v2 _ (v.length : Int) 2 ?hx ?hy HH2.out.1).mono ?_; (case hx => omega); (case hy => simp); rintro e w3 ⟨v3, rfl, hb3, hB3⟩; obtain ⟨d2, d3⟩ := HL.out w3 hB3; have HH3 := Aside0.mk (And.intro hb3 hB3); clear hb3 hB3))
    clear HH2 d0 d1
    go_wp2_with fail
    go_region_held3 (fun w' => w'.cell? ⟨b, 0, none⟩ = some (.slice A1 k.length c1) ∧ w'.cell? ⟨b, 1, none⟩ = some (.slice A2 v.length c2)) (go_keep)
      (first | (refine buf_appendN_step (w0 := w) rfl (.tmp 34) (.tmp 38) rfl v3 _ k A1 k.length c1 rfl rfl rfl (Kd.R_drew HH3.out.1) (C_old hk HH3.out.2.drew) HH3.out.2.drew ?hl ?_; (case hl => simp [lit_length]; omega); intro v4 w4 hb4 hB4 _; obtain ⟨d4, d5⟩ := HL.out w4 hB4; have HH4 := Aside0.mk (And.intro hb4 hB4); clear hb4 hB4) | (refine buf_appendN_step (w0 := w) rfl (.tmp 39) (.tmp 43) rfl v4 _ v A2 v.length c2 rfl rfl rfl HH4.out.1 (C_old hv HH4.out.2) HH4.out.2 ?hl ?_; (case hl => simp [lit_length]; omega); intro v5 w5 hb5 hB5 _; obtain ⟨d6, d7⟩ := HL.out w5 hB5; have HH5 := Aside0.mk (And.intro hb5 hB5); clear hb5 hB5))
    clear HH3 HH4 d2 d3 d4 d5
    go_wp2
    go_ret
    exact ⟨_, rfl, by simpa [nodeBytes, kids] using HH5.out.1, HH5.out.2⟩
end Go.Proofs.YtkjplffpihfliaaGreatDoor
end

section
/- The contract of order.gather: the parts of an image. -/
namespace Go.Proofs.YtkjplffpihfliaaGreatDoor
open Go.RowKit Go.Proofs.YtkjplffpihfliaaGreatDoorW.PrintWords PAll

theorem infoB : (Tryz.prog.info? 31).map (fun i => (i.zero, i.size, i.bytes)) = some (some (.slice none 0 0), 1, 24) := by kernel_rfl
/-- A list of byte slices in memory that is new since a world with B0 blocks. -/
abbrev Bufs (w : World) (B0 : Nat) (v : Value) (xss : List (List Int)) : Prop := Kd.R kB 31 w B0 (fun k => B0 ≤ k) v xss
section
variable {ops : Array Oper} {rest : List Oper} {o : Oper} {a : Act} {Q : Exit → Act → World → Prop} {Kc : Act → World → Prop}
/-- append(out, b) of a slice of bytes that is newer than out, in a region that draws its order -/
theorem bufs_append_step {w0 W : World} {b : Value} (hw : Region.wanted o (yielded ops a.tmps) = true) (s x : Operand) (ho : o.op = .call { callee := .builtin .append, args := #[s, x], argTypes := #[57, 57] })
    (v : Value) (xss : List (List Int)) (p : List Int) (g : Nat) (hs : a.eval s = v) (hx : a.eval x = .slice (some ⟨W.heap.size, 0, none⟩) 1 1)
    (hb : Buf W g b p) (hg : w0.heap.size ≤ g) (hlt : ∀ k, v.ownBlock = some k → k < g) (HO : Bufs W w0.heap.size v xss) (HB : Below w0.heap.size w0 W) (hl : (xss.length + 1) * 24 ≤ 140737488355328)
    (h : ∀ v1 w1, Bufs w1 w0.heap.size v1 (xss ++ [p]) → Below w0.heap.size w0 w1 → Kc (a.put o.dst v1) w1) :
    if Region.wanted o (yielded ops a.tmps) = true then Oper.wp Tryz.prog o a (W.alloc (.cells #[b] 31)) Kc Q else Kc (a.put o.dst undef) (W.alloc (.cells #[b] 31)) :=
  Kd.R_append_step kB (w0 := w0) w0.heap.size hw s x 57 31 (.slice none 0 0) 24 ho Tryz.underlying57 infoB rfl (by decide) (by omega) v xss p [b] (fun k => w0.heap.size ≤ k) (fun k => g ≤ k)
    hs hx ⟨b, rfl, Kd.R_lower hb hg⟩ (fun k hk => ⟨Nat.le_trans hg hk, fun e => by have := hlt k e.symm; omega⟩) (fun k hk => Nat.le_trans HB.size hk) HO HB HB.size hl (fun v1 w1 h1 h2 _ _ => h v1 w1 h1 h2)
end

namespace Tr
/-- The bytes of the nodes, each ahead of those below it, the left ones first. -/
def isNil : Tr → Bool
  | .nil => true
  | _ => false
def parts : Tr → List (List Int)
  | .nil => []
  | .node k v _ l r _ _ => nodeBytes ((if l.isNil then 0 else 1) + (if r.isNil then 0 else 2)) k v :: (l.parts ++ r.parts)
theorem parts_length : ∀ T : Tr, T.parts.length = T.cnt
  | .nil => rfl
  | .node k v h l r sz dg => by simp [parts, cnt, parts_length l, parts_length r]; omega
end Tr
theorem kids_of {w : World} {base : Nat} {ok : Nat → Prop} {pl pr : Option Addr} {l r : Tr} {Nl Nr : List Nat} (hl : IsTree w base ok pl l Nl) (hr : IsTree w base ok pr r Nr) : kids pl pr = (if l.isNil then 0 else 1) + (if r.isNil then 0 else 2) := by
  have e1 := hl.nil_iff
  have e2 := hr.nil_iff
  unfold kids
  congr 1
  · cases pl <;> cases l <;> simp_all [Tr.isNil]
  · cases pr <;> cases r <;> simp_all [Tr.isNil]

set_option maxRecDepth 100000 in
set_option maxHeartbeats 1000000 in
theorem gather_any (w0 : World) (base : Nat) (ok : Nat → Prop) (T : Tr) : ∀ (w : World) (p : Option Addr) (N : List Nat) (v : Value) (xss : List (List Int)) (hT : IsTree w0 base ok p T N) (hB : Below w0.heap.size w0 w) (hOk : T.Ok) (hv : Bufs w w0.heap.size v xss) (hc : xss.length + T.cnt ≤ 1000000),
    Calls Tryz.prog 115 #[.pointer p, v, .func (.func 116) #[] #[]] w fun e w' => ∃ v', e = .returned v' ∧ Bufs w' w0.heap.size v' (xss ++ T.parts) ∧ Below w0.heap.size w0 w' := by
  induction T with
  | nil =>
    intro w p N v xss hT hB hOk hv hc
    obtain ⟨rfl, rfl⟩ := hT
    go_enter Tryz.func115, Tryz.ntmps115
    go_wp2
    go_ret
    exact ⟨v, rfl, by simpa [Tr.parts] using hv, hB⟩
  | node k v0 h l r sz dg ihl ihr =>
    intro w p N v xss hT hB hOk hv hc
    obtain ⟨b, kv, vv, pl, pr, Nl, Nr, rfl, hb, hblk0, h1, h2, h3, h4, rfl⟩ := hT
    obtain ⟨hkl, hvl, hsz, hol, hor⟩ := hOk
    have hblk : w.heap[b]? = some (nodeObj kv vv h pl pr sz dg) := (hB.block b (blk_lt hblk0)).trans hblk0
    have hkw := Kd.R_kept h1 (Kept.of_below hB (fun _ => False)) (fun _ _ h => h)
    have hvw := Kd.R_kept h2 (Kept.of_below hB (fun _ => False)) (fun _ _ h => h)
    obtain ⟨A1, c1, rfl, hc1, hr1⟩ := Kd.R_reads hkw
    obtain ⟨A2, c2, rfl, hc2, hr2⟩ := Kd.R_reads hvw
    obtain ⟨_, _, _, c3, c4, _, _, _⟩ := node_cells hblk
    have himg := img1_any w.drew b A1 A2 c1 c2 h sz dg pl pr k v0 hblk (Kd.C_drew hr1) (Kd.C_drew hr2) hkl hvl
    rw [kids_of h3 h4] at himg
    simp only [Tr.cnt] at hc
    obtain ⟨Av, cv, rfl, _, _⟩ := Kd.R_reads hv
    have hlow := Kd.R_lt hv
    have hl : ∀ W, Below w0.heap.size w0 W → W.cell? ⟨b, 3, none⟩ = some (.pointer pl) ∧ W.cell? ⟨b, 4, none⟩ = some (.pointer pr) := fun W hW => by
      obtain ⟨_, _, _, y3, y4, _, _, _⟩ := node_cells ((hW.block b (blk_lt hblk0)).trans hblk0)
      exact ⟨y3, y4⟩
    have hnb := Tr.parts_length l
    have HL := Aside0.mk hl
    have HV := Aside0.mk hv
    have HB := Aside0.mk hB
    have ihl' := fun w2 v2 hB2 hb2 => ihl w2 pl Nl v2 (xss ++ [nodeBytes ((if l.isNil then 0 else 1) + (if r.isNil then 0 else 2)) k v0]) h3 hB2 hol hb2 (by simp; omega)
    have ihr' := fun w2 v2 hB2 hb2 => ihr w2 pr Nr v2 (xss ++ [nodeBytes ((if l.isNil then 0 else 1) + (if r.isNil then 0 else 2)) k v0] ++ l.parts) h4 hB2 hor hb2 (by simp; omega)
    have IHL := Aside0.mk ihl'
    have IHR := Aside0.mk ihr'
    clear hl hblk0 hblk h1 h2 h3 h4 hkw hvw hr1 hr2 hB hv ihl ihr ihl' ihr' hnb
    have hlen : xss.length ≤ 1000000 := by omega
    generalize hnbs : nodeBytes ((if l.isNil then 0 else 1) + (if r.isNil then 0 else 2)) k v0 = nb at *
    have HN := Lib.hid hnbs
    clear hnbs
    go_enter Tryz.func115, Tryz.ntmps115
    go_wp2_with fail
    go_region_held3 (fun w' => w'.cell? ⟨b, 3, none⟩ = some (.pointer pl) ∧ w'.cell? ⟨b, 4, none⟩ = some (.pointer pr)) (go_keep)
      (first | (go_at_call 116; refine himg.mono ?_; rintro e w1 ⟨v1, rfl, hb1, hB1⟩; obtain ⟨A3, c5, rfl, _, _⟩ := hb1.reads; have HW1 := Aside0.mk (And.intro hb1 (And.intro hB1 (HB.out.drew.trans (hB1.mono HB.out.size)))); obtain ⟨d3, d4⟩ := HL.out w1 HW1.out.2.2; clear hb1 hB1 himg) | (refine bufs_append_step (w0 := w0) (W := w1) rfl (.tmp 18) (.tmp 22) rfl (.slice Av xss.length cv) xss nb w.heap.size rfl rfl HW1.out.1 HB.out.size hlow (Kd.R_below (Kd.R_drew HV.out) HW1.out.2.1) HW1.out.2.2 ?hl ?_; (case hl => omega); intro v2 w2 hb2 hB2; obtain ⟨d5, d6⟩ := HL.out w2 hB2; have HW2 := Aside0.mk (And.intro hB2 hb2); clear hB2 hb2) | ((with_reducible refine (IHL.out _ _ HW2.out.1 HW2.out.2).mono ?_); rintro e w3 ⟨v3, rfl, hb3, hB3⟩; obtain ⟨d7, d8⟩ := HL.out w3 hB3; have HW3 := Aside0.mk (And.intro hB3 hb3); clear hB3 hb3 IHL) | ((with_reducible refine (IHR.out _ _ HW3.out.1 HW3.out.2).mono ?_); rintro e w4 ⟨v4, rfl, hb4, hB4⟩; obtain ⟨d9, d10⟩ := HL.out w4 hB4; have HW4 := Aside0.mk (And.intro hB4 hb4); clear hB4 hb4 IHR))
    clear HL HW1 HW2 HW3 d3 d4 d5 d6 d7 d8 d9 d10
    go_wp2
    go_ret
    refine ⟨_, rfl, ?_, HW4.out.1⟩
    have := HW4.out.2
    simp only [Tr.parts]
    rw [HN.out]
    simpa using this
end Go.Proofs.YtkjplffpihfliaaGreatDoor
end

section
/-
  DERIVED: THE SHELF's CONTRACTS AT THIS DUMP, IN PLAIN WORDS (tools/lay-plain.mjs out of 'TryzShelfX.lean', which tools/lay-shelf.mjs wrote): THE SAME DECLARATIONS UNDER THE SAME NAMES: 'import', 'namespace', 'open', 'def', 'theorem' AND NOTHING ELSE: no command of the shelf's: FOR A HAND-IN. Each laying: the table of numbers ('.._ren') and one theorem, a field a fact of the dump's own or the kernel's comparison; each contract: ONE APPLICATION.
-/
namespace Go.Proofs
open Go.Shelf
def Tryz.laysSlJ14_ren : Go.Shelf.Ren := ⟨fun | 14 => 118 | 15 => 161 | n => n, fun | 26 => 57 | 22 => 31 | 3 => 3 | 4 => 4 | 0 => 0 | 9 => 9 | 20 => 20 | 5 => 5 | n => n, fun | n => n⟩
theorem Tryz.laysSlJ14 : Go.Proofs.SlLaysJ.n14 Tryz.prog Tryz.laysSlJ14_ren := {
  mixed := by kernel_rfl
  f14 := Tryz.func118.trans (congrArg some (by kernel_rfl))
  f15 := Tryz.func161.trans (congrArg some (by kernel_rfl))
  t0 := Tryz.underlying0
  a0 := Tryz.isAgg0
  z0 := Tryz.sizeOf0
  v0 := Tryz.zeroValue0
  t3 := Tryz.underlying3
  a3 := Tryz.isAgg3
  z3 := Tryz.sizeOf3
  v3 := Tryz.zeroValue3
  t4 := Tryz.underlying4
  a4 := Tryz.isAgg4
  z4 := Tryz.sizeOf4
  v4 := Tryz.zeroValue4
  t9 := Tryz.underlying9
  a9 := Tryz.isAgg9
  z9 := Tryz.sizeOf9
  v9 := Tryz.zeroValue9
  t20 := Tryz.underlying20
  a20 := Tryz.isAgg20
  z20 := Tryz.sizeOf20
  v20 := Tryz.zeroValue20
  t22 := Tryz.underlying31
  a22 := Tryz.isAgg31
  z22 := Tryz.sizeOf31
  v22 := Tryz.zeroValue31
  t26 := Tryz.underlying57
  a26 := Tryz.isAgg57
  z26 := Tryz.sizeOf57
  v26 := Tryz.zeroValue57
  t5 := Tryz.underlying5
  z5 := Tryz.sizeOf5
  i5 := by kernel_rfl }
open Go.RowKit Go.Lib in
theorem Tryz.bytes_Join_many (b o n c : Nat) (vs : List Value) (ls : List (List UInt8)) (sv : Value) (sep : List UInt8) (w : World) (hn : ls.length = n) (h2 : 2 ≤ n) (hP : Lib.PartsAt w ⟨b, o, none⟩ vs ls) (hcap : n ≤ c) (hS : Lib.HoldsBytes w sv sep) (hn47 : n ≤ 140737488355328) (hlen : Lib.lens ls + sep.length * (n - 1) ≤ 140737488355328) :
    Calls Tryz.prog 118 #[.slice (some ⟨b, o, none⟩) n c, sv] w fun e w' => ∃ v', e = .returned v' ∧ Lib.FreshBytes w.heap.size w' v' (Lib.join ls sep) ∧ Below w.heap.size w w' := Any.bytes_Join_many Tryz.laysSlJ14 b o n c vs ls sv sep w hn h2 hP hcap hS hn47 hlen
open Go.RowKit Go.Lib in
/-- bytes.Join of no part (nil too): '[]byte{}': a slice of no byte THAT IS NOT nil, at the head of a new, empty row. (LAID: no walk: one application.) -/
theorem Tryz.bytes_Join_none (p : Option Addr) (c : Nat) (sv : Value) (w : World) :
    Calls Tryz.prog 118 #[.slice p 0 c, sv] w fun e w' => e = .returned (.slice (some ⟨w.heap.size, 0, none⟩) 0 0) ∧ w' = w.alloc (.cells #[] 5) := Any.bytes_Join_none Tryz.laysSlJ14 p c sv w
open Go.RowKit Go.Lib in
/-- bytes.Join of ONE part, of one byte or more: 'append([]byte(nil), s[0]...)': a new []byte of its bytes; sep is not looked at. (LAID: no walk: one application.) -/
theorem Tryz.bytes_Join_one (b o c : Nat) (ad0 : Addr) (c0 : Nat) (l0 : List UInt8) (sv : Value) (w : World) (hcell : w.cell? ⟨b, o, none⟩ = some (.slice (some ad0) l0.length c0)) (hc : ∀ (i : Nat) x, l0[i]? = some x → w.cell? (ad0.add i) = some (.int .u8 (x.toNat : Int))) (h0 : 0 < l0.length) (hs : l0.length ≤ 140737488355328) :
    Calls Tryz.prog 118 #[.slice (some ⟨b, o, none⟩) 1 c, sv] w fun e w' => ∃ v', e = .returned v' ∧ Lib.FreshBytes w.heap.size w' v' l0 ∧ Below w.heap.size w w' := Any.bytes_Join_one Tryz.laysSlJ14 b o c ad0 c0 l0 sv w hcell hc h0 hs
open Go.RowKit Go.Lib in
/-- bytes.Join of ONE part of no byte (nil or not): 'append([]byte(nil), s[0]...)' IS nil; the world is as it was. (LAID: no walk: one application.) -/
theorem Tryz.bytes_Join_one_empty (b o c : Nat) (p0 : Option Addr) (c0 : Nat) (sv : Value) (w : World) (hcell : w.cell? ⟨b, o, none⟩ = some (.slice p0 0 c0)) :
    Calls Tryz.prog 118 #[.slice (some ⟨b, o, none⟩) 1 c, sv] w fun e w' => e = .returned (.slice none 0 0) ∧ w' = w := Any.bytes_Join_one_empty Tryz.laysSlJ14 b o c p0 c0 sv w hcell
end Go.Proofs
end
