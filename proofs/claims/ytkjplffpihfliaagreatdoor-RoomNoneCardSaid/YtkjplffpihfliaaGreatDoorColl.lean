/- maps.Keys and slices.Collect, slices.Sorted over maps with string keys. -/
import Derived.Test.YtkjplffpihfliaaGreatDoorShKeys
import Derived.Test.YtkjplffpihfliaaGreatDoorMake
namespace Go.Proofs.YtkjplffpihfliaaGreatDoor
open Go.RowKit Go.Proofs.YtkjplffpihfliaaGreatDoorW.PrintWords PAll

def anyR : Value → Option (DataW Unit × List MemPlace) := fun _ => some (.nil, [])
def keyD (l : List (ByteArray × Value)) : DataW Unit := .map ((l.map fun p => (Lit.string p.1.data.toList, DataW.nil)).foldr DataW.insert [])
theorem keyD_keys (l : List (ByteArray × Value)) : (strKeys (keyD l)).Perm (l.map fun p => p.1.data.toList) := by
  have h := (Go.WideShapes.sorted_perm (l.map fun p => ((Lit.string p.1.data.toList, DataW.nil) : Lit × DataW Unit))).map (fun p => strOf p.1)
  rw [List.map_map] at h
  exact h
theorem keyD_size (l : List (ByteArray × Value)) : Maps.size (keyD l) = l.length := by
  show (((l.map fun p => (Lit.string p.1.data.toList, DataW.nil)).foldr DataW.insert [] : List (Lit × DataW Unit))).length = _
  rw [length_sorted]
  simp
theorem smap_owns {P : Program} {kt : TypeId} (hk : P.underlying kt = some .string) {w : World} {b : Nat} {l : List (ByteArray × Value)} (h : SMap w b l) (hl : l.length ≤ 100000) (hs : ∀ p ∈ l, p.1.size ≤ 100000) : w.ownsMap P kt anyR b l.length (keyD l) := by
  have hsz := fun es clock hb => h.size (es := es) (clock := clock) hb
  obtain ⟨es, clock, hb, h1, h2, h3, h4⟩ := h
  have hrd : ∀ (es : List MapEntry) (l : List (ByteArray × Value)), es.map (fun e => (e.key, e.val)) = l.map (fun p => (Value.string p.1, p.2)) → (∀ p ∈ l, p.1.size ≤ 100000) →
      (∀ x ∈ es, ∃ y, Go.WideElems.rd P kt anyR x = some y) ∧ es.map (Go.WideElems.rg P kt anyR) = l.map fun p => ((Lit.string p.1.data.toList, DataW.nil) : Lit × DataW Unit) := by
    intro es
    induction es with
    | nil =>
      intro l h _
      cases l with
      | nil => exact ⟨fun _ h => (by cases h), rfl⟩
      | cons p l => simp at h
    | cons e es ih =>
      intro l h hs
      cases l with
      | nil => simp at h
      | cons p l =>
        simp only [List.map_cons, List.cons.injEq, Prod.mk.injEq] at h
        obtain ⟨⟨k1, k2⟩, k3⟩ := h
        obtain ⟨i1, i2⟩ := ih l k3 (fun q hq => hs q (List.mem_cons_of_mem _ hq))
        have hp := hs p (List.mem_cons_self ..)
        have hr : Go.WideElems.rd P kt anyR e = some (Lit.string p.1.data.toList, DataW.nil) := by
          unfold Go.WideElems.rd
          rw [k1]
          have : Go.keyOf P kt (Value.string p.1) = some (Lit.string p.1.data.toList) := by
            simp [Go.keyOf, hk, mapKey]
            unfold maxLen
            omega
          rw [this]
          rfl
        refine ⟨fun x hx => ?_, ?_⟩
        · rcases List.mem_cons.1 hx with rfl | hx
          · exact ⟨_, hr⟩
          · exact i1 x hx
        · rw [List.map_cons, List.map_cons, i2, Go.WideElems.rg_of hr]
  obtain ⟨r1, r2⟩ := hrd es.toList l h1 hs
  have hes := hsz es clock hb
  refine ⟨es, clock, hb, ⟨by unfold maxLen; omega, ?_, r1⟩, by omega, ?_⟩
  · refine ⟨h4, ?_, ?_⟩
    · exact h3.imp (fun h => Nat.ne_of_lt h)
    · have e : es.toList.map (·.key) = (l.map Prod.fst).map Value.string := by
        have := congrArg (List.map Prod.fst) h1
        rw [List.map_map, List.map_map] at this
        rw [List.map_map]
        exact this
      rw [e]
      exact List.pairwise_map.2 (h2.imp (fun h e => h (by injection e)))
  · rw [r2]; rfl

/-- The function value that maps.Keys gives for the map in the box at block b. -/
abbrev keyFn (g b : Nat) : Value := .func (.func g) #[] #[.pointer (some ⟨b, 0, none⟩)]
abbrev Keyed (w' : World) (base : Nat) (l : List (ByteArray × Value)) (v : Value) (ss : List (List UInt8)) : Prop :=
  ss.Perm (l.map fun p => p.1.data.toList) ∧ w'.ownsRow base 9 1 v ss.length (ss.map encStr)
theorem keysN_any (w : World) (mb : Option Nat) : Calls Tryz.prog 120 #[.map mb] w fun e w' => e = .returned (keyFn 163 w.heap.size) ∧ w' = w.alloc (.cells #[.map mb] tNodes) :=
  callsIn_wide.1 (AnyZ.keys_in Tryz.keysN Fence.wide 5 trivial rfl mb w)
theorem keysB_any (w : World) (mb : Option Nat) : Calls Tryz.prog 73 #[.map mb] w fun e w' => e = .returned (keyFn 126 w.heap.size) ∧ w' = w.alloc (.cells #[.map mb] 60) :=
  callsIn_wide.1 (AnyZ.keys_in Tryz.keysB Fence.wide 5 trivial rfl mb w)
/-- slices.Collect of the keys of a map. -/
theorem collectB_any (w : World) (Bm b : Nat) (l : List (ByteArray × Value)) (hm : w.cell? ⟨Bm, 0, none⟩ = some (.map (some b))) (h : SMap w b l) (hl : l.length ≤ 100000) (hs : ∀ p ∈ l, p.1.size ≤ 100000) :
    Calls Tryz.prog 124 #[keyFn 126 Bm] w fun e w' => ∃ v ss, e = .returned v ∧ Keyed w' w.heap.size l v ss ∧ Below w.heap.size w w' := by
  have hown := smap_owns Tryz.underlying9 h hl hs
  have hB : Bm < w.heap.size := World.block_lt_of_cell? _ _ hm
  have hz := keyD_size l
  have hseq : SeqGives Fence.wide 3 Tryz.prog 126 #[.pointer (some ⟨Bm, 0, none⟩)] encStr (fun ss => ss.Perm (strKeys (keyD l))) (Maps.size (keyD l)) w :=
    AnyZ.keys_gives (ρ := Tryz.keysB_ren) { Tryz.keysB with } Fence.wide _ trivial rfl (by omega) Bm b l.length (keyD l) w hB hm hown
  have hc := AnyZ.collect_in (ρ := Tryz.sortedS_ren) { Tryz.sortedS with } Fence.wide 5 trivial trivial rfl (by omega) 126 #[.pointer (some ⟨Bm, 0, none⟩)] trivial (enters_of Tryz.func126 (by kernel_rfl) rfl) _ _ (by unfold maxLen; omega) (by omega) w hseq
  refine (callsIn_wide.1 hc).mono ?_
  rintro e w' ⟨v, ss, rfl, hS, hrow, _, hb⟩
  exact ⟨v, ss, rfl, ⟨hS.trans (keyD_keys l), hrow⟩, hb⟩
theorem sortsS (m : Nat) : AnyZ.SortsIn Tryz.prog Tryz.sortedS_ren Fence.wide m :=
  ⟨fun blk off cap ss W hH hblk hsz => callsIn_wide.2 (AnyM.slices_Sort_string Tryz.sortS blk off cap ss W hH hblk hsz),
   fun p cap W => callsIn_wide.2 (AnyM.slices_Sort_string_none Tryz.sortS p cap W)⟩
/-- slices.Sorted of the keys of a map. -/
theorem sortedN_any (w : World) (Bm b : Nat) (l : List (ByteArray × Value)) (hm : w.cell? ⟨Bm, 0, none⟩ = some (.map (some b))) (h : SMap w b l) (hl : l.length ≤ 100000) (hs : ∀ p ∈ l, p.1.size ≤ 100000) :
    Calls Tryz.prog 119 #[keyFn 163 Bm] w fun e w' => ∃ v, e = .returned v ∧
      w'.ownsRow w.heap.size 9 1 v l.length (((l.map fun p => p.1.data.toList).mergeSort leB).map encStr) ∧ Below w.heap.size w w' := by
  have hown := smap_owns Tryz.underlying9 h hl hs
  have hB : Bm < w.heap.size := World.block_lt_of_cell? _ _ hm
  have hz := keyD_size l
  have hseq : SeqGives Fence.wide 2 Tryz.prog 163 #[.pointer (some ⟨Bm, 0, none⟩)] encStr (fun ss => ss.Perm (strKeys (keyD l))) (Maps.size (keyD l)) w :=
    AnyZ.keys_gives (ρ := Tryz.keysN_ren) { Tryz.keysN with } Fence.wide _ trivial rfl (by omega) Bm b l.length (keyD l) w hB hm hown
  have hc := AnyZ.sorted_in Tryz.sortedS Fence.wide 5 trivial trivial trivial trivial rfl (by omega) (sortsS _) (enters_of Tryz.func162 (by kernel_rfl) rfl) 163 #[.pointer (some ⟨Bm, 0, none⟩)] trivial (enters_of Tryz.func163 (by kernel_rfl) rfl) _ _ (by unfold maxLen; omega) (by omega) w hseq
  refine (callsIn_wide.1 hc).mono ?_
  rintro e w' ⟨v, ss, rfl, hS, hrow, _, hb⟩
  have hp := hS.trans (keyD_keys l)
  have hn : ss.length = l.length := by rw [hp.length_eq]; simp
  refine ⟨v, rfl, ?_, hb⟩
  rw [← mergeSort_of_perm hp, ← hn]
  exact hrow
end Go.Proofs.YtkjplffpihfliaaGreatDoor
