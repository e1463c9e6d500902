/- Maps with string keys in memory, entry by entry: look-up, update, delete, length. -/
import Derived.Test.YtkjplffpihfliaaGreatDoorEnv
import Derived.WideMake
import Derived.ChangeMaps5
import Derived.Maps.OwnOps
namespace Go.Proofs.YtkjplffpihfliaaGreatDoor
open Go.RowKit Go.Proofs.YtkjplffpihfliaaGreatDoorW.PrintWords PAll

/-- Block b is a map of strings, with these keys and values in the order of their coming. -/
def SMap (w : World) (b : Nat) (l : List (ByteArray × Value)) : Prop :=
  ∃ es clock, w.heap[b]? = some (.map es clock) ∧ es.toList.map (fun e => (e.key, e.val)) = l.map (fun p => (Value.string p.1, p.2)) ∧ (l.map Prod.fst).Nodup ∧ (es.toList.map MapEntry.born).Pairwise (· < ·) ∧ ∀ e ∈ es.toList, e.born < clock

def sget {α : Type} : List (ByteArray × α) → ByteArray → Option α
  | [], _ => none
  | (k, v) :: r, s => if s = k then some v else sget r s
def sput {α : Type} : List (ByteArray × α) → ByteArray → α → List (ByteArray × α)
  | [], s, v => [(s, v)]
  | (k, u) :: r, s, v => if s = k then (s, v) :: r else (k, u) :: sput r s v

theorem SMap.kept {w w' : World} {b : Nat} {l : List (ByteArray × Value)} {S : Nat → Prop} (h : SMap w b l) (hk : KeptE w w' S) (hs : ¬ S b) : SMap w' b l := by
  obtain ⟨es, clock, hb, h1, h2, h3, h4⟩ := h
  exact ⟨es, clock, (hk.1.2 b (Array.getElem?_eq_some_iff.1 hb).1 hs).trans hb, h1, h2, h3, h4⟩
theorem SMap.lt {w : World} {b : Nat} {l : List (ByteArray × Value)} (h : SMap w b l) : b < w.heap.size := by
  obtain ⟨es, clock, hb, _⟩ := h
  exact (Array.getElem?_eq_some_iff.1 hb).1
theorem SMap.made (w : World) : SMap (w.alloc (.map #[] 0)) w.heap.size [] := ⟨#[], 0, heap_alloc_new w _, rfl, List.nodup_nil, List.Pairwise.nil, fun _ h => by simp at h⟩
theorem SMap.size {w : World} {b : Nat} {l : List (ByteArray × Value)} {es : Array MapEntry} {clock : Nat} (h : SMap w b l) (hb : w.heap[b]? = some (.map es clock)) : es.size = l.length := by
  obtain ⟨es', clock', hb', h1, _⟩ := h
  rw [hb'] at hb
  cases hb
  have := congrArg List.length h1
  simpa using this

theorem ba_beq (a b : ByteArray) : (a == b) = decide (a = b) := by
  cases a with | mk x => cases b with | mk y =>
  show (x == y) = _
  by_cases h : x = y
  · subst h; simp
  · simp [h]
theorem findNow_s (s : ByteArray) : ∀ (es : List MapEntry) (l : List (ByteArray × Value)) (i : Nat), es.map (fun e => (e.key, e.val)) = l.map (fun p => (Value.string p.1, p.2)) →
    Instr.findNow .string (.string s) es i = some none ∧ sget l s = none ∨ ∃ j v, Instr.findNow .string (.string s) es i = some (some (i + j, v)) ∧ sget l s = some v ∧ (es[j]?).map MapEntry.key = some (.string s) ∧ j < es.length
  | [], [], _, _ => .inl ⟨rfl, rfl⟩
  | e :: es, [], _, h => by simp at h
  | [], p :: l, _, h => by simp at h
  | e :: es, (k, v) :: l, i, h => by
    simp only [List.map_cons, List.cons.injEq, Prod.mk.injEq] at h
    obtain ⟨⟨hk, hv⟩, hr⟩ := h
    by_cases he : s = k
    · subst he
      refine .inr ⟨0, v, ?_, by simp [sget], by simp [hk], by simp⟩
      simp [Instr.findNow, Instr.sameNow, hk, hv, ba_beq]
    · have hne : (s == k) = false := by rw [ba_beq]; simpa using he
      rcases findNow_s s es l (i + 1) hr with ⟨h1, h2⟩ | ⟨j, u, h1, h2, h3, h4⟩
      · exact .inl ⟨by simp [Instr.findNow, Instr.sameNow, hk, hne, h1], by simp [sget, he, h2]⟩
      · refine .inr ⟨j + 1, u, ?_, by simp [sget, he, h2], by simpa using h3, by simp; omega⟩
        simp [Instr.findNow, Instr.sameNow, hk, hne, h1]
        omega

theorem smap_lookup {P : Program} {w : World} {b : Nat} {l : List (ByteArray × Value)} (h : SMap w b l) (mty kt et : TypeId) (hm : P.underlying mty = some (.map kt et)) (hk : P.underlying kt = some .string) (z : Value) (hz : (zeroValue et).run P w = .ok z w) (s : ByteArray) (c : Bool) :
    (Instr.lookup mty (.map (some b)) (.string s) c).run P w = .ok (if c then .tuple #[(sget l s).getD z, .bool (sget l s).isSome] else (sget l s).getD z) w := by
  obtain ⟨es, clock, hb, h1, _⟩ := h
  have hc : (Instr.checkKey es.isEmpty 10000 kt (.string s)).run P w = .ok () w := MapKept.run_checkKey (k := .string s) hk (by simp [MapKept.IsKey]) _ 9999
  rcases findNow_s s es.toList l 0 h1 with ⟨h2, h3⟩ | ⟨j, v, h2, h3, _⟩
  · cases c <;> simp [Instr.lookup, run_underlying hm, MapKept.run_getObj_map hb, hc, MapKept.run_findKey hk h2, Result.andThen, h3, hz]
  · cases c <;> simp [Instr.lookup, run_underlying hm, MapKept.run_getObj_map hb, hc, MapKept.run_findKey hk h2, Result.andThen, h3]

theorem sget_none : ∀ {l : List (ByteArray × Value)} {s : ByteArray}, sget l s = none → s ∉ l.map Prod.fst
  | [], _, _ => by simp
  | (k, u) :: l, s, h => by
    unfold sget at h
    split at h
    · cases h
    · rename_i hne
      simp only [List.map_cons, List.mem_cons, not_or]
      exact ⟨hne, sget_none h⟩
theorem sput_none : ∀ {l : List (ByteArray × Value)} {s : ByteArray} (v : Value), sget l s = none → sput l s v = l ++ [(s, v)]
  | [], _, _, _ => rfl
  | (k, u) :: l, s, v, h => by
    unfold sget at h
    split at h
    · cases h
    · rename_i hne
      simp [sput, hne, sput_none v h]
theorem sput_keys : ∀ {l : List (ByteArray × Value)} {s : ByteArray} {u : Value} (v : Value), sget l s = some u → (sput l s v).map Prod.fst = l.map Prod.fst
  | [], _, _, _, h => by cases h
  | (k, u) :: l, s, _, v, h => by
    unfold sget at h
    unfold sput
    split
    · rename_i he; simp [he]
    · rename_i hne
      rw [if_neg hne] at h
      simp [sput_keys v h]
theorem sput_nodup {l : List (ByteArray × Value)} {s : ByteArray} {v : Value} (h : (l.map Prod.fst).Nodup) : ((sput l s v).map Prod.fst).Nodup := by
  cases hg : sget l s with
  | none =>
    rw [sput_none v hg, List.map_append]
    simp only [List.map_cons, List.map_nil]
    exact List.nodup_append.2 ⟨h, by simp, fun a ha b hb e => by
      rw [List.mem_singleton] at hb
      exact sget_none hg (hb ▸ e ▸ ha)⟩
  | some u => rw [sput_keys v hg]; exact h
theorem modify_s (s : ByteArray) (v : Value) : ∀ (es : List MapEntry) (l : List (ByteArray × Value)) (i j : Nat) (u : Value), es.map (fun e => (e.key, e.val)) = l.map (fun p => (Value.string p.1, p.2)) →
    Instr.findNow .string (.string s) es i = some (some (i + j, u)) → (es.modify j (fun e => { e with key := .string s, val := v })).map (fun e => (e.key, e.val)) = (sput l s v).map (fun p => (Value.string p.1, p.2))
  | [], [], _, _, _, _, h => by simp [Instr.findNow] at h
  | e :: es, [], _, _, _, h, _ => by simp at h
  | [], p :: l, _, _, _, h, _ => by simp at h
  | e :: es, (k, v0) :: l, i, j, u, h, hf => by
    simp only [List.map_cons, List.cons.injEq, Prod.mk.injEq] at h
    obtain ⟨⟨hk, hv⟩, hr⟩ := h
    by_cases he : s = k
    · subst he
      simp [Instr.findNow, Instr.sameNow, hk, hv, ba_beq] at hf
      have hj : j = 0 := by omega
      subst hj
      simp [sput, hr]
    · have hne : (s == k) = false := by rw [ba_beq]; simpa using he
      simp [Instr.findNow, Instr.sameNow, hk, hne] at hf
      cases j with
      | zero =>
        exfalso
        rcases findNow_s s es l (i + 1) hr with ⟨h1, _⟩ | ⟨j', u', h1, _⟩
        · rw [h1] at hf; cases hf
        · rw [h1] at hf; simp at hf; omega
      | succ j =>
        have := modify_s s v es l (i + 1) j u hr (by rw [hf]; congr 3; omega)
        simp [sput, he, hk, hv, this]
theorem setBlock_kept (w : World) (b : Nat) (o : Obj) : KeptE w { w with heap := w.heap.setIfInBounds b o } (fun k => k = b) :=
  ⟨⟨by simp, fun i hi hn => by
    show (w.heap.setIfInBounds b o)[i]? = _
    rw [Array.getElem?_setIfInBounds_ne (fun e => hn e.symm)]⟩, rfl, rfl, rfl⟩
theorem setBlock_at {w : World} {b : Nat} (o : Obj) (h : b < w.heap.size) : ({ w with heap := w.heap.setIfInBounds b o } : World).heap[b]? = some o := by
  show (w.heap.setIfInBounds b o)[b]? = _
  rw [Array.getElem?_setIfInBounds_self_of_lt h]

theorem smap_update {P : Program} {w : World} {b : Nat} {l : List (ByteArray × Value)} (h : SMap w b l) (mty kt et : TypeId) (hm : P.underlying mty = some (.map kt et)) (hk : P.underlying kt = some .string) (s : ByteArray) (v : Value) :
    ∃ o, (Instr.mapUpdate mty (.map (some b)) (.string s) v).run P w = .ok () { w with heap := w.heap.setIfInBounds b o } ∧ SMap { w with heap := w.heap.setIfInBounds b o } b (sput l s v) := by
  have hlt := h.lt
  obtain ⟨es, clock, hb, h1, hn, hp, hcl⟩ := h
  have hc : (Instr.checkKey false 10000 kt (.string s)).run P w = .ok () w := MapKept.run_checkKey (k := .string s) hk (by simp [MapKept.IsKey]) _ 9999
  rcases findNow_s s es.toList l 0 h1 with ⟨h2, h3⟩ | ⟨j, u, h2, h3, h4, h5⟩
  · refine ⟨.map (es.push { key := .string s, val := v, born := clock }) (clock + 1), ?_, ?_⟩
    · simp [Instr.mapUpdate, run_underlying hm, MapKept.run_getObj_map hb, hc, MapKept.run_findKey hk h2, MapKept.run_setObj_map _ hb, Result.andThen]
    · refine ⟨_, _, setBlock_at _ hlt, ?_, sput_nodup hn, ?_, ?_⟩
      · rw [sput_none v h3]; simp [h1]
      · simp only [Array.toList_push, List.map_append, List.map_cons, List.map_nil]
        refine List.pairwise_append.2 ⟨hp, by simp, fun a ha c hc' => ?_⟩
        rw [List.mem_singleton] at hc'
        obtain ⟨e, he, rfl⟩ := List.mem_map.1 ha
        rw [hc']
        exact hcl e he
      · intro e he
        rw [Array.toList_push, List.mem_append, List.mem_singleton] at he
        rcases he with he | rfl
        · exact Nat.lt_succ_of_lt (hcl e he)
        · exact Nat.lt_succ_self _
  · refine ⟨.map (es.modify j fun e => { e with key := .string s, val := v }) clock, ?_, ?_⟩
    · have hsb : Instr.sameBits 10000 (.string s) (.string s) = true := by simp [Instr.sameBits, ba_beq]
      have hkk : ((es[j]?).map MapEntry.key).getD (.string s) = .string s := by
        rw [Array.getElem?_toList] at h4
        rw [h4]; rfl
      simp [Instr.mapUpdate, run_underlying hm, MapKept.run_getObj_map hb, hc, MapKept.run_findKey hk h2, MapKept.run_setObj_map _ hb, Result.andThen, Instr.keyThatStays, hkk, hsb]
    · have hbn : ((es.modify j fun e => { e with key := .string s, val := v }).toList).map MapEntry.born = es.toList.map MapEntry.born := by
        rw [Array.toList_modify]
        apply List.ext_getElem?
        intro i
        simp only [List.getElem?_map, List.getElem?_modify]
        cases hi : es.toList[i]? with
        | none => rfl
        | some e => by_cases hji : j = i <;> simp [hji]
      refine ⟨_, _, setBlock_at _ hlt, ?_, sput_nodup hn, ?_, ?_⟩
      · rw [Array.toList_modify]
        exact modify_s s v es.toList l 0 j u h1 h2
      · rw [hbn]; exact hp
      · intro e he
        have : e.born ∈ ((es.modify j fun e => { e with key := .string s, val := v }).toList).map MapEntry.born := List.mem_map_of_mem he
        rw [hbn] at this
        obtain ⟨e', he', e2⟩ := List.mem_map.1 this
        rw [← e2]
        exact hcl e' he'
end Go.Proofs.YtkjplffpihfliaaGreatDoor
