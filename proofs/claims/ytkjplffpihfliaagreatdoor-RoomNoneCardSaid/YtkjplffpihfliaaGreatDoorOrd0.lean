/- The nodes of package order in memory, and the contracts of the small functions on them. -/
import Derived.Test.YtkjplffpihfliaaGreatDoorRefA
import Derived.WalkKit
import Derived.WalkLawsBesides
import Derived.Lib.Hide
import Derived.Deep.RegionHeld3
namespace Go.Proofs.YtkjplffpihfliaaGreatDoor
open Go.RowKit Go.Proofs.YtkjplffpihfliaaGreatDoorW.PrintWords

/-- What a tree of nodes holds. -/
inductive Tr where
  | nil
  | node (k v : List Int) (h : Int) (l r : Tr) (sz dg : Int)

namespace Tr
def size : Tr → Int
  | .nil => 0
  | .node _ _ _ _ _ sz _ => sz
def dig : Tr → Int
  | .nil => 0
  | .node _ _ _ _ _ _ dg => dg
end Tr

/-- Bytes that the call owns. -/
abbrev BytesAt (w : World) (base : Nat) (ok : Nat → Prop) (v : Value) (xs : List Int) : Prop := Kd.R (Kd.int .u8) 5 w base ok v xs

def nodeObj (kv vv : Value) (h : Int) (pl pr : Option Addr) (sz dg : Int) : Obj :=
  .cells #[kv, vv, .int .u64 h, .pointer pl, .pointer pr, .int .i64 sz, .int .u64 dg] 174 (0, 0)

/-- A tree of nodes from p on: its node blocks are N. -/
def IsTree (w : World) (base : Nat) (ok : Nat → Prop) : Option Addr → Tr → List Nat → Prop
  | p, .nil, N => p = none ∧ N = []
  | p, .node k v h l r sz dg, N => ∃ b kv vv pl pr Nl Nr, p = some ⟨b, 0, none⟩ ∧ base ≤ b ∧ w.heap[b]? = some (nodeObj kv vv h pl pr sz dg) ∧
      BytesAt w base ok kv k ∧ BytesAt w base ok vv v ∧ IsTree w base ok pl l Nl ∧ IsTree w base ok pr r Nr ∧ N = b :: (Nl ++ Nr)

theorem count_any (w : World) (base : Nat) (ok : Nat → Prop) (p : Option Addr) (T : Tr) (N : List Nat) (h : IsTree w base ok p T N) :
    Calls Tryz.prog 113 #[.pointer p] w fun e w' => e = .returned (.int .i64 T.size) ∧ w = w' := by
  cases T with
  | nil =>
    obtain ⟨rfl, _⟩ := h
    go_enter Tryz.func113, Tryz.ntmps113
    go_wp2
    go_ret
    exact ⟨rfl, rfl⟩
  | node k v h l r sz dg =>
    obtain ⟨b, kv, vv, pl, pr, Nl, Nr, rfl, hb, hblk, _⟩ := h
    have c5 := blk_cell hblk 5
    simp at c5
    go_enter Tryz.func113, Tryz.ntmps113
    go_wp2
    go_ret
    exact ⟨rfl, rfl⟩

theorem sum_any (w : World) (base : Nat) (ok : Nat → Prop) (p : Option Addr) (T : Tr) (N : List Nat) (h : IsTree w base ok p T N) :
    Calls Tryz.prog 191 #[.pointer p] w fun e w' => e = .returned (.int .u64 T.dig) ∧ w = w' := by
  cases T with
  | nil =>
    obtain ⟨rfl, _⟩ := h
    go_enter Tryz.func191, Tryz.ntmps191
    go_wp2
    go_ret
    exact ⟨rfl, rfl⟩
  | node k v h l r sz dg =>
    obtain ⟨b, kv, vv, pl, pr, Nl, Nr, rfl, hb, hblk, _⟩ := h
    have c6 := blk_cell hblk 6
    simp at c6
    go_enter Tryz.func191, Tryz.ntmps191
    go_wp2
    go_ret
    exact ⟨rfl, rfl⟩
end Go.Proofs.YtkjplffpihfliaaGreatDoor
