/- What an operation leaves of memory, and of the world outside. -/
import Derived.Test.YtkjplffpihfliaaGreatDoorClone
namespace Go.Proofs.YtkjplffpihfliaaGreatDoor
open Go.RowKit Go.Proofs.YtkjplffpihfliaaGreatDoorW.PrintWords PAll

/-- Kept, and the world outside as it was. -/
def KeptE (w W : World) (S : Nat → Prop) : Prop := Kept w W S ∧ W.os = w.os ∧ W.tape = w.tape ∧ W.output = w.output
section
variable {w W W2 : World} {S S2 S' : Nat → Prop}
theorem KeptE.refl (w : World) (S : Nat → Prop) : KeptE w w S := ⟨Kept.refl _ _, rfl, rfl, rfl⟩
theorem KeptE.of_below (h : Below w.heap.size w W) (S : Nat → Prop) : KeptE w W S := ⟨Kept.of_below h S, h.os, h.tape, h.output⟩
theorem KeptE.mono (h : KeptE w W S) (hs : ∀ k, S k → S' k) : KeptE w W S' := ⟨h.1.mono hs, h.2⟩
theorem KeptE.then_ (h : KeptE w W S) (k : KeptE W W2 S2) (hs : ∀ k, S2 k → S k ∨ w.heap.size ≤ k) : KeptE w W2 S :=
  ⟨h.1.then_ k.1 hs, k.2.1.trans h.2.1, k.2.2.1.trans h.2.2.1, k.2.2.2.trans h.2.2.2⟩
theorem KeptE.of_grown {row : Option Nat} (hg : W.grownBy W2 row) (h : KeptE w W S) (hr : ∀ k, row = some k → S k ∨ w.heap.size ≤ k) : KeptE w W2 S :=
  ⟨Kept.of_grown hg h.1 hr, hg.os.trans h.2.1, hg.tape.trans h.2.2.1, hg.output.trans h.2.2.2⟩
theorem KeptE.below (h : KeptE w W S) (hb : Below W.heap.size W W2) : KeptE w W2 S := h.then_ (KeptE.of_below hb (fun _ => False)) (fun _ hk => hk.elim)
theorem KeptE.alloc (h : KeptE w W S) (o : Obj) : KeptE w (W.alloc o) S := ⟨h.1.alloc o, h.2⟩
theorem KeptE.drew (h : KeptE w W S) : KeptE w W.drew S := ⟨h.1.drew, h.2⟩
theorem KeptE.drewN (h : KeptE w W S) (m : Nat) : KeptE w (W.drewN m) S := ⟨h.1.drewN m, h.2⟩
theorem KeptE.setCell (h : KeptE w W S) {p : Addr} (hp : S p.block ∨ w.heap.size ≤ p.block) (u : Value) : KeptE w (W.setCell p u) S := ⟨h.1.setCell hp u, h.2⟩
theorem KeptE.size (h : KeptE w W S) : w.heap.size ≤ W.heap.size := h.1.1
theorem KeptE.to_below {B : Nat} {w0 : World} (h : KeptE w W S) (hb : Below B w0 w) (hB : B ≤ w.heap.size) (hS : ∀ k, S k → B ≤ k) : Below B w0 W :=
  ⟨h.2.1.trans hb.os, h.2.2.1.trans hb.tape, h.2.2.2.trans hb.output, Nat.le_trans hb.size h.1.1, fun k hk => (h.1.2 k (Nat.lt_of_lt_of_le hk hB) (fun hs => by have := hS k hs; omega)).trans (hb.block k hk)⟩
end
end Go.Proofs.YtkjplffpihfliaaGreatDoor
