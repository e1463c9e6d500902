/- Plain facts on the printed functions order.little and slots.Coin: what they give, without rounds. -/
import Derived.Test.YtkjplffpihfliaaGreatDoorRefA
namespace Go.Proofs.YtkjplffpihfliaaGreatDoor
open Go.RowKit Go.Proofs.YtkjplffpihfliaaGreatDoorW.PrintWords PAll

/-- The first n bytes of a number, the least one first. -/
def lit : Int → Nat → List Int
  | _, 0 => []
  | x, n + 1 => (x % 256) :: lit (x / 256) n
theorem lit_length : ∀ (n : Nat) (x : Int), (lit x n).length = n
  | 0, _ => rfl
  | n + 1, x => by simp [lit, lit_length n]

theorem little_l0 (n : Nat) : ∀ (k : Nat) (l : List Int) (x i : Int) (N : Int), 0 ≤ i → N - i = n → N ≤ 1000 → n < k → l.length + n ≤ 140737488355328 →
    order_little.l0 k l x N i = some (l ++ lit x n) := by
  induction n with
  | zero =>
    intro k l x i N h0 h1 hN hk hl
    obtain ⟨k, rfl⟩ : ∃ m, k = m + 1 := ⟨k - 1, by omega⟩
    simp only [order_little.l0]
    rw [if_neg (by omega)]
    simp [lit]
  | succ n ih =>
    intro k l x i N h0 h1 hN hk hl
    obtain ⟨k, rfl⟩ : ∃ m, k = m + 1 := ⟨k - 1, by omega⟩
    simp only [order_little.l0]
    rw [if_pos (by omega), if_pos (by omega), show wrap64 (i + 1) = i + 1 by unfold wrap64; omega, ih k _ _ _ _ (by omega) (by omega) hN (by omega) (by simp; omega)]
    simp [lit]
theorem little_f (n : Nat) (l : List Int) (x : Int) (hn : n ≤ 1000) (hl : l.length + n ≤ 140737488355328) : order_little.f (n + 1) l x n = some (l ++ lit x n) :=
  little_l0 n (n + 1) l x 0 n (by omega) (by omega) (by omega) (by omega) hl

theorem coin_l0 (x2 : List Int) (xs : List Int) (d : Nat) : ∀ (k : Nat) (h i : Int), 0 ≤ i → (xs.length : Int) - i = d → xs.length ≤ 140737488355328 → d < k → ∃ r, slots_Coin.l0 k x2 h xs xs.length i = some r := by
  induction d with
  | zero =>
    intro k h i h0 h1 hm hk
    obtain ⟨k, rfl⟩ : ∃ m, k = m + 1 := ⟨k - 1, by omega⟩
    exact ⟨_, by simp only [slots_Coin.l0]; rw [if_neg (by omega)]⟩
  | succ d ih =>
    intro k h i h0 h1 hm hk
    obtain ⟨k, rfl⟩ : ∃ m, k = m + 1 := ⟨k - 1, by omega⟩
    obtain ⟨r, hr⟩ := ih k (IntKind.u64.wrap ((Go.bits .xor .u64 h (IntKind.u64.wrap (rd xs i))) * 1099511628211)) (i + 1) (by omega) (by omega) hm (by omega)
    refine ⟨r, ?_⟩
    simp only [slots_Coin.l0]
    rw [if_pos (by omega), if_pos h0, if_pos (by omega), show wrap64 (i + 1) = i + 1 by unfold wrap64; omega]
    exact hr
/-- The coin of some bytes. -/
def coin (seed tag : Int) (l : List Int) : Int := (slots_Coin.f (l.length + 1) seed tag l).getD 0
theorem coin_f (seed tag : Int) (l : List Int) (hl : l.length ≤ 140737488355328) : slots_Coin.f (l.length + 1) seed tag l = some (coin seed tag l) := by
  obtain ⟨r, hr⟩ := coin_l0 l l l.length (l.length + 1) (IntKind.u64.wrap (seed + (IntKind.u64.wrap ((IntKind.u64.wrap ((IntKind.u64.wrap (tag)) + 1)) * 11400714819323198485)))) 0 (by omega) (by omega) hl (by omega)
  have : slots_Coin.f (l.length + 1) seed tag l = some r := hr
  unfold coin
  rw [this]
  rfl
/-- What the digest of a node is the coin of. -/
def digBytes (left : Int) (k v : List Int) (right : Int) : List Int := lit left 8 ++ [(k.length : Int) % 256] ++ k ++ lit (v.length : Int) 2 ++ v ++ lit right 8
def digestOf (seed left : Int) (k v : List Int) (right : Int) : Int := coin seed 4 (digBytes left k v right)
end Go.Proofs.YtkjplffpihfliaaGreatDoor
