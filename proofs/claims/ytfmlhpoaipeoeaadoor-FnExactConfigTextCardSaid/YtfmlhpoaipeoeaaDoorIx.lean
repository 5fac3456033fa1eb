/- WHAT THIS TEXT PROVES: plain facts on 'ixFrom': the place of the first element of which a predicate holds, -1 if there is none. No condition. -/
import Derived.WalkKit
import Derived.Deep.LoopGhost
import Derived.Deep.Draws
import Derived.Shelf.Abstract
import Derived.Below
namespace Go.Proofs.YtfmlhpoaipeoeaaDoor.Ix
/-- The place of the first element of which p holds, counted from i; -1 if there is none. -/
def ixFrom {α : Type} (p : α → Bool) : List α → Int → Int
  | [], _ => -1
  | x :: l, i => if p x = true then i else ixFrom p l (i + 1)
theorem ixFrom_hit {α : Type} (p : α → Bool) (d : α) : ∀ (l : List α) (i : Int) (k : Nat), k < l.length → p (l.getD k d) = true → (∀ j, j < k → p (l.getD j d) = false) → ixFrom p l i = i + (k : Int)
  | [], _, k, hk, _, _ => absurd hk (Nat.not_lt_zero _)
  | x :: l, i, 0, _, h, _ => by
    have hx : p x = true := by simpa using h
    simp only [ixFrom]; rw [if_pos hx]; simp
  | x :: l, i, k + 1, hk, h, hn => by
    have hx : ¬ p x = true := by have := hn 0 (by omega); simp at this; simp [this]
    have := ixFrom_hit p d l (i + 1) k (by simpa using hk) (by simpa using h) (fun j hj => by simpa using hn (j + 1) (by omega))
    simp only [ixFrom]; rw [if_neg hx, this]; omega
theorem ixFrom_miss {α : Type} (p : α → Bool) (d : α) : ∀ (l : List α) (i : Int), (∀ j, j < l.length → p (l.getD j d) = false) → ixFrom p l i = -1
  | [], _, _ => rfl
  | x :: l, i, hn => by
    have hx : ¬ p x = true := by have := hn 0 (by simp); simp at this; simp [this]
    simp only [ixFrom]; rw [if_neg hx]
    exact ixFrom_miss p d l (i + 1) (fun j hj => by simpa using hn (j + 1) (by simpa using hj))
theorem ixFrom_ge {α : Type} (p : α → Bool) : ∀ (l : List α) (i : Int), 0 ≤ i → (decide (0 ≤ ixFrom p l i) = l.any p)
  | [], _, _ => by simp [ixFrom]
  | x :: l, i, h => by
    rw [List.any_cons]
    by_cases hx : p x = true
    · have e : ixFrom p (x :: l) i = i := if_pos hx
      simp only [e, hx]; simp [h]
    · have e : ixFrom p (x :: l) i = ixFrom p l (i + 1) := if_neg hx
      have hf : p x = false := by simpa using hx
      simp only [e, hf, Bool.false_or]; exact ixFrom_ge p l (i + 1) (by omega)
theorem ixFrom_bound {α : Type} (p : α → Bool) : ∀ (l : List α) (i : Int), 0 ≤ i → -1 ≤ ixFrom p l i ∧ ixFrom p l i < i + l.length ∨ ixFrom p l i = -1
  | [], _, _ => .inr rfl
  | x :: l, i, h => by
    simp only [ixFrom]
    split
    · left; simp only [List.length_cons]; omega
    · rcases ixFrom_bound p l (i + 1) (by omega) with h' | h'
      · left; simp only [List.length_cons]; omega
      · exact .inr h'
end Go.Proofs.YtfmlhpoaipeoeaaDoor.Ix
