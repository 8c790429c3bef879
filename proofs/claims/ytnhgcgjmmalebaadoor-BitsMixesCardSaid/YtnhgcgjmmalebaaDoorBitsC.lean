/- A set of bits (layer 2): how many are in it; over the heap; no condition. -/
import Derived.Test.YtnhgcgjmmalebaaDoorBitsN
import Derived.Test.YtnhgcgjmmalebaaDoorOnceT
set_option linter.unusedVariables false
set_option linter.unusedSimpArgs false
namespace Go.Proofs.YtnhgcgjmmalebaaDoor
open Go.XS

/-- The bits that are set, of k. -/
def pop (m : Nat → Bool) : Nat → Nat
  | 0 => 0
  | k + 1 => (if m k then 1 else 0) + pop m k
theorem pop_ml (m : Nat → Bool) : ∀ k, pop m k = (ml m k).length
  | 0 => rfl
  | k + 1 => by
    unfold pop
    rw [pop_ml m k]
    by_cases h : m k = true
    · rw [ml_in h, if_pos h]; simp; omega
    · have h : m k = false := by simpa using h
      have e : ml m (k + 1) = ml m k := ml_gap 1 fun j h1 h2 => by rw [show j = k by omega]; exact h
      rw [e, h]; simp
theorem pop_le (m : Nat → Bool) : ∀ k, pop m k ≤ k
  | 0 => Nat.le_refl _
  | k + 1 => by
    have := pop_le m k
    unfold pop
    split <;> omega

theorem pops_le : ∀ k b, pops k b ≤ k
  | 0, _ => Nat.le_refl _
  | k + 1, b => by
    have := pops_le k (b / 2)
    have := Nat.mod_lt b (show 0 < 2 by decide)
    unfold pops; omega

/-- A byte's bits, counted off the table, are those of the set. -/
theorem pops_bits {w : Nat} {m : Nat → Bool} {a : Nat} : ∀ k, (∀ j, j < k → w.testBit j = m (a + j)) → pops k (w % 2 ^ k) + pop m a = pop m (a + k)
  | 0, _ => by simp [pops]
  | k + 1, h => by
    have key : ∀ (k w a : Nat), (∀ j, j < k → w.testBit j = m (a + j)) → pops k (w % 2 ^ k) + pop m a = pop m (a + k) := by
      intro k
      induction k with
      | zero => intro w a _; simp [pops]
      | succ k ih =>
        intro w a h
        have h0 := h 0 (by omega)
        have ih' := ih (w / 2) (a + 1) fun j hj => by
          have := h (j + 1) (by omega)
          rw [Nat.testBit_succ] at this
          rw [this]; congr 1; omega
        have e1 : w % 2 ^ (k + 1) % 2 = w % 2 := by
          rw [Nat.pow_succ, Nat.mul_comm]
          exact Nat.mod_mul_right_mod w 2 (2 ^ k)
        have e2 : w % 2 ^ (k + 1) / 2 = w / 2 % 2 ^ k := by
          rw [Nat.pow_succ, Nat.mul_comm, Nat.mod_mul_right_div_self]
        unfold pops
        rw [e1, e2]
        have e3 : w % 2 = if m a then 1 else 0 := by
          rw [Nat.testBit_zero] at h0
          simp only [Nat.add_zero] at h0
          rw [← h0]
          have := Nat.mod_lt w (show 0 < 2 by decide)
          by_cases h1 : w % 2 = 1
          · simp [h1]
          · have : w % 2 = 0 := by omega
            simp [this]
        have e4 : pop m (a + 1) = (if m a then 1 else 0) + pop m a := rfl
        rw [e3, show a + (k + 1) = a + 1 + k by omega, ← ih', e4]
        omega
    exact key (k + 1) w a h

/-- x & (x - 1) lowers the count by one. -/
theorem clear_low : ∀ x : Fin 256, x.val ≠ 0 → (nbits .and x.val (x.val - 1)) < x.val ∧ pops 8 (nbits .and x.val (x.val - 1)) + 1 = pops 8 x.val := by decide +kernel
end Go.Proofs.YtnhgcgjmmalebaaDoor
