/-
  Valid fractions: what the program's test comes to (its function and its plain law).
-/
import Derived.Test.YtjdkhllkncomaaaDoorCx1
namespace Go.Proofs.YtjdkhllkncomaaaDoor.C
open Go.RowKit Go.Proofs.YtjdkhllkncomaaaDoorW.PrintWords Go.Proofs.YtjdkhllkncomaaaDoorW.PrintLast Go.Proofs.YtjdkhllkncomaaaDoorW.PrintMore

theorem wrap_in {x : Int} (h0 : -9223372036854775808 ≤ x) (h1 : x ≤ 9223372036854775807) : wrap64 x = x := by unfold wrap64; omega

/-- Euclid's loop of the program, over numbers of either sign. -/
theorem gcd_prog (m : Nat) : ∀ (b a : Int) (k : Nat), b.natAbs = m → m < k → a.natAbs < 9223372036854775807 → b.natAbs < 9223372036854775807 → impl_gcd.l0 k a b = some (Int.gcd a b : Int) := by
  induction m using Nat.strongRecOn with
  | _ m ih =>
    intro b a k hb hk ha hb2
    obtain ⟨k, rfl⟩ : ∃ j, k = j + 1 := ⟨k - 1, by omega⟩
    simp only [impl_gcd.l0]
    by_cases h : b = 0
    · subst h
      rw [if_pos rfl]
      unfold impl_size.f
      simp only [Option.bind_some]
      rw [wrap_in (by omega) (by omega)]
      unfold mx
      congr 1
      simp only [Int.gcd_zero_right]
      split <;> omega
    · have hm : (Int.tmod a b).natAbs = a.natAbs % b.natAbs := Int.natAbs_tmod a b
      have hl : a.natAbs % b.natAbs < b.natAbs := Nat.mod_lt _ (by omega)
      have hle : a.natAbs % b.natAbs ≤ a.natAbs := Nat.mod_le _ _
      rw [if_neg h]
      rw [ih (Int.tmod a b).natAbs (by omega) (Int.tmod a b) b k rfl (by omega) hb2 (by omega)]
      congr 1
      unfold Int.gcd
      rw [hm, Nat.gcd_comm, ← Nat.gcd_rec, Nat.gcd_comm]

/-- A valid fraction. -/
def vf (p q : Int) : Bool := decide (0 < q) && decide (-1000000000 ≤ p) && decide (p ≤ 1000000000) && decide (q ≤ 1000000000) && decide (Int.gcd p q = 1)

theorem vf_iff (p q : Int) : vf p q = true ↔ 0 < q ∧ -1000000000 ≤ p ∧ p ≤ 1000000000 ∧ q ≤ 1000000000 ∧ Int.gcd p q = 1 := by
  simp [vf, and_assoc]

/-- The program's test of a fraction. -/
theorem ok_prog (p q : Int) (k : Nat) (hk : 1000000000 < k) : impl_ValidFraction.f k p q = some (vf p q) := by
  unfold impl_ValidFraction.f
  have hno : ¬ (0 < q ∧ -1000000000 ≤ p ∧ p ≤ 1000000000 ∧ q ≤ 1000000000) → some false = some (vf p q) := by
    intro h
    congr 1
    symm
    rw [Bool.eq_false_iff]
    intro h'
    rw [vf_iff] at h'
    omega
  by_cases h1 : q > 0
  · rw [if_pos h1]
    by_cases h2 : p ≥ -1000000000
    · rw [if_pos h2]
      by_cases h3 : p ≤ 1000000000
      · rw [if_pos h3]
        by_cases h4 : q ≤ 1000000000
        · rw [if_pos h4]
          unfold impl_gcd.f
          rw [gcd_prog q.natAbs q p k rfl (by omega) (by omega) (by omega)]
          simp only [Option.bind_some]
          congr 1
          rw [Bool.eq_iff_iff, vf_iff]
          simp only [beq_iff_eq]
          omega
        · rw [if_neg h4]; exact hno (by omega)
      · rw [if_neg h3]; exact hno (by omega)
    · rw [if_neg h2]; exact hno (by omega)
  · rw [if_neg h1]; exact hno (by omega)

end Go.Proofs.YtjdkhllkncomaaaDoor.C
