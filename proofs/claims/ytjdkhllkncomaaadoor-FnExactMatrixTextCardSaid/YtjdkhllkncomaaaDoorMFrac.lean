/-
  Plain laws on fractions: greatest common divisors, valid fractions, their texts: what the program's and the reference's functions come to.
-/
import Derived.Test.YtjdkhllkncomaaaDoorMDec
import Derived.Test.YtjdkhllkncomaaaDoorMx6
namespace Go.Proofs.YtjdkhllkncomaaaDoor.M
open Go.RowKit Go.Proofs.YtjdkhllkncomaaaDoor Go.Proofs.YtjdkhllkncomaaaDoor.Wide Go.Proofs.YtjdkhllkncomaaaDoorW.PrintWords Go.Proofs.YtjdkhllkncomaaaDoorW.PrintLast Go.Proofs.YtjdkhllkncomaaaDoorW.PrintMore

/-- Euclid's loop of the reference, over numbers that are not negative. -/
theorem gcd_ref (b : Nat) : ∀ (a k : Nat), b < k → spec_l02Common.l0 k a b = some (Nat.gcd a b : Int) := by
  induction b using Nat.strongRecOn with
  | _ b ih =>
    intro a k hk
    obtain ⟨k, rfl⟩ : ∃ m, k = m + 1 := ⟨k - 1, by omega⟩
    simp only [spec_l02Common.l0]
    by_cases h : b = 0
    · subst h; simp
    · have hl : a % b < b := Nat.mod_lt _ (by omega)
      rw [if_neg (by omega), show Int.tmod (a : Int) (b : Int) = ((a % b : Nat) : Int) from by rw [Int.tmod_eq_emod_of_nonneg (by omega)]; omega, ih (a % b) hl b k (by omega)]
      rw [Nat.gcd_comm, ← Nat.gcd_rec, Nat.gcd_comm]


/-- A valid fraction. -/
def vf (p q : Int) : Bool := decide (0 < q) && decide (-1000000000 ≤ p) && decide (p ≤ 1000000000) && decide (q ≤ 1000000000) && decide (Int.gcd p q = 1)

theorem vf_iff (p q : Int) : vf p q = true ↔ 0 < q ∧ -1000000000 ≤ p ∧ p ≤ 1000000000 ∧ q ≤ 1000000000 ∧ Int.gcd p q = 1 := by
  simp [vf, and_assoc]

theorem abs_ref (p : Int) (h : -9223372036854775807 ≤ p) (h1 : p ≤ 9223372036854775807) : spec_l02Abs.f p = some (p.natAbs : Int) := by
  unfold spec_l02Abs.f
  split
  · rw [wrap_in (by omega) (by omega)]; congr 1; omega
  · congr 1; omega

/-- The reference's test of a fraction. -/
theorem ok_ref (p q : Int) (k : Nat) (hk : 1000000000 < k) : spec_l02Ok.f k p q = some (vf p q) := by
  unfold spec_l02Ok.f
  rw [in_ref]
  simp only [Option.bind_some]
  by_cases h1 : -1000000000 ≤ p ∧ p ≤ 1000000000
  · rw [if_pos (by simp [h1])]
    rw [in_ref]
    simp only [Option.bind_some]
    by_cases h2 : 1 ≤ q ∧ q ≤ 1000000000
    · rw [if_pos (by simp [h2])]
      rw [abs_ref p (by omega) (by omega)]
      simp only [Option.bind_some]
      obtain ⟨n, rfl⟩ := Int.eq_ofNat_of_zero_le (show 0 ≤ q by omega)
      unfold spec_l02Common.f
      rw [gcd_ref n p.natAbs k (by omega)]
      simp only [Option.bind_some]
      congr 1
      rw [Bool.eq_iff_iff, vf_iff]
      simp only [Int.gcd, Int.natAbs_natCast, beq_iff_eq]
      omega
    · rw [if_neg (by simp; omega)]
      congr 1
      symm
      rw [Bool.eq_false_iff]
      intro h
      rw [vf_iff] at h
      omega
  · rw [if_neg (by simp; omega)]
    congr 1
    symm
    rw [Bool.eq_false_iff]
    intro h
    rw [vf_iff] at h
    omega


/-- The text of a fraction, as bytes. -/
def ftext (p q : Int) : List UInt8 := if q = 1 then Lib.itoa p else Lib.itoa p ++ 47 :: Lib.itoa q

theorem ftext_len (p q : Int) (h : vf p q = true) : (ftext p q).length ≤ 41 := by
  rw [vf_iff] at h
  have h1 := itoa_len p (by omega) (by omega)
  have h2 := itoa_len q (by omega) (by omega)
  unfold ftext
  split
  · omega
  · simp; omega

/-- The reference's text. -/
theorem text_ref (p q : Int) (k : Nat) (hk : 1000000000 < k) : spec_FractionText.f k p q = some (if vf p q = true then str (ftext p q) else str []) := by
  unfold spec_FractionText.f
  rw [ok_ref p q k hk]
  simp only [Option.bind_some]
  by_cases hv : vf p q = true
  · rw [if_pos hv, if_pos hv]
    have hb := (vf_iff p q).1 hv
    rw [abs_ref p (by omega) (by omega)]
    simp only [Option.bind_some]
    rw [dec_ref p.natAbs (by omega) k (by omega)]
    simp only [Option.bind_some]
    obtain ⟨n, hn⟩ := Int.eq_ofNat_of_zero_le (show 0 ≤ q by omega)
    have hq : spec_Decimal.f k q = some (str (Lib.itoa q)) := by rw [hn, dec_ref n (by omega) k (by omega), itoa_nat]
    have hql := itoa_len q (by omega) (by omega)
    have hpl := dec_len p.natAbs (by omega)
    rw [hq]
    simp only [Option.bind_some]
    unfold ftext
    have e45 : (⟨#[45]⟩ : ByteArray) = str [45] := rfl
    have e47 : (⟨#[47]⟩ : ByteArray) = str [47] := rfl
    rw [e45, e47]
    simp only [str_append, str_size]
    by_cases hneg : p < 0
    · rw [if_pos hneg, if_pos (by omega), itoa_neg hneg]
      by_cases h1 : q = 1
      · rw [if_pos h1, if_pos h1]; rfl
      · rw [if_neg h1, if_neg h1, if_pos (by omega), if_pos (by simp; omega)]
        simp
    · rw [if_neg hneg, itoa_pos (n := p) (by omega)]
      by_cases h1 : q = 1
      · rw [if_pos h1, if_pos h1]
      · rw [if_neg h1, if_neg h1, if_pos (by omega), if_pos (by simp; omega)]
        simp
  · rw [if_neg hv, if_neg hv]; rfl


/-- The program's text of a fraction that is valid. -/
theorem ftext_prog (p q : Int) (h : vf p q = true) : impl_Fraction_text.f p q = some (str (ftext p q)) := by
  have hb := (vf_iff p q).1 h
  have hql := itoa_len q (by omega) (by omega)
  have hpl := itoa_len p (by omega) (by omega)
  unfold impl_Fraction_text.f ftext
  rw [decimal_prog p (by omega) (by omega), decimal_prog q (by omega) (by omega)]
  simp only [Option.bind_some]
  have e47 : (⟨#[47]⟩ : ByteArray) = str [47] := rfl
  rw [e47]
  simp only [str_append, str_size]
  by_cases h1 : q = 1
  · rw [if_pos h1, if_pos h1]
  · rw [if_neg h1, if_neg h1, if_pos (by omega), if_pos (by simp; omega)]
    simp

end Go.Proofs.YtjdkhllkncomaaaDoor.M
