/-
  Plain laws on decimal texts: what the program's and the reference's functions come to.
-/
import Derived.Test.YtjdkhllkncomaaaDoorMx6
namespace Go.Proofs.YtjdkhllkncomaaaDoor.M
open Go.RowKit Go.Proofs.YtjdkhllkncomaaaDoor Go.Proofs.YtjdkhllkncomaaaDoor.WideT Go.Proofs.YtjdkhllkncomaaaDoorW.PrintWords Go.Proofs.YtjdkhllkncomaaaDoorW.PrintLast Go.Proofs.YtjdkhllkncomaaaDoorW.PrintMore

/-- A list of bytes as a string. -/
def str (l : List UInt8) : ByteArray := ⟨l.toArray⟩
theorem str_size (l : List UInt8) : (str l).size = l.length := by simp [str, ByteArray.size]
theorem str_append (a b : List UInt8) : str a ++ str b = str (a ++ b) := by
  apply ByteArray.ext
  simp [str, ByteArray.data_append]
theorem str_toList (l : List UInt8) : (str l).data.toList = l := by simp [str]

theorem strOfNums_one (x : Int) (u : UInt8) (h : x = u.toNat) : strOfNums [x] = str [u] := by
  subst h
  apply ByteArray.ext
  simp [strOfNums, str]

theorem nDigits_le : ∀ (k n : Nat), n < 10 ^ k → 1 ≤ k → (Lib.decDigits n).length ≤ k
  | 0, _, _, h => by omega
  | k + 1, n, hn, _ => by
    rw [Lib.decDigits]
    split
    · simp
    · rename_i h
      have hk : 1 ≤ k := by
        rcases Nat.eq_zero_or_pos k with rfl | h'
        · simp at hn; omega
        · exact h'
      have hd : n / 10 < 10 ^ k := by rw [Nat.pow_succ] at hn; omega
      have := nDigits_le k (n / 10) hd hk
      simp; omega

theorem dec_len (n : Nat) (h : n < 10000000000000000000) : (Lib.decDigits n).length ≤ 19 := nDigits_le 19 n (by simpa using h) (by omega)

theorem wrap_in {x : Int} (h0 : -9223372036854775808 ≤ x) (h1 : x ≤ 9223372036854775807) : wrap64 x = x := by unfold wrap64; omega

/-- The reference's decimal text. -/
theorem dec_ref (n : Nat) (hn : n < 9223372036854775807) : ∀ k, n < k → spec_Decimal.f k n = some (str (Lib.decDigits n)) := by
  induction n using Nat.strongRecOn with
  | _ n ih =>
    intro k hk
    obtain ⟨k, rfl⟩ : ∃ m, k = m + 1 := ⟨k - 1, by omega⟩
    rw [Lib.decDigits]
    simp only [spec_Decimal.f]
    by_cases h : n < 10
    · rw [if_neg (by omega), dif_pos h, wrap_in (by omega) (by omega)]
      rw [strOfNums_one _ (UInt8.ofNat (48 + n)) (by rw [UInt8.toNat_ofNat']; omega)]
    · rw [if_pos (by omega), dif_neg h]
      have e1 : Int.tdiv (n : Int) 10 = ((n / 10 : Nat) : Int) := by rw [Int.tdiv_eq_ediv_of_nonneg (by omega)]; omega
      have e2 : Int.tmod (n : Int) 10 = ((n % 10 : Nat) : Int) := by rw [Int.tmod_eq_emod_of_nonneg (by omega)]; omega
      rw [e1, e2, wrap_in (by omega) (by omega), wrap_in (by omega) (by omega), ih (n / 10) (by omega) (by omega) k (by omega)]
      simp only [Option.bind_some]
      rw [strOfNums_one _ (UInt8.ofNat (48 + n % 10)) (by rw [UInt8.toNat_ofNat']; omega)]
      have hl := dec_len (n / 10) (by omega)
      rw [if_pos (by rw [str_size, str_size]; simp; omega), str_append]

theorem str_toList' (l : List UInt8) : (str l).toList = l := by rw [ByteArray.toList_eq]; exact str_toList l

/-- The program's decimal text. -/
theorem dec_prog (n : Int) (h0 : -9223372036854775808 ≤ n) (h1 : n ≤ 9223372036854775807) : strconv_FormatInt.f n 10 = some (str (Lib.itoa n)) := by
  unfold strconv_FormatInt.f
  rw [if_pos ⟨rfl, h0, h1⟩]
  rfl
theorem itoa_nat (n : Nat) : Lib.itoa n = Lib.decDigits n := by unfold Lib.itoa; rw [if_neg (by omega)]; simp
theorem itoa_neg {n : Int} (h : n < 0) : Lib.itoa n = 45 :: Lib.decDigits n.natAbs := by unfold Lib.itoa; rw [if_pos h]
theorem itoa_pos {n : Int} (h : 0 ≤ n) : Lib.itoa n = Lib.decDigits n.natAbs := by unfold Lib.itoa; rw [if_neg (by omega)]; congr 1; omega
theorem itoa_len (n : Int) (h0 : -1000000000 ≤ n) (h1 : n ≤ 1000000000) : (Lib.itoa n).length ≤ 20 := by
  have := dec_len n.natAbs (by omega)
  by_cases h : n < 0
  · rw [itoa_neg h]; simp; omega
  · rw [itoa_pos (by omega)]; omega

theorem in_ref (n a b : Int) : spec_l00In.f n a b = some (decide (a ≤ n) && decide (n ≤ b)) := by
  unfold spec_l00In.f
  by_cases h : a ≤ n
  · rw [if_pos h]; simp [h]
  · rw [if_neg h]; simp [h]

theorem dec_ref_int (a : Int) (k : Nat) (h0 : 0 ≤ a) (h1 : a ≤ 1000000000) (hk : a < k) : spec_Decimal.f k a = some (str (Lib.itoa a)) := by
  obtain ⟨n, rfl⟩ := Int.eq_ofNat_of_zero_le h0
  rw [dec_ref n (by omega) k (by omega), itoa_nat]

theorem decimal_prog (n : Int) (h0 : -9223372036854775808 ≤ n) (h1 : n ≤ 9223372036854775807) : impl_decimal.f n = some (str (Lib.itoa n)) := by
  unfold impl_decimal.f
  rw [dec_prog n h0 h1]
  rfl

end Go.Proofs.YtjdkhllkncomaaaDoor.M
