/-
  The program's text of a flag is the reference's, for all numbers.
-/
import Derived.Test.YtjdkhllkncomaaaDoorRGraph
import Derived.Test.YtjdkhllkncomaaaDoorRx4
namespace Go.Proofs.YtjdkhllkncomaaaDoor.R
open Go.RowKit Go.Proofs.YtjdkhllkncomaaaDoor Go.Proofs.YtjdkhllkncomaaaDoorW.PrintWords Go.Proofs.YtjdkhllkncomaaaDoorW.PrintLast Go.Proofs.YtjdkhllkncomaaaDoorW.PrintMore

/-- A valid flag. -/
def vfl (l n e : Int) : Bool := vg n e && decide (0 ≤ l) && decide (l ≤ 3) && decide (l ≤ n)
theorem vfl_iff (l n e : Int) : vfl l n e = true ↔ vg n e = true ∧ 0 ≤ l ∧ l ≤ 3 ∧ l ≤ n := by simp [vfl, and_assoc]

theorem fok_prog (l n e : Int) (h0 : 0 ≤ e) (h1 : e < 4294967296) : impl_ValidFlag.f l n e = some (vfl l n e) := by
  unfold impl_ValidFlag.f
  rw [gok_prog n e h0 h1, in_prog]
  simp only [Option.bind_some]
  by_cases hv : vg n e = true
  · by_cases hl : 0 ≤ l ∧ l ≤ 3
    · simp [vfl, hv, hl]
    · rw [if_pos hv, if_neg (by simp; omega)]
      congr 1; symm; rw [Bool.eq_false_iff]; intro h; rw [vfl_iff] at h; omega
  · simp [vfl, hv]

theorem fok_ref (l n e : Int) (h0 : 0 ≤ e) (h1 : e < 4294967296) : spec_l03Ok.f l n e = some (vfl l n e) := by
  unfold spec_l03Ok.f
  rw [gok_ref n e h0 h1, in_ref]
  simp only [Option.bind_some]
  by_cases hv : vg n e = true
  · by_cases hl : 0 ≤ l ∧ l ≤ 3
    · simp [vfl, hv, hl]
    · rw [if_pos hv, if_neg (by simp; omega)]
      congr 1; symm; rw [Bool.eq_false_iff]; intro h; rw [vfl_iff] at h; omega
  · simp [vfl, hv]

/-- The text of a flag. -/
def fltext (l n e : Int) : List UInt8 := [102, 108, 97, 103, 32] ++ Lib.itoa l ++ [32] ++ gtext n e

theorem fltext_prog (l n e : Int) (k : Nat) (hv : vfl l n e = true) (hk : 50 < k) : impl_Flag_text.f k l n e = some (str (fltext l n e)) := by
  have hb := (vfl_iff l n e).1 hv
  have hg := (vg_iff n e).1 hb.1
  have l0 := itoa_len l (by omega) (by omega)
  have l1 := gtext_len n e hg.1 hg.2.1
  unfold impl_Flag_text.f
  rw [decimal_prog l (by omega) (by omega), gtext_prog n e k hg.1 hg.2.1 hk]
  simp only [Option.bind_some]
  have e5 : (⟨#[102, 108, 97, 103, 32]⟩ : ByteArray) = str [102, 108, 97, 103, 32] := rfl
  have e1 : (⟨#[32]⟩ : ByteArray) = str [32] := rfl
  rw [e5, e1]
  simp only [str_append, str_size]
  rw [if_pos (by omega), if_pos (by simp; omega), if_pos (by simp; omega)]
  rfl

theorem fltext_ref (l n e : Int) (k : Nat) (h0 : 0 ≤ e) (h1 : e < 4294967296) (hk : 50 < k) : spec_FlagText.f k l n e = some (if vfl l n e = true then str (fltext l n e) else str []) := by
  unfold spec_FlagText.f
  rw [fok_ref l n e h0 h1]
  simp only [Option.bind_some]
  by_cases hv : vfl l n e = true
  · have hb := (vfl_iff l n e).1 hv
    have hg := (vg_iff n e).1 hb.1
    have l0 := itoa_len l (by omega) (by omega)
    have l1 := gtext_len n e hg.1 hg.2.1
    rw [if_pos hv, if_pos hv, dec_ref_int l k (by omega) (by omega) (by omega), gtext_ref n e k h0 h1 hk, if_pos hb.1]
    simp only [Option.bind_some]
    have e5 : (⟨#[102, 108, 97, 103, 32]⟩ : ByteArray) = str [102, 108, 97, 103, 32] := rfl
    have e1 : (⟨#[32]⟩ : ByteArray) = str [32] := rfl
    rw [e5, e1]
    simp only [str_append, str_size]
    rw [if_pos (by omega), if_pos (by simp; omega), if_pos (by simp; omega)]
    rfl
  · rw [if_neg hv, if_neg hv]; rfl

end Go.Proofs.YtjdkhllkncomaaaDoor.R
