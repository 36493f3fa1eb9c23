/-
  Plain laws on reading decimal texts: strconv.ParseInt's function reads each number from its own text.
-/
import Derived.Lib.ParseIntB
import Derived.Lib.ParseIntBCases
import Derived.Lib.ItoaNum
import Derived.Lib.ItoaMem
namespace Go.Proofs.YtjdkhllkncomaaaDoor
open Go.Lib

theorem digit_toNat (d : Nat) (h : d < 10) : (UInt8.ofNat (48 + d)).toNat = 48 + d := by
  rw [UInt8.toNat_ofNat']; omega

theorem parseUintM_dec (M : Nat) (hM : M < 18446744073709551616) : ∀ (u : Nat) (r : List UInt8), u ≤ M → parseUintM M 0 (decDigits u ++ r) = parseUintM M u r := by
  intro u
  induction u using Nat.strongRecOn with
  | _ u ih =>
    intro r hu
    rw [decDigits]
    split
    · rename_i h
      simp only [List.cons_append, List.nil_append, parseUintM, digit_toNat u h]
      rw [if_pos (by omega), if_neg (by omega), if_neg (by omega)]
      congr 1; omega
    · rename_i h
      rw [List.append_assoc, ih (u / 10) (by omega) _ (by omega)]
      simp only [List.cons_append, List.nil_append, parseUintM, digit_toNat (u % 10) (by omega)]
      rw [if_pos (by omega), if_neg (by omega), if_neg (by omega)]
      congr 1; omega

theorem decDigits_ne (u : Nat) : decDigits u ≠ [] := by
  rw [decDigits]; split <;> simp

theorem parseUintB_dec (u : Nat) (h : u < 18446744073709551616) : parseUintB 64 (decDigits u) = .ok u := by
  unfold parseUintB
  rw [if_neg (decDigits_ne u)]
  have := parseUintM_dec (2 ^ 64 - 1) (by omega) u [] (by omega)
  rw [List.append_nil] at this
  rw [this]
  rfl

theorem decDigits_head (u : Nat) : ∃ c r, decDigits u = c :: r ∧ 48 ≤ c.toNat ∧ c.toNat ≤ 57 := by
  induction u using Nat.strongRecOn with
  | _ u ih =>
    rw [decDigits]
    split
    · rename_i h
      exact ⟨_, _, rfl, by rw [digit_toNat u h]; omega, by rw [digit_toNat u h]; omega⟩
    · rename_i h
      obtain ⟨c, r, e, h1, h2⟩ := ih (u / 10) (by omega)
      exact ⟨c, r ++ [UInt8.ofNat (48 + u % 10)], by rw [e]; rfl, h1, h2⟩

theorem decDigits_mem (u : Nat) : ∀ c ∈ decDigits u, 48 ≤ c.toNat ∧ c.toNat ≤ 57 := by
  induction u using Nat.strongRecOn with
  | _ u ih =>
    rw [decDigits]
    split
    · rename_i h
      intro c hc
      obtain rfl := List.mem_singleton.1 hc
      rw [digit_toNat u h]; omega
    · rename_i h
      intro c hc
      rw [List.mem_append] at hc
      rcases hc with hc | hc
      · exact ih (u / 10) (by omega) c hc
      · obtain rfl := List.mem_singleton.1 hc
        rw [digit_toNat (u % 10) (by omega)]; omega

/-- strconv.ParseInt reads each int64 from its own text. -/
theorem parseIntB_itoa (v : Int) (h0 : -9223372036854775808 ≤ v) (h1 : v ≤ 9223372036854775807) : parseIntB 64 (itoa v) = .ok v := by
  by_cases hn : v < 0
  · have e : itoa v = 45 :: decDigits v.natAbs := by unfold itoa; rw [if_pos hn]
    rw [e, parseIntB_minus, parseUintB_dec v.natAbs (by omega)]
    unfold signedC
    simp only
    rw [if_neg (by simp; omega)]
    congr 1; omega
  · have e : itoa v = decDigits v.toNat := by unfold itoa; rw [if_neg hn]
    obtain ⟨c, r, hc, h48, h57⟩ := decDigits_head v.toNat
    rw [e, hc, parseIntB_plain 64 c r (by omega) (by omega), ← hc, parseUintB_dec v.toNat (by omega)]
    unfold signlessC
    simp only
    rw [if_neg (by simp; omega)]
    congr 1; omega

/-- The number that strconv.ParseInt tells beside its error. -/
def numN (l : List UInt8) : Int := match parseIntB 64 l with | .ok v => v | .syntax => 0 | .range => intSat 64 l
/-- Whether a text is a number as it is written. -/
def numB (l : List UInt8) : Bool := match parseIntB 64 l with | .ok v => decide (itoa v = l) | .syntax => false | .range => false

theorem num_itoa (v : Int) (h0 : -9223372036854775808 ≤ v) (h1 : v ≤ 9223372036854775807) : numN (itoa v) = v ∧ numB (itoa v) = true := by
  unfold numN numB
  rw [parseIntB_itoa v h0 h1]
  simp
theorem num_of (l : List UInt8) (h : numB l = true) : itoa (numN l) = l := by
  unfold numB at h
  unfold numN
  cases e : parseIntB 64 l with
  | ok v => rw [e] at h; simpa using h
  | «syntax» => rw [e] at h; cases h
  | range => rw [e] at h; cases h

/-- A number's text has digits and a sign alone. -/
theorem itoa_mem (v : Int) : ∀ c ∈ itoa v, c.toNat = 45 ∨ (48 ≤ c.toNat ∧ c.toNat ≤ 57) := by
  intro c hc
  unfold itoa at hc
  split at hc
  · rcases List.mem_cons.1 hc with rfl | hc
    · left; rfl
    · right; exact decDigits_mem _ c hc
  · right; exact decDigits_mem _ c hc

end Go.Proofs.YtjdkhllkncomaaaDoor
