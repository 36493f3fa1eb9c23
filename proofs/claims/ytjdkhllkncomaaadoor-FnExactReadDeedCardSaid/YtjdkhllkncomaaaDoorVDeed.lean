/-
  The program's text of a deed is the reference's, for all numbers.
-/
import Derived.Test.YtjdkhllkncomaaaDoorVDec
import Derived.Test.YtjdkhllkncomaaaDoorVx3
namespace Go.Proofs.YtjdkhllkncomaaaDoor.V
open Go.RowKit Go.Proofs.YtjdkhllkncomaaaDoor Go.Proofs.YtjdkhllkncomaaaDoor.Wide Go.Proofs.YtjdkhllkncomaaaDoorW.PrintWords Go.Proofs.YtjdkhllkncomaaaDoorW.PrintLast Go.Proofs.YtjdkhllkncomaaaDoorW.PrintMore

/-- The words of the kinds of deeds, and how many numbers a text mentions. -/
def dword (k : Int) : List UInt8 := if k = 1 then [103, 105, 118, 101] else if k = 2 then [119, 111, 114, 107] else if k = 3 then [100, 101, 108, 105, 118, 101, 114] else if k = 4 then [99, 111, 112, 121] else if k = 5 then [100, 114, 111, 112] else if k = 6 then [115, 97, 118, 101] else if k = 7 then [99, 114, 97, 115, 104] else []
def dmany (k : Int) : Int := if k = 1 then 2 else if k = 2 then 1 else if k = 3 then 1 else if k = 4 then 1 else if k = 5 then 1 else 0
/-- A valid deed. -/
def vd (k a b : Int) : Bool := decide (1 ≤ k) && decide (k ≤ 7) && decide (0 ≤ a) && decide (a ≤ 999) && decide (0 ≤ b) && decide (b ≤ 999) && (decide (dmany k > 0) || decide (a = 0)) && (decide (dmany k > 1) || decide (b = 0))
/-- The text of a deed. -/
def dtext (k a b : Int) : List UInt8 := dword k ++ (if dmany k > 0 then 32 :: Lib.itoa a else []) ++ (if dmany k > 1 then 32 :: Lib.itoa b else [])

theorem vd_iff (k a b : Int) : vd k a b = true ↔ 1 ≤ k ∧ k ≤ 7 ∧ 0 ≤ a ∧ a ≤ 999 ∧ 0 ≤ b ∧ b ≤ 999 ∧ (dmany k > 0 ∨ a = 0) ∧ (dmany k > 1 ∨ b = 0) := by
  simp [vd, and_assoc]

theorem kinds (k : Int) (h1 : 1 ≤ k) (h7 : k ≤ 7) : k = 1 ∨ k = 2 ∨ k = 3 ∨ k = 4 ∨ k = 5 ∨ k = 6 ∨ k = 7 := by omega

theorem wordOf_prog (k : Int) : impl_wordOf.f k = some (str (dword k), dmany k) := by
  unfold impl_wordOf.f dword dmany
  repeat' split
  all_goals first | rfl | omega

theorem in_prog (n a b : Int) : impl_in.f n a b = some (decide (a ≤ n) && decide (n ≤ b)) := by
  unfold impl_in.f
  by_cases h : a ≤ n
  · rw [if_pos h]; simp [h]
  · rw [if_neg h]; simp [h]

theorem dword_nil (k : Int) : dword k = [] ↔ ¬ (1 ≤ k ∧ k ≤ 7) := by
  unfold dword
  repeat' split
  all_goals first | (simp; omega) | (simp only [true_iff]; omega) | simp_all

theorem valid_prog (k a b : Int) : impl_ValidDeed.f k a b = some (vd k a b) := by
  unfold impl_ValidDeed.f
  rw [wordOf_prog]
  simp only [Option.bind_some, str_toList', dword_nil, in_prog]
  by_cases hk : 1 ≤ k ∧ k ≤ 7
  · rw [if_neg (by omega)]
    by_cases ha : 0 ≤ a ∧ a ≤ 999
    · rw [if_pos (by simp [ha])]
      by_cases hb : 0 ≤ b ∧ b ≤ 999
      · rw [if_pos (by simp [hb])]
        have e : vd k a b = ((decide (dmany k > 0) || decide (a = 0)) && (decide (dmany k > 1) || decide (b = 0))) := by
          unfold vd; simp [hk, ha, hb]
        rw [e]
        by_cases h0 : dmany k > 0 <;> by_cases h1 : dmany k > 1 <;> by_cases z : a = 0 <;> simp [h0, h1, z] <;> rfl
      · rw [if_neg (by simp; omega)]; congr 1; symm; rw [Bool.eq_false_iff]; intro h; rw [vd_iff] at h; omega
    · rw [if_neg (by simp; omega)]; congr 1; symm; rw [Bool.eq_false_iff]; intro h; rw [vd_iff] at h; omega
  · rw [if_pos hk]; congr 1; symm; rw [Bool.eq_false_iff]; intro h; rw [vd_iff] at h; omega

theorem words_num (k : Int) (h1 : 1 ≤ k) (h7 : k ≤ 7) : rd [0, 2, 1, 1, 1, 1, 0, 0] k = dmany k := by
  rcases kinds k h1 h7 with rfl | rfl | rfl | rfl | rfl | rfl | rfl <;> rfl

theorem words_str (k : Int) (h1 : 1 ≤ k) (h7 : k ≤ 7) : rdOf ByteArray.empty [(⟨#[]⟩ : ByteArray), (⟨#[103, 105, 118, 101]⟩ : ByteArray), (⟨#[119, 111, 114, 107]⟩ : ByteArray), (⟨#[100, 101, 108, 105, 118, 101, 114]⟩ : ByteArray), (⟨#[99, 111, 112, 121]⟩ : ByteArray), (⟨#[100, 114, 111, 112]⟩ : ByteArray), (⟨#[115, 97, 118, 101]⟩ : ByteArray), (⟨#[99, 114, 97, 115, 104]⟩ : ByteArray)] k = str (dword k) := by
  rcases kinds k h1 h7 with rfl | rfl | rfl | rfl | rfl | rfl | rfl <;> rfl

theorem valid_ref (k a b : Int) : spec_l08Deed.f k a b = some (vd k a b) := by
  unfold spec_l08Deed.f spec_l08Words.f
  simp only [Option.bind_some, in_ref]
  by_cases hk : 1 ≤ k ∧ k ≤ 7
  · rw [if_pos (by simp [hk])]
    by_cases ha : 0 ≤ a ∧ a ≤ 999
    · rw [if_pos (by simp [ha])]
      by_cases hb : 0 ≤ b ∧ b ≤ 999
      · rw [if_pos (by simp [hb]), if_pos (by omega), if_pos (by simp; omega), words_num k hk.1 hk.2]
        have e : vd k a b = ((decide (dmany k > 0) || decide (a = 0)) && (decide (dmany k > 1) || decide (b = 0))) := by
          unfold vd; simp [hk, ha, hb]
        rw [e]
        by_cases h0 : dmany k > 0 <;> by_cases h1 : dmany k > 1 <;> by_cases z : a = 0 <;> simp [h0, h1, z] <;> rfl
      · rw [if_neg (by simp; omega)]; congr 1; symm; rw [Bool.eq_false_iff]; intro h; rw [vd_iff] at h; omega
    · rw [if_neg (by simp; omega)]; congr 1; symm; rw [Bool.eq_false_iff]; intro h; rw [vd_iff] at h; omega
  · rw [if_neg (by simp; omega)]; congr 1; symm; rw [Bool.eq_false_iff]; intro h; rw [vd_iff] at h; omega

theorem dword_len (k : Int) : (dword k).length ≤ 7 := by
  unfold dword
  repeat' split
  all_goals simp


theorem loop_prog (xs : List Int) : ∀ (i : Nat) (r : Nat) (s : List UInt8), i ≤ xs.length → xs.length - i < r → xs.length ≤ 2 → (∀ x ∈ xs, 0 ≤ x ∧ x ≤ 999) → s.length ≤ 60 →
    impl_DeedText.l0 r (str s) xs xs.length i = some (str (s ++ ((xs.drop i).map fun x => 32 :: Lib.itoa x).flatten)) ∨ 7 + 21 * i < s.length := by
  intro i
  generalize hd : xs.length - i = d
  induction d generalizing i with
  | zero =>
    intro r s hi hr h2 hx hs
    left
    obtain ⟨r, rfl⟩ : ∃ m, r = m + 1 := ⟨r - 1, by omega⟩
    simp only [impl_DeedText.l0]
    rw [if_neg (by omega), List.drop_eq_nil_of_le (by omega)]
    simp
  | succ d ih =>
    intro r s hi hr h2 hx hs
    by_cases hbig : 7 + 21 * i < s.length
    · right; exact hbig
    left
    obtain ⟨r, rfl⟩ : ∃ m, r = m + 1 := ⟨r - 1, by omega⟩
    have hlt : i < xs.length := by omega
    simp only [impl_DeedText.l0]
    have hrd : rd xs (i : Int) = xs[i] := by simp [rd, hlt]
    have hxi := hx xs[i] (List.getElem_mem hlt)
    have lx := itoa_len xs[i] (by omega) (by omega)
    have e32 : (⟨#[32]⟩ : ByteArray) = str [32] := rfl
    rw [if_pos (by omega), if_pos (by omega), if_pos (by omega), hrd, decimal_prog _ (by omega) (by omega)]
    simp only [Option.bind_some]
    rw [e32]
    simp only [str_append, str_size]
    rw [if_pos (by omega), if_pos (by simp; omega), wrap_in (by omega) (by omega)]
    have := ih (i + 1) (by omega) r (s ++ ([32] ++ Lib.itoa xs[i])) (by omega) (by omega) h2 hx (by simp; omega)
    rcases this with h | h
    · rw [show ((i : Int) + 1) = ((i + 1 : Nat) : Int) from by omega, h]
      rw [List.drop_eq_getElem_cons hlt]
      simp only [List.map_cons, List.flatten_cons, List.append_assoc, List.cons_append, List.nil_append]
    · simp at h; omega

theorem dtext_prog (k a b : Int) (r : Nat) (hr : 1000000000 < r) : impl_DeedText.f r k a b = some (if vd k a b = true then str (dtext k a b) else str []) := by
  unfold impl_DeedText.f
  rw [valid_prog, wordOf_prog]
  simp only [Option.bind_some]
  by_cases hv : vd k a b = true
  · rw [if_pos hv, if_pos hv]
    have hb := (vd_iff k a b).1 hv
    have hm : 0 ≤ dmany k ∧ dmany k ≤ 2 := by unfold dmany; repeat' split; all_goals omega
    have hml : ((([a, b] : List Int).take (dmany k).toNat).length : Int) ≤ 2 := by simp; omega
    have lw := dword_len k
    rw [if_pos hm.1, if_pos (by simpa using hm.2)]
    have hx : ∀ x ∈ ([a, b] : List Int).take (dmany k).toNat, 0 ≤ x ∧ x ≤ 999 := by
      intro x hx
      have := List.mem_of_mem_take hx
      simp at this
      omega
    rcases loop_prog (([a, b] : List Int).take (dmany k).toNat) 0 r (dword k) (by omega) (by omega) (by omega) hx (by omega) with h | h
    · rw [show (0 : Int) = ((0 : Nat) : Int) from rfl, h]
      congr 2
      unfold dtext
      rcases kinds k (by omega) (by omega) with rfl | rfl | rfl | rfl | rfl | rfl | rfl <;> simp [dmany]
    · omega
  · rw [if_neg hv, if_neg hv]; rfl

end Go.Proofs.YtjdkhllkncomaaaDoor.V
