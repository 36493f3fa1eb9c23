/-
  The program's text of a matrix is the reference's, for all matrices: plain law.
-/
import Derived.Test.YtjdkhllkncomaaaDoorMFrac
import Derived.Test.YtjdkhllkncomaaaDoorMx6
import Derived.Test.YtjdkhllkncomaaaDoorVMatM
import Derived.Lib.Join
namespace Go.Proofs.YtjdkhllkncomaaaDoor.M
open Go.RowKit Go.Proofs.YtjdkhllkncomaaaDoor Go.Proofs.YtjdkhllkncomaaaDoor.Wide Go.Proofs.YtjdkhllkncomaaaDoorW.PrintWords Go.Proofs.YtjdkhllkncomaaaDoorW.PrintLast Go.Proofs.YtjdkhllkncomaaaDoorW.PrintMore

theorem vf_same (p q : Int) : C.vf p q = vf p q := rfl

/-! ### sizes -/
theorem sz_one (r : List S23) (left : Int) (h0 : 0 ≤ left) (h1 : left ≤ 1048576) (hr : r.length ≤ 9223372036854775807) :
    ∃ t, laws_szFractionS.f r left = some t ∧ t ≤ 1048576 ∧ (0 ≤ t → r.length ≤ 1048576) := by
  unfold laws_szFractionS.f
  rw [wrap_in (by omega) (by omega)]
  split
  · exact ⟨_, rfl, by omega, by omega⟩
  · exact ⟨_, rfl, by omega, by omega⟩

theorem rdL2_at (l : List (List S23)) (i : Nat) (h : i < l.length) : rd_L2 l (i : Int) = l[i] := by simp [rd_L2, h]
theorem rdL5_at (l : List (List S25)) (i : Nat) (h : i < l.length) : rd_L5 l (i : Int) = l[i] := by simp [rd_L5, h]
theorem rdT23_at (l : List S23) (i : Nat) (h : i < l.length) : rd_T23 l (i : Int) = l[i] := by simp [rd_T23, h]
theorem rdT25_at (l : List S25) (i : Nat) (h : i < l.length) : rd_T25 l (i : Int) = l[i] := by simp [rd_T25, h]

theorem sz_loop (l : List (List S23)) (hl : l.length ≤ 1048576) (hr : ∀ r ∈ l, r.length ≤ 9223372036854775807) : ∀ (d i : Nat) (left : Int) (k : Nat), i + d = l.length → d < k → 0 ≤ left → left ≤ 1048576 →
    ∃ t, laws_szFractionSS.l0 k l left i = some t ∧ (0 ≤ t → ∀ j (h : j < l.length), i ≤ j → l[j].length ≤ 1048576)
  | 0, i, left, k, hi, hk, h0, h1 => by
    obtain ⟨k, rfl⟩ : ∃ m, k = m + 1 := ⟨k - 1, by omega⟩
    simp only [laws_szFractionSS.l0]
    rw [if_neg (by omega)]
    exact ⟨_, rfl, fun _ j hj hij => by omega⟩
  | d + 1, i, left, k, hi, hk, h0, h1 => by
    obtain ⟨k, rfl⟩ : ∃ m, k = m + 1 := ⟨k - 1, by omega⟩
    have hlt : i < l.length := by omega
    obtain ⟨t, ht, ht1, ht2⟩ := sz_one l[i] left h0 h1 (hr _ (List.getElem_mem hlt))
    simp only [laws_szFractionSS.l0]
    rw [if_pos (by omega), if_pos (by omega), rdL2_at l i hlt, ht]
    simp only [Option.bind_some]
    by_cases hn : t < 0
    · rw [if_pos hn]
      exact ⟨_, rfl, fun h => by omega⟩
    · rw [if_neg hn, wrap_in (by omega) (by omega), show ((i : Int) + 1) = ((i + 1 : Nat) : Int) from by omega]
      obtain ⟨t', h2, h3⟩ := sz_loop l hl hr d (i + 1) t k (by omega) (by omega) (by omega) ht1
      refine ⟨t', h2, fun h j hj hij => ?_⟩
      by_cases e : j = i
      · subst e; exact ht2 (by omega)
      · exact h3 h j hj (by omega)

theorem sz_all (l : List (List S23)) (k : Nat) (hk : 1048577 < k) (hm : l.length ≤ 9223372036854775807) (hr : ∀ r ∈ l, r.length ≤ 9223372036854775807) :
    ∃ t, laws_szFractionSS.f k l 1048576 = some t ∧ (0 ≤ t → l.length ≤ 1048576 ∧ ∀ r ∈ l, r.length ≤ 1048576) := by
  unfold laws_szFractionSS.f
  rw [wrap_in (by omega) (by omega)]
  by_cases h : (1048576 : Int) - (l.length : Int) < 0
  · rw [if_pos h]
    exact ⟨_, rfl, fun h => by omega⟩
  · rw [if_neg h]
    obtain ⟨t, h1, h2⟩ := sz_loop l (by omega) hr l.length 0 ((1048576 : Int) - (l.length : Int)) k (by omega) (by omega) (by omega) (by omega)
    refine ⟨t, h1, fun ht => ⟨by omega, fun r hr' => ?_⟩⟩
    obtain ⟨j, hj, rfl⟩ := List.getElem_of_mem hr'
    exact h2 ht j hj (Nat.zero_le _)

/-! ### the copies -/
def conv (x : S23) : S25 := ⟨x.f0, x.f1⟩
theorem set_copy {α β : Type} (f : α → β) (l : List α) (z : β) (i : Nat) (h : i < l.length) : ((l.take i).map f ++ List.replicate (l.length - i) z).set i (f l[i]) = (l.take (i + 1)).map f ++ List.replicate (l.length - (i + 1)) z := by
  have hl : ((l.take i).map f).length = i := by simp; omega
  rw [List.set_append_right (h := by omega), hl, Nat.sub_self, show l.length - i = (l.length - (i + 1)) + 1 from by omega, List.replicate_succ, List.set_cons_zero]
  rw [List.take_succ_eq_append_getElem h, List.map_append, List.append_assoc]
  rfl

theorem conv_loop (l : List S23) (hl : l.length ≤ 1048576) : ∀ (d i k : Nat), i + d = l.length → d < k →
    laws_toFractionS.l0 k l ((l.take i).map conv ++ List.replicate (l.length - i) z25) i = some (l.map conv)
  | 0, i, k, hi, hk => by
    obtain ⟨k, rfl⟩ : ∃ m, k = m + 1 := ⟨k - 1, by omega⟩
    simp only [laws_toFractionS.l0]
    rw [if_neg (by omega), show l.length - i = 0 from by omega, List.take_of_length_le (by omega)]
    simp
  | d + 1, i, k, hi, hk => by
    obtain ⟨k, rfl⟩ : ∃ m, k = m + 1 := ⟨k - 1, by omega⟩
    have hlt : i < l.length := by omega
    simp only [laws_toFractionS.l0, laws_toFraction.f, Option.bind_some]
    rw [if_pos (by omega), if_pos (by omega), if_pos (by simp; omega), rdT23_at l i hlt, wrap_in (by omega) (by omega), show ((i : Int) + 1) = ((i + 1 : Nat) : Int) from by omega, show ((i : Int)).toNat = i from by omega]
    have := set_copy conv l z25 i hlt
    unfold conv at this ⊢
    rw [this]
    exact conv_loop l hl d (i + 1) k (by omega) (by omega)
theorem conv_row (l : List S23) (hl : l.length ≤ 1048576) (k : Nat) (hk : 1048577 < k) : laws_toFractionS.f k l = some (l.map conv) := by
  unfold laws_toFractionS.f
  rw [if_pos (by omega), if_pos (by omega), show ((l.length : Int)).toNat = l.length from by omega]
  have := conv_loop l hl l.length 0 k (by omega) (by omega)
  simpa using this

def conv2 (l : List S23) : List S25 := l.map conv
theorem conv2_loop (l : List (List S23)) (hl : l.length ≤ 1048576) (hr : ∀ r ∈ l, r.length ≤ 1048576) : ∀ (d i k : Nat), i + d = l.length → d + 1048577 < k →
    laws_toFractionSS.l0 k l ((l.take i).map conv2 ++ List.replicate (l.length - i) []) i = some (l.map conv2)
  | 0, i, k, hi, hk => by
    obtain ⟨k, rfl⟩ : ∃ m, k = m + 1 := ⟨k - 1, by omega⟩
    simp only [laws_toFractionSS.l0]
    rw [if_neg (by omega), show l.length - i = 0 from by omega, List.take_of_length_le (by omega)]
    simp
  | d + 1, i, k, hi, hk => by
    obtain ⟨k, rfl⟩ : ∃ m, k = m + 1 := ⟨k - 1, by omega⟩
    have hlt : i < l.length := by omega
    simp only [laws_toFractionSS.l0]
    rw [if_pos (by omega), if_pos (by omega), rdL2_at l i hlt, conv_row _ (hr _ (List.getElem_mem hlt)) k (by omega)]
    simp only [Option.bind_some]
    rw [if_pos (by simp; omega), wrap_in (by omega) (by omega), show ((i : Int) + 1) = ((i + 1 : Nat) : Int) from by omega, show ((i : Int)).toNat = i from by omega]
    have := set_copy conv2 l [] i hlt
    unfold conv2 at this ⊢
    rw [this]
    exact conv2_loop l hl hr d (i + 1) k (by omega) (by omega)
theorem conv_all (l : List (List S23)) (hl : l.length ≤ 1048576) (hr : ∀ r ∈ l, r.length ≤ 1048576) (k : Nat) (hk : 3000000 < k) : laws_toFractionSS.f k l = some (l.map conv2) := by
  unfold laws_toFractionSS.f
  rw [if_pos (by omega), if_pos (by omega), show ((l.length : Int)).toNat = l.length from by omega]
  have := conv2_loop l hl hr l.length 0 k (by omega) (by omega)
  simpa using this

/-! ### a matrix is itself -/
theorem eqS_loop (l : List S25) (hl : l.length ≤ 1048576) : ∀ (d i k : Nat), i + d = l.length → d < k → laws_eqFractionS.l0 k l l i = some true
  | 0, i, k, hi, hk => by
    obtain ⟨k, rfl⟩ : ∃ m, k = m + 1 := ⟨k - 1, by omega⟩
    simp only [laws_eqFractionS.l0]
    rw [if_neg (by omega)]
  | d + 1, i, k, hi, hk => by
    obtain ⟨k, rfl⟩ : ∃ m, k = m + 1 := ⟨k - 1, by omega⟩
    simp only [laws_eqFractionS.l0, laws_eqFraction.f]
    rw [if_pos (by omega), if_pos (by omega), if_pos (by omega), if_pos trivial, if_pos trivial]
    simp only [Option.bind_some]
    rw [if_pos trivial, wrap_in (by omega) (by omega), show ((i : Int) + 1) = ((i + 1 : Nat) : Int) from by omega]
    exact eqS_loop l hl d (i + 1) k (by omega) (by omega)
theorem eqSS_loop (l : List (List S25)) (hl : l.length ≤ 1048576) (hr : ∀ r ∈ l, r.length ≤ 1048576) : ∀ (d i k : Nat), i + d = l.length → d + 1048577 < k → laws_eqFractionSS.l0 k l l i = some true
  | 0, i, k, hi, hk => by
    obtain ⟨k, rfl⟩ : ∃ m, k = m + 1 := ⟨k - 1, by omega⟩
    simp only [laws_eqFractionSS.l0]
    rw [if_neg (by omega)]
  | d + 1, i, k, hi, hk => by
    obtain ⟨k, rfl⟩ : ∃ m, k = m + 1 := ⟨k - 1, by omega⟩
    have hlt : i < l.length := by omega
    simp only [laws_eqFractionSS.l0]
    rw [if_pos (by omega), if_pos (by omega), if_pos (by omega), rdL5_at l i hlt]
    unfold laws_eqFractionS.f
    rw [if_pos rfl, show (0 : Int) = ((0 : Nat) : Int) from rfl, eqS_loop l[i] (hr _ (List.getElem_mem hlt)) l[i].length 0 k (by omega) (by have := hr _ (List.getElem_mem hlt); omega)]
    simp only [Option.bind_some]
    rw [if_pos trivial, wrap_in (by omega) (by omega), show ((i : Int) + 1) = ((i + 1 : Nat) : Int) from by omega]
    exact eqSS_loop l hl hr d (i + 1) k (by omega) (by omega)
theorem eq_self (l : List (List S25)) (hl : l.length ≤ 1048576) (hr : ∀ r ∈ l, r.length ≤ 1048576) (k : Nat) (hk : 3000000 < k) : laws_eqFractionSS.f k l l = some true := by
  unfold laws_eqFractionSS.f
  rw [if_pos rfl]
  exact eqSS_loop l hl hr l.length 0 k (by omega) (by omega)

end Go.Proofs.YtjdkhllkncomaaaDoor.M
