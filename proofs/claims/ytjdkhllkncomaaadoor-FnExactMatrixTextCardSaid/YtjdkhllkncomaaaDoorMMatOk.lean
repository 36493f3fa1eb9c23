/-
  The reference's test of a matrix is the program's: plain law.
-/
import Derived.Test.YtjdkhllkncomaaaDoorMMat
namespace Go.Proofs.YtjdkhllkncomaaaDoor.M
open Go.RowKit Go.Proofs.YtjdkhllkncomaaaDoor Go.Proofs.YtjdkhllkncomaaaDoor.Wide Go.Proofs.YtjdkhllkncomaaaDoorW.PrintWords Go.Proofs.YtjdkhllkncomaaaDoorW.PrintLast Go.Proofs.YtjdkhllkncomaaaDoorW.PrintMore

def rowsOk (m : List (List S25)) (i : Nat) : Bool := (m.drop i).all fun r => decide (r.length = m.length)
def innS (m : List (List S25)) (i : Int) : Nat → Int → Bool
  | 0, _ => true
  | d + 1, j => vf (at2 m i j).f0 (at2 m i j).f1 && (!Wide.differ (at2 m i j) (at2 m j i) && innS m i d (j + 1))
def outS (m : List (List S25)) : Nat → Int → Bool
  | 0, _ => true
  | d + 1, i => innS m i m.length 0 && outS m d (i + 1)

theorem rowsOk_at (m : List (List S25)) (h : rowsOk m 0 = true) (i : Nat) (hi : i < m.length) : (rd_L5 m (i : Int)).length = m.length := by
  rw [rdL5_at m i hi]
  have := List.all_eq_true.1 h m[i] (by rw [List.drop_zero]; exact List.getElem_mem hi)
  simpa using this

theorem l2_ref (m : List (List S25)) (h8 : m.length ≤ 8) (hr : rowsOk m 0 = true) (i : Nat) (hi : i < m.length) (b : Bool) (K : Nat) (hK : 1000000001 ≤ K) (hb : ∀ k, K ≤ k → spec_l02Matrix.l1 k m ((i + 1 : Nat) : Int) = some b) : ∀ (d j k : Nat), j + d = m.length → d + K < k →
    spec_l02Matrix.l2 k m i j = some (innS m i d j && b)
  | 0, j, k, hj, hk => by
    obtain ⟨k, rfl⟩ : ∃ q, k = q + 1 := ⟨k - 1, by omega⟩
    simp only [spec_l02Matrix.l2]
    rw [if_neg (by omega), wrap_in (by omega) (by omega), show ((i : Int) + 1) = ((i + 1 : Nat) : Int) from by omega, hb k (by omega)]
    simp [innS]
  | d + 1, j, k, hj, hk => by
    obtain ⟨k, rfl⟩ : ∃ q, k = q + 1 := ⟨k - 1, by omega⟩
    have hlt : j < m.length := by omega
    have r1 := rowsOk_at m hr i hi
    have r2 := rowsOk_at m hr j hlt
    have ih := l2_ref m h8 hr i hi b K hK hb d (j + 1) k (by omega) (by omega)
    simp only [spec_l02Matrix.l2]
    rw [if_pos (by omega), if_pos (by omega), if_pos (by omega), if_pos (by omega), if_pos (by omega), ok_ref _ _ k (by omega)]
    simp only [Option.bind_some]
    have e1 : rd_T25 (rd_L5 m (i : Int)) (j : Int) = at2 m i j := rfl
    have e2 : rd_T25 (rd_L5 m (j : Int)) (i : Int) = at2 m j i := rfl
    rw [e1, e2]
    have ed : ((!((at2 m i j).f0 == (at2 m j i).f0)) || (!((at2 m i j).f1 == (at2 m j i).f1))) = Wide.differ (at2 m i j) (at2 m j i) := rfl
    rw [ed]
    simp only [innS]
    by_cases hv : vf (at2 m i j).f0 (at2 m i j).f1 = true
    · rw [if_pos hv, if_pos (by omega)]
      by_cases hd : Wide.differ (at2 m i j) (at2 m j i) = true
      · rw [if_pos hd]; simp [hd]
      · rw [if_neg hd, wrap_in (by omega) (by omega), show ((j : Int) + 1) = ((j + 1 : Nat) : Int) from by omega, ih]
        simp [hv, hd]
    · rw [if_neg hv]; simp [hv]

theorem l1_ref (m : List (List S25)) (h8 : m.length ≤ 8) (hr : rowsOk m 0 = true) : ∀ (d i k : Nat), i + d = m.length → 1000000001 + 20 * (d + 1) < k → spec_l02Matrix.l1 k m i = some (outS m d i)
  | 0, i, k, hi, hk => by
    obtain ⟨k, rfl⟩ : ∃ q, k = q + 1 := ⟨k - 1, by omega⟩
    simp only [spec_l02Matrix.l1]
    rw [if_neg (by omega)]
    rfl
  | d + 1, i, k, hi, hk => by
    obtain ⟨k, rfl⟩ : ∃ q, k = q + 1 := ⟨k - 1, by omega⟩
    simp only [spec_l02Matrix.l1]
    rw [if_pos (by omega)]
    have ih := l1_ref m h8 hr d (i + 1)
    have := l2_ref m h8 hr i (by omega) (outS m d ((i + 1 : Nat) : Int)) (1000000001 + 20 * (d + 1) + 1) (by omega) (fun k hk => ih k (by omega) (by omega)) m.length 0 k (by omega) (by omega)
    rw [show (0 : Int) = ((0 : Nat) : Int) from rfl, this]
    simp only [outS]
    rfl

theorem l0_ref (m : List (List S25)) (h8 : m.length ≤ 8) : ∀ (d i k : Nat), i + d = m.length → 1000000300 + d < k → (rowsOk m 0 = true ∨ ∃ j, i ≤ j ∧ ∃ h : j < m.length, m[j].length ≠ m.length) →
    spec_l02Matrix.l0 k m i = some (rowsOk m i && outS m m.length 0)
  | 0, i, k, hi, hk, hor => by
    obtain ⟨k, rfl⟩ : ∃ q, k = q + 1 := ⟨k - 1, by omega⟩
    have hr : rowsOk m 0 = true := by
      rcases hor with h | ⟨j, hj, hjl, _⟩
      · exact h
      · omega
    simp only [spec_l02Matrix.l0]
    rw [if_neg (by omega), show (0 : Int) = ((0 : Nat) : Int) from rfl, l1_ref m h8 hr m.length 0 k (by omega) (by omega)]
    unfold rowsOk
    rw [List.drop_eq_nil_of_le (by omega)]
    rfl
  | d + 1, i, k, hi, hk, hor => by
    obtain ⟨k, rfl⟩ : ∃ q, k = q + 1 := ⟨k - 1, by omega⟩
    have hlt : i < m.length := by omega
    have e : rowsOk m i = (decide (m[i].length = m.length) && rowsOk m (i + 1)) := by
      unfold rowsOk
      rw [List.drop_eq_getElem_cons hlt]
      rfl
    simp only [spec_l02Matrix.l0]
    rw [if_pos (by omega), if_pos (by omega), rdL5_at m i hlt, e]
    by_cases h : m[i].length = m.length
    · rw [if_pos (by omega), wrap_in (by omega) (by omega), show ((i : Int) + 1) = ((i + 1 : Nat) : Int) from by omega, decide_eq_true h, Bool.true_and]
      refine l0_ref m h8 d (i + 1) k (by omega) (by omega) ?_
      rcases hor with h' | ⟨j, hj, hjl, hne⟩
      · exact Or.inl h'
      · refine Or.inr ⟨j, ?_, hjl, hne⟩
        by_cases ej : j = i
        · subst ej; exact absurd h hne
        · omega
    · rw [if_neg (by omega), decide_eq_false h]
      simp

/-- The reference's test. -/
theorem mok_ref (m : List (List S25)) (k : Nat) (hk : 1000001000 < k) : spec_l02Matrix.f k m = some (decide (m.length ≤ 8) && (rowsOk m 0 && outS m m.length 0)) := by
  unfold spec_l02Matrix.f
  by_cases h : (m.length : Int) > 8
  · rw [if_pos h, decide_eq_false (by omega)]; rfl
  · rw [if_neg h, decide_eq_true (by omega), Bool.true_and, show (0 : Int) = ((0 : Nat) : Int) from rfl]
    refine l0_ref m (by omega) m.length 0 k (by omega) (by omega) ?_
    by_cases hr : rowsOk m 0 = true
    · exact Or.inl hr
    · refine Or.inr ?_
      have : ∃ r ∈ m, r.length ≠ m.length := by
        apply Classical.byContradiction
        intro hn
        apply hr
        unfold rowsOk
        rw [List.drop_zero, List.all_eq_true]
        intro r hr'
        apply decide_eq_true
        apply Classical.byContradiction
        intro hne
        exact hn ⟨r, hr', hne⟩
      obtain ⟨r, hr', hne⟩ := this
      obtain ⟨j, hj, rfl⟩ := List.getElem_of_mem hr'
      exact ⟨j, Nat.zero_le _, hj, hne⟩

/-! ### the same as the program's -/
theorem innS_iff (m : List (List S25)) (i : Int) : ∀ (d : Nat) (j : Int), innS m i d j = true ↔ ∀ t : Nat, t < d → vf (at2 m i (j + t)).f0 (at2 m i (j + t)).f1 = true ∧ Wide.differ (at2 m i (j + t)) (at2 m (j + t) i) = false
  | 0, j => by simp [innS]
  | d + 1, j => by
    simp only [innS, Bool.and_eq_true, Bool.not_eq_true']
    rw [innS_iff m i d (j + 1)]
    constructor
    · rintro ⟨h1, h2, h3⟩ t ht
      cases t with
      | zero => rw [show j + ((0 : Nat) : Int) = j from by omega]; exact ⟨h1, h2⟩
      | succ t => rw [show j + ((t + 1 : Nat) : Int) = j + 1 + (t : Int) from by omega]; exact h3 t (by omega)
    · intro h
      have h0 := h 0 (by omega)
      rw [show j + ((0 : Nat) : Int) = j from by omega] at h0
      refine ⟨h0.1, h0.2, fun t ht => ?_⟩
      have := h (t + 1) (by omega)
      rwa [show j + ((t + 1 : Nat) : Int) = j + 1 + (t : Int) from by omega] at this
theorem outS_iff (m : List (List S25)) : ∀ (d : Nat) (i : Int), outS m d i = true ↔ ∀ t : Nat, t < d → innS m (i + t) m.length 0 = true
  | 0, i => by simp [outS]
  | d + 1, i => by
    simp only [outS, Bool.and_eq_true]
    rw [outS_iff m d (i + 1)]
    constructor
    · rintro ⟨h1, h3⟩ t ht
      cases t with
      | zero => rw [show i + ((0 : Nat) : Int) = i from by omega]; exact h1
      | succ t => rw [show i + ((t + 1 : Nat) : Int) = i + 1 + (t : Int) from by omega]; exact h3 t (by omega)
    · intro h
      have h0 := h 0 (by omega)
      rw [show i + ((0 : Nat) : Int) = i from by omega] at h0
      refine ⟨h0, fun t ht => ?_⟩
      have := h (t + 1) (by omega)
      rwa [show i + ((t + 1 : Nat) : Int) = i + 1 + (t : Int) from by omega] at this
theorem inn_iff (m : List (List S25)) (i : Int) : ∀ (d : Nat) (j : Int), inn m i d j = true ↔ ∀ t : Nat, t < d → Wide.differ (at2 m (j + t) i) (at2 m i (j + t)) = false
  | 0, j => by simp [inn]
  | d + 1, j => by
    simp only [inn]
    constructor
    · intro h t ht
      by_cases hd : Wide.differ (at2 m j i) (at2 m i j) = true
      · rw [if_pos hd] at h; cases h
      · rw [if_neg hd] at h
        cases t with
        | zero => rw [show j + ((0 : Nat) : Int) = j from by omega]; simpa using hd
        | succ t => rw [show j + ((t + 1 : Nat) : Int) = j + 1 + (t : Int) from by omega]; exact (inn_iff m i d (j + 1)).1 h t (by omega)
    · intro h
      have h0 := h 0 (by omega)
      rw [show j + ((0 : Nat) : Int) = j from by omega] at h0
      rw [if_neg (by rw [h0]; simp)]
      refine (inn_iff m i d (j + 1)).2 fun t ht => ?_
      have := h (t + 1) (by omega)
      rwa [show j + ((t + 1 : Nat) : Int) = j + 1 + (t : Int) from by omega] at this
theorem outr_iff (m : List (List S25)) : ∀ (d : Nat) (i : Int), outr m d i = true ↔ ∀ t : Nat, t < d → inn m (i + t) m.length 0 = true
  | 0, i => by simp [outr]
  | d + 1, i => by
    simp only [outr]
    constructor
    · intro h t ht
      by_cases hd : inn m i m.length 0 = true
      · rw [if_pos hd] at h
        cases t with
        | zero => rw [show i + ((0 : Nat) : Int) = i from by omega]; exact hd
        | succ t => rw [show i + ((t + 1 : Nat) : Int) = i + 1 + (t : Int) from by omega]; exact (outr_iff m d (i + 1)).1 h t (by omega)
      · rw [if_neg hd] at h; cases h
    · intro h
      have h0 := h 0 (by omega)
      rw [show i + ((0 : Nat) : Int) = i from by omega] at h0
      rw [if_pos h0]
      refine (outr_iff m d (i + 1)).2 fun t ht => ?_
      have := h (t + 1) (by omega)
      rwa [show i + ((t + 1 : Nat) : Int) = i + 1 + (t : Int) from by omega] at this

theorem differ_comm (x y : S25) : Wide.differ x y = Wide.differ y x := by
  unfold Wide.differ
  rw [Bool.eq_iff_iff]
  simp
  omega

/-- The two tests are one. -/
theorem vm_same (m : List (List S25)) : (decide (m.length ≤ 8) && (rowsOk m 0 && outS m m.length 0)) = vm m := by
  rw [Bool.eq_iff_iff]
  unfold vm
  simp only [Bool.and_eq_true, decide_eq_true_eq]
  constructor
  · rintro ⟨h8, hr, ho⟩
    have ho := (outS_iff m m.length 0).1 ho
    refine ⟨h8, ?_, ?_⟩
    · rw [List.all_eq_true]
      intro r hr'
      obtain ⟨j, hj, rfl⟩ := List.getElem_of_mem hr'
      have hl := rowsOk_at m hr j hj
      rw [rdL5_at m j hj] at hl
      unfold vrow vlist
      rw [Bool.and_eq_true, Bool.and_eq_true, decide_eq_true_eq, decide_eq_true_eq]
      refine ⟨hl, by omega, ?_⟩
      rw [List.all_eq_true]
      intro x hx
      obtain ⟨t, ht, rfl⟩ := List.getElem_of_mem hx
      have h1 := (innS_iff m _ m.length 0).1 (ho j hj) t (by omega)
      rw [show (0 : Int) + (j : Int) = (j : Int) from by omega, show (0 : Int) + (t : Int) = (t : Int) from by omega] at h1
      have e : at2 m (j : Int) (t : Int) = m[j][t] := by unfold at2; rw [rdL5_at m j hj, rdT25_at _ t ht]
      rw [e] at h1
      exact h1.1
    · rw [outr_iff]
      intro t ht
      rw [inn_iff]
      intro u hu
      have := (innS_iff m _ m.length 0).1 (ho t ht) u hu
      rw [differ_comm]
      exact this.2
  · rintro ⟨h8, ha, ho⟩
    have ho := (outr_iff m m.length 0).1 ho
    have ha := List.all_eq_true.1 ha
    have hr : rowsOk m 0 = true := by
      unfold rowsOk
      rw [List.drop_zero, List.all_eq_true]
      intro r hr'
      have := ha r hr'
      unfold vrow at this
      rw [Bool.and_eq_true] at this
      exact this.1
    refine ⟨h8, hr, ?_⟩
    rw [outS_iff]
    intro t ht
    rw [innS_iff]
    intro u hu
    have h2 := (inn_iff m _ m.length 0).1 (ho t ht) u hu
    rw [differ_comm] at h2
    refine ⟨?_, h2⟩
    have hl := rowsOk_at m hr t ht
    rw [rdL5_at m t ht] at hl
    have hx := ha m[t] (List.getElem_mem ht)
    unfold vrow vlist at hx
    rw [Bool.and_eq_true, Bool.and_eq_true] at hx
    have hv := List.all_eq_true.1 hx.2.2 (m[t][u]'(by omega)) (List.getElem_mem _)
    rw [show (0 : Int) + (t : Int) = (t : Int) from by omega, show (0 : Int) + (u : Int) = (u : Int) from by omega]
    have e : at2 m (t : Int) (u : Int) = m[t][u]'(by omega) := by unfold at2; rw [rdL5_at m t ht, rdT25_at _ u (by omega)]
    rw [e]
    exact hv

end Go.Proofs.YtjdkhllkncomaaaDoor.M
