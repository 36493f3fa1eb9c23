/-
  The program's text of a matrix is the reference's: plain law.
-/
import Derived.Test.YtjdkhllkncomaaaDoorMMatOk
namespace Go.Proofs.YtjdkhllkncomaaaDoor.M
open Go.RowKit Go.Proofs.YtjdkhllkncomaaaDoor Go.Proofs.YtjdkhllkncomaaaDoor.Wide Go.Proofs.YtjdkhllkncomaaaDoor.WideT Go.Proofs.YtjdkhllkncomaaaDoorW.PrintWords Go.Proofs.YtjdkhllkncomaaaDoorW.PrintLast Go.Proofs.YtjdkhllkncomaaaDoorW.PrintMore

def ft (x : S25) : List UInt8 := ftext x.f0 x.f1
/-- The text of a row. -/
def rtext (r : List S25) : List UInt8 := Lib.join (r.map ft) [32]
def mtext (m : List (List S25)) : List UInt8 := (m.map fun r => rtext r ++ [10]).flatten

theorem mtext_cons (r : List S25) (m : List (List S25)) : mtext (r :: m) = rtext r ++ [10] ++ mtext m := by simp [mtext]
theorem tail_cons (x : List UInt8) (r : List (List UInt8)) : Lib.joinTail [32] (x :: r) = [32] ++ x ++ Lib.joinTail [32] r := by simp [Lib.joinTail]

def Good (r : List S25) : Prop := r.length ≤ 8 ∧ ∀ x ∈ r, vf x.f0 x.f1 = true

theorem tail_len (r : List S25) (h : ∀ x ∈ r, vf x.f0 x.f1 = true) : (Lib.joinTail [32] (r.map ft)).length ≤ 42 * r.length := by
  induction r with
  | nil => simp [Lib.joinTail]
  | cons x r ih =>
    have := ih (fun y hy => h y (List.mem_cons_of_mem _ hy))
    have hx := ftext_len x.f0 x.f1 (h x List.mem_cons_self)
    simp only [Lib.joinTail, List.map_cons, List.flatten_cons, List.length_append, List.length_cons, List.length_nil] at this ⊢
    unfold ft at this ⊢
    omega
theorem rtext_len (r : List S25) (h : Good r) : (rtext r).length ≤ 400 := by
  cases r with
  | nil => simp [rtext, Lib.join_nil]
  | cons x r =>
    have h1 := tail_len r (fun y hy => h.2 y (List.mem_cons_of_mem _ hy))
    have hx := ftext_len x.f0 x.f1 (h.2 x List.mem_cons_self)
    have hl := h.1
    simp only [List.length_cons] at hl
    unfold rtext
    rw [List.map_cons, Lib.join_cons, List.length_append]
    unfold ft at h1 ⊢
    omega

/-- The program's text of a row. -/
theorem row_loop (r : List S25) (h : Good r) (h0 : 0 < r.length) : ∀ (d i k : Nat), i + d = r.length → d < k →
    impl_fractionsText.l0 k ((r.take i).map fun x => str (ft x)) r (r.length : Int) i = some (str (rtext r))
  | 0, i, k, hi, hk => by
    obtain ⟨k, rfl⟩ : ∃ q, k = q + 1 := ⟨k - 1, by omega⟩
    simp only [impl_fractionsText.l0]
    rw [if_neg (by omega), List.take_of_length_le (by omega)]
    have e : (r.map fun x => str (ft x)).map (·.data.toList) = r.map ft := by
      rw [List.map_map]
      refine List.map_congr_left fun x _ => ?_
      exact str_toList _
    have e32 : (⟨#[32]⟩ : ByteArray).data.toList = [32] := rfl
    have hl := rtext_len r h
    unfold strings_Join.f
    rw [e, e32, if_pos ⟨by simpa using h0, by have := h.1; simp; omega, by unfold rtext at hl; omega⟩]
    rfl
  | d + 1, i, k, hi, hk => by
    obtain ⟨k, rfl⟩ : ∃ q, k = q + 1 := ⟨k - 1, by omega⟩
    have hlt : i < r.length := by omega
    have h8 := h.1
    simp only [impl_fractionsText.l0]
    rw [if_pos (by omega), if_pos (by omega), if_pos (by omega), rdT25_at r i hlt, ftext_prog _ _ (h.2 _ (List.getElem_mem hlt))]
    simp only [Option.bind_some]
    rw [if_pos (by simp; omega), wrap_in (by omega) (by omega), show ((i : Int) + 1) = ((i + 1 : Nat) : Int) from by omega]
    have := row_loop r h h0 d (i + 1) k (by omega) (by omega)
    rw [List.take_succ_eq_append_getElem hlt, List.map_append] at this
    exact this
theorem row_prog (r : List S25) (h : Good r) (h0 : 0 < r.length) (k : Nat) (hk : 20 < k) : impl_fractionsText.f k r = some (str (rtext r)) := by
  unfold impl_fractionsText.f
  have := row_loop r h h0 r.length 0 k (by omega) (by have := h.1; omega)
  simpa using this

/-- The program's text. -/
theorem mat_loop (m : List (List S25)) (h8 : m.length ≤ 8) (hg : ∀ r ∈ m, Good r ∧ 0 < r.length) : ∀ (d i k : Nat) (acc : List UInt8), i + d = m.length → d + 20 < k → acc.length + 500 * d ≤ 5000 →
    impl_matrixText.l0 k (str acc) m (m.length : Int) i = some (str (acc ++ mtext (m.drop i)))
  | 0, i, k, acc, hi, hk, ha => by
    obtain ⟨k, rfl⟩ : ∃ q, k = q + 1 := ⟨k - 1, by omega⟩
    simp only [impl_matrixText.l0]
    rw [if_neg (by omega), List.drop_eq_nil_of_le (by omega)]
    simp [mtext]
  | d + 1, i, k, acc, hi, hk, ha => by
    obtain ⟨k, rfl⟩ : ∃ q, k = q + 1 := ⟨k - 1, by omega⟩
    have hlt : i < m.length := by omega
    have hr := hg _ (List.getElem_mem hlt)
    have hl := rtext_len _ hr.1
    simp only [impl_matrixText.l0]
    rw [if_pos (by omega), if_pos (by omega), if_pos (by omega), rdL5_at m i hlt, row_prog _ hr.1 hr.2 k (by omega)]
    simp only [Option.bind_some]
    have e10 : (⟨#[10]⟩ : ByteArray) = str [10] := rfl
    rw [e10]
    simp only [str_append, str_size]
    rw [if_pos (by omega), if_pos (by simp; omega), wrap_in (by omega) (by omega), show ((i : Int) + 1) = ((i + 1 : Nat) : Int) from by omega]
    rw [mat_loop m h8 hg d (i + 1) k _ (by omega) (by omega) (by simp; omega), List.drop_eq_getElem_cons hlt, mtext_cons]
    simp only [List.append_assoc]

/-- The reference's text of the rest of a row: from place j on. -/
def rest (r : List S25) (j : Nat) : List UInt8 := if j = 0 then rtext r else Lib.joinTail [32] ((r.drop j).map ft)
theorem rest_step (r : List S25) (j : Nat) (h : j < r.length) : rest r j = (if j = 0 then [] else [32]) ++ ft r[j] ++ rest r (j + 1) := by
  unfold rest
  rw [if_neg (by omega : ¬ j + 1 = 0)]
  by_cases hj : j = 0
  · subst hj
    rw [if_pos rfl, if_pos rfl]
    cases r with
    | nil => simp at h
    | cons x r =>
      unfold rtext
      rw [List.map_cons, Lib.join_cons]
      simp
  · rw [if_neg hj, if_neg hj, List.drop_eq_getElem_cons h, List.map_cons, tail_cons]
theorem rest_end (r : List S25) (h : 0 < r.length) : rest r r.length = [] := by
  unfold rest
  rw [if_neg (by omega), List.drop_length]
  rfl

theorem line_ref (m : List (List S25)) (h8 : m.length ≤ 8) (i : Nat) (hi : i < m.length) (hlen : m[i].length = m.length) (hv : ∀ x ∈ m[i], vf x.f0 x.f1 = true) (b : List UInt8 → List UInt8) (K : Nat) (hK : 1000000001 ≤ K) (hb : ∀ (acc : List UInt8) k, K ≤ k → acc.length ≤ 600 * (i + 1) → spec_MatrixText.l0 k m (str acc) ((i + 1 : Nat) : Int) = some (str (b acc))) :
    ∀ (d j k : Nat) (acc : List UInt8), j + d = m.length → d + K < k → acc.length ≤ 600 * i + 50 * j → spec_MatrixText.l1 k m (str acc) i j = some (str (b (acc ++ rest m[i] j ++ [10])))
  | 0, j, k, acc, hj, hk, ha => by
    obtain ⟨k, rfl⟩ : ∃ q, k = q + 1 := ⟨k - 1, by omega⟩
    simp only [spec_MatrixText.l1]
    have e10 : (⟨#[10]⟩ : ByteArray) = str [10] := rfl
    rw [e10]
    simp only [str_append, str_size]
    rw [if_neg (by omega), if_pos (by omega), wrap_in (by omega) (by omega), show ((i : Int) + 1) = ((i + 1 : Nat) : Int) from by omega, hb _ k (by omega) (by simp; omega)]
    rw [show j = m[i].length from by omega, rest_end _ (by omega), List.append_nil]
  | d + 1, j, k, acc, hj, hk, ha => by
    obtain ⟨k, rfl⟩ : ∃ q, k = q + 1 := ⟨k - 1, by omega⟩
    have hlt : j < m[i].length := by omega
    have hvj := hv _ (List.getElem_mem hlt)
    have hfl := ftext_len _ _ hvj
    have ih := line_ref m h8 i hi hlen hv b K hK hb d (j + 1) k
    have htx := text_ref m[i][j].f0 m[i][j].f1 k (by omega)
    rw [if_pos hvj] at htx
    have e32 : (⟨#[32]⟩ : ByteArray) = str [32] := rfl
    simp only [spec_MatrixText.l1]
    rw [rdL5_at m i hi, rdT25_at _ j hlt, htx, e32]
    simp only [Option.bind_some, str_append, str_size]
    rw [if_pos (show (j : Int) < (m.length : Int) by omega), wrap_in (by omega) (by omega), show ((j : Int) + 1) = ((j + 1 : Nat) : Int) from by omega, rest_step _ j hlt]
    by_cases h0 : j = 0
    · rw [if_neg (by omega), if_pos (by omega), if_pos (by omega), if_pos (by omega), if_pos (by omega), if_pos (by omega), ih _ (by omega) (by omega) (by simp; omega), if_pos h0]
      unfold ft
      simp
    · rw [if_pos (by omega), if_pos (by omega), if_pos (by omega), if_pos (by omega), if_pos (by omega), if_pos (by omega), if_pos (by simp; omega), ih _ (by omega) (by omega) (by simp; omega), if_neg h0]
      unfold ft
      simp

theorem all_ref (m : List (List S25)) (h8 : m.length ≤ 8) (hlen : ∀ r ∈ m, r.length = m.length) (hv : ∀ r ∈ m, ∀ x ∈ r, vf x.f0 x.f1 = true) : ∀ (d i k : Nat) (acc : List UInt8), i + d = m.length → 1000000100 + 30 * d < k → acc.length ≤ 600 * i →
    spec_MatrixText.l0 k m (str acc) i = some (str (acc ++ mtext (m.drop i)))
  | 0, i, k, acc, hi, hk, ha => by
    obtain ⟨k, rfl⟩ : ∃ q, k = q + 1 := ⟨k - 1, by omega⟩
    simp only [spec_MatrixText.l0]
    rw [if_neg (by omega), List.drop_eq_nil_of_le (by omega)]
    simp [mtext]
  | d + 1, i, k, acc, hi, hk, ha => by
    obtain ⟨k, rfl⟩ : ∃ q, k = q + 1 := ⟨k - 1, by omega⟩
    have hlt : i < m.length := by omega
    simp only [spec_MatrixText.l0]
    rw [if_pos (by omega)]
    have := line_ref m h8 i hlt (hlen _ (List.getElem_mem hlt)) (hv _ (List.getElem_mem hlt)) (fun a => a ++ mtext (m.drop (i + 1))) (1000000101 + 30 * d) (by omega) (fun a k hk hl => all_ref m h8 hlen hv d (i + 1) k a (by omega) (by omega) hl) m.length 0 k acc (by omega) (by omega) (by omega)
    rw [show (0 : Int) = ((0 : Nat) : Int) from rfl, this, List.drop_eq_getElem_cons hlt, mtext_cons]
    have er : rest m[i] 0 = rtext m[i] := by unfold rest; rw [if_pos rfl]
    rw [er]
    simp only [List.append_assoc]

theorem text_same (m : List (List S25)) (h : vm m = true) (k : Nat) (hk : 1000002000 < k) : spec_MatrixText.l0 k m (⟨#[]⟩ : ByteArray) 0 = some (str (mtext m)) ∧ impl_matrixText.f k m = some (str (mtext m)) := by
  unfold vm at h
  rw [Bool.and_eq_true, Bool.and_eq_true, decide_eq_true_eq] at h
  obtain ⟨h8, ha, -⟩ := h
  have ha := List.all_eq_true.1 ha
  have hlen : ∀ r ∈ m, r.length = m.length := fun r hr => by
    have := ha r hr
    unfold vrow at this
    rw [Bool.and_eq_true, decide_eq_true_eq] at this
    exact this.1
  have hv : ∀ r ∈ m, ∀ x ∈ r, vf x.f0 x.f1 = true := fun r hr x hx => by
    have := ha r hr
    unfold vrow vlist at this
    rw [Bool.and_eq_true, Bool.and_eq_true] at this
    exact List.all_eq_true.1 this.2.2 x hx
  have e0 : (⟨#[]⟩ : ByteArray) = str [] := rfl
  constructor
  · have := all_ref m h8 hlen hv m.length 0 k [] (by omega) (by omega) (by simp)
    rw [e0]
    simpa using this
  · unfold impl_matrixText.f
    rw [e0]
    have := mat_loop m h8 (fun r hr => ⟨⟨by rw [hlen r hr]; exact h8, hv r hr⟩, by rw [hlen r hr]; exact List.length_pos_of_mem hr⟩) m.length 0 k [] (by omega) (by omega) (by simp; omega)
    simpa using this

/-- The law. -/
theorem MatrixText_pure (l : List (List S23)) (hm : l.length ≤ 9223372036854775807) (hr : ∀ r ∈ l, r.length ≤ 9223372036854775807) : laws_FnExactMatrixText.f 1000003000 l = some true := by
  obtain ⟨t, ht, hb⟩ := sz_all l 1000003000 (by omega) hm hr
  unfold laws_FnExactMatrixText.f
  rw [ht]
  simp only [Option.bind_some]
  by_cases h : t < 0
  · rw [if_pos h]
  · obtain ⟨h1, h2⟩ := hb (by omega)
    rw [if_neg h, conv_all l h1 h2 _ (by omega)]
    simp only [Option.bind_some]
    have hself := eq_self (l.map conv2) (by simpa using h1) (by
      intro r hr'
      obtain ⟨s, hs, rfl⟩ := List.mem_map.1 hr'
      have := h2 s hs
      simpa [conv2] using this) 1000003000 (by omega)
    unfold spec_MatrixText.f impl_MatrixText.f impl_ValidMatrix.f
    rw [mok_ref _ _ (by omega), vm_same]
    simp only [Option.bind_some]
    by_cases hv : vm (l.map conv2) = true
    · obtain ⟨e1, e2⟩ := text_same _ hv 1000003000 (by omega)
      rw [if_pos hv, if_pos hv, e1, e2]
      simp only [Option.bind_some]
      rw [if_pos trivial, hself]
      simp
    · rw [if_neg hv, if_neg hv]
      simp only [Option.bind_some]
      rw [if_pos trivial, hself]
      simp

end Go.Proofs.YtjdkhllkncomaaaDoor.M
