/-
  Plain laws on graphs: valid graphs, the pairs of their edges, their texts: what the program's and the reference's functions come to.
-/
import Derived.Test.YtjdkhllkncomaaaDoorGDec
import Derived.Test.YtjdkhllkncomaaaDoorGx5
namespace Go.Proofs.YtjdkhllkncomaaaDoor.G
open Go.RowKit Go.Proofs.YtjdkhllkncomaaaDoor Go.Proofs.YtjdkhllkncomaaaDoor.Wide Go.Proofs.YtjdkhllkncomaaaDoorW.PrintWords Go.Proofs.YtjdkhllkncomaaaDoorW.PrintLast Go.Proofs.YtjdkhllkncomaaaDoorW.PrintMore

/-- How many pairs so many vertices have. -/
def prs (n : Nat) : Nat := n * (n - 1) / 2

/-- A valid graph. -/
def vg (n e : Int) : Bool := decide (0 ≤ n) && decide (n ≤ 5) && decide (e < 2 ^ prs n.toNat)

theorem vg_iff (n e : Int) : vg n e = true ↔ 0 ≤ n ∧ n ≤ 5 ∧ e < 2 ^ prs n.toNat := by simp [vg, and_assoc]

theorem five (n : Int) (h0 : 0 ≤ n) (h5 : n ≤ 5) : n = 0 ∨ n = 1 ∨ n = 2 ∨ n = 3 ∨ n = 4 ∨ n = 5 := by omega

theorem in_prog (n a b : Int) : impl_in.f n a b = some (decide (a ≤ n) && decide (n ≤ b)) := by
  unfold impl_in.f
  by_cases h : a ≤ n
  · rw [if_pos h]; simp [h]
  · rw [if_neg h]; simp [h]

theorem vg_no {n e : Int} (h : ¬ (0 ≤ n ∧ n ≤ 5)) : some false = some (vg n e) := by
  congr 1; symm; rw [Bool.eq_false_iff]; intro h'; rw [vg_iff] at h'; exact h ⟨h'.1, h'.2.1⟩


/-- The reference's test of a graph. -/
theorem gok_ref (n e : Int) (h0 : 0 ≤ e) (h1 : e < 4294967296) : spec_l01Ok.f n e = some (vg n e) := by
  unfold spec_l01Ok.f
  rw [in_ref]
  simp only [Option.bind_some]
  by_cases h : 0 ≤ n ∧ n ≤ 5
  · rw [if_pos (by simp [h])]
    rcases five n h.1 h.2 with rfl | rfl | rfl | rfl | rfl | rfl
    all_goals
      simp [spec_l01Bits.f, wrap64, shl, IntKind.bits, IntKind.wrap, IntKind.signed]
      try rw [Bool.eq_iff_iff, vg_iff]
      try simp [prs]
      try omega
  · rw [if_neg (by simp; omega)]; exact vg_no h

/-- The bit of a pair. -/
def bitOf (i j : Nat) : Int := 2 ^ (prs j + i)
/-- Whether a pair is joined. -/
def J (e i j : Int) : Bool := (Go.bits .and .u32 e (bitOf i.toNat j.toNat)) != 0

theorem bit_prog (i j : Int) (h0 : 0 ≤ i) (h1 : i < j) (h5 : j ≤ 5) : impl_bit.f i j = some (bitOf i.toNat j.toNat) := by
  unfold impl_bit.f
  rw [if_neg (by omega)]
  rcases five j (by omega) h5 with rfl | rfl | rfl | rfl | rfl | rfl <;> rcases five i h0 (by omega) with rfl | rfl | rfl | rfl | rfl | rfl <;> first | omega | rfl | (simp [impl_pairs.f, wrap64, shl, bitOf, prs, IntKind.bits, IntKind.wrap, IntKind.signed])

theorem bit_ref (i j : Int) (k : Nat) (hk : 0 < k) (h0 : 0 ≤ i) (h1 : i < j) (h5 : j ≤ 5) : spec_l01Bit.f k i j = some (bitOf i.toNat j.toNat) := by
  obtain ⟨k, rfl⟩ : ∃ m, k = m + 1 := ⟨k - 1, by omega⟩
  simp only [spec_l01Bit.f]
  rw [if_neg (by omega)]
  rcases five j (by omega) h5 with rfl | rfl | rfl | rfl | rfl | rfl <;> rcases five i h0 (by omega) with rfl | rfl | rfl | rfl | rfl | rfl <;> first | omega | rfl | (simp [spec_l01Bits.f, wrap64, shl, bitOf, prs, IntKind.bits, IntKind.wrap, IntKind.signed])

theorem has_prog (n e i j : Int) (h0 : 0 ≤ i) (h1 : i < j) (h5 : j ≤ 5) : impl_Graph_has.f n e i j = some (J e i j) := by
  unfold impl_Graph_has.f
  rw [bit_prog i j h0 h1 h5]
  rfl

theorem has_ref (n e i j : Int) (k : Nat) (hk : 0 < k) (h0 : 0 ≤ i) (h1 : i < j) (h5 : j ≤ 5) : spec_l01Joined.f k n e i j = some (J e i j) := by
  unfold spec_l01Joined.f
  rw [if_neg (by omega), bit_ref i j k hk h0 h1 h5]
  rfl

/-- The edges from i on in the row j. -/
def innerL (e j : Int) : Nat → Int → List S102
  | 0, _ => []
  | d + 1, i => (if J e i j = true then [⟨i, j⟩] else []) ++ innerL e j d (i + 1)
/-- The edges from the row j on. -/
def outerL (e : Int) : Nat → Int → List S102
  | 0, _ => []
  | d + 1, j => innerL e j j.toNat 0 ++ outerL e d (j + 1)

theorem innerL_len (e j : Int) : ∀ (d : Nat) (i : Int), (innerL e j d i).length ≤ d
  | 0, _ => by simp [innerL]
  | d + 1, i => by
    have := innerL_len e j d (i + 1)
    unfold innerL
    split <;> simp <;> omega
theorem outerL_len (e : Int) : ∀ (d : Nat) (j : Int), j + d ≤ 6 → (outerL e d j).length ≤ 5 * d
  | 0, _, _ => by simp [outerL]
  | d + 1, j, h => by
    have h1 := outerL_len e d (j + 1) (by omega)
    have h2 := innerL_len e j j.toNat 0
    unfold outerL
    simp
    omega

theorem edges_in (e n N : Int) (nn : Int) : ∀ (d : Nat) (acc : List S102) (i j : Int) (k : Nat), 0 ≤ i → i + d = j → j ≤ 5 → d < k → acc.length + d ≤ 1000 →
    impl_Graph_edges.l1 k acc j N nn j i n e = impl_Graph_edges.l0 (k - (d + 1)) (acc ++ innerL e j d i) N (wrap64 (nn + 1)) n e
  | 0, acc, i, j, k, h0, hd, h5, hk, hl => by
    obtain ⟨k, rfl⟩ : ∃ m, k = m + 1 := ⟨k - 1, by omega⟩
    simp only [impl_Graph_edges.l1]
    rw [if_neg (by omega)]
    simp [innerL]
  | d + 1, acc, i, j, k, h0, hd, h5, hk, hl => by
    obtain ⟨k, rfl⟩ : ∃ m, k = m + 1 := ⟨k - 1, by omega⟩
    simp only [impl_Graph_edges.l1]
    rw [if_pos (by omega), has_prog n e i j h0 (by omega) h5]
    simp only [Option.bind_some]
    rw [wrap_in (by omega) (by omega)]
    by_cases hj : J e i j = true
    · rw [if_pos hj, if_pos (by omega), edges_in e n N nn d (acc ++ [(⟨i, j⟩ : S102)]) (i + 1) j k (by omega) (by omega) h5 (by omega) (by simp; omega)]
      rw [show k + 1 - (d + 1 + 1) = k - (d + 1) from by omega]
      simp [innerL, hj]
    · rw [if_neg hj, edges_in e n N nn d acc (i + 1) j k (by omega) (by omega) h5 (by omega) (by omega)]
      rw [show k + 1 - (d + 1 + 1) = k - (d + 1) from by omega]
      simp [innerL, hj]

theorem edges_out (e n : Int) (hn : 0 ≤ n) (h5 : n ≤ 5) : ∀ (d : Nat) (acc : List S102) (j : Int) (k : Nat), 0 ≤ j → j + d = n → 8 * d < k → acc.length + 10 * d ≤ 500 →
    impl_Graph_edges.l0 k acc n j n e = some (acc ++ outerL e d j)
  | 0, acc, j, k, h0, hd, hk, hl => by
    obtain ⟨k, rfl⟩ : ∃ m, k = m + 1 := ⟨k - 1, by omega⟩
    simp only [impl_Graph_edges.l0]
    rw [if_neg (by omega)]
    simp [outerL]
  | d + 1, acc, j, k, h0, hd, hk, hl => by
    obtain ⟨k, rfl⟩ : ∃ m, k = m + 1 := ⟨k - 1, by omega⟩
    simp only [impl_Graph_edges.l0]
    have hi := innerL_len e j j.toNat 0
    rw [if_pos (by omega), edges_in e n n j j.toNat acc 0 j k (by omega) (by omega) (by omega) (by omega) (by omega), wrap_in (by omega) (by omega)]
    rw [edges_out e n hn h5 d (acc ++ innerL e j j.toNat 0) (j + 1) (k - (j.toNat + 1)) (by omega) (by omega) (by omega) (by simp; omega)]
    simp [outerL]

theorem pairs_in (e n : Int) : ∀ (d : Nat) (acc : List S102) (i j : Int) (k : Nat), 0 ≤ i → i + d = j → j ≤ 5 → d < k → acc.length + d ≤ 1000 →
    spec_l01Pairs.l1 (k + 1) acc j i n e = spec_l01Pairs.l0 (k + 1 - (d + 1)) (acc ++ innerL e j d i) (wrap64 (j + 1)) n e
  | 0, acc, i, j, k, h0, hd, h5, hk, hl => by
    simp only [spec_l01Pairs.l1]
    rw [if_neg (by omega)]
    simp [innerL]
  | d + 1, acc, i, j, k, h0, hd, h5, hk, hl => by
    obtain ⟨k, rfl⟩ : ∃ m, k = m + 1 := ⟨k - 1, by omega⟩
    simp only [spec_l01Pairs.l1]
    rw [if_pos (by omega), has_ref n e i j (k + 1) (by omega) h0 (by omega) h5]
    simp only [Option.bind_some]
    rw [wrap_in (by omega) (by omega)]
    by_cases hj : J e i j = true
    · rw [if_pos hj, if_pos (by omega)]
      have := pairs_in e n d (acc ++ [(⟨i, j⟩ : S102)]) (i + 1) j k (by omega) (by omega) h5 (by omega) (by simp; omega)
      simp only [spec_l01Pairs.l1] at this
      rw [this]
      rw [show k + 1 + 1 - (d + 1 + 1) = k + 1 - (d + 1) from by omega]
      simp [innerL, hj]
    · rw [if_neg hj]
      have := pairs_in e n d acc (i + 1) j k (by omega) (by omega) h5 (by omega) (by omega)
      simp only [spec_l01Pairs.l1] at this
      rw [this]
      rw [show k + 1 + 1 - (d + 1 + 1) = k + 1 - (d + 1) from by omega]
      simp [innerL, hj]

theorem pairs_out (e n : Int) (hn : 0 ≤ n) (h5 : n ≤ 5) : ∀ (d : Nat) (acc : List S102) (j : Int) (k : Nat), 0 ≤ j → j + d = n → 8 * d < k → acc.length + 10 * d ≤ 500 →
    spec_l01Pairs.l0 k acc j n e = some (acc ++ outerL e d j)
  | 0, acc, j, k, h0, hd, hk, hl => by
    obtain ⟨k, rfl⟩ : ∃ m, k = m + 1 := ⟨k - 1, by omega⟩
    simp only [spec_l01Pairs.l0]
    rw [if_neg (by omega)]
    simp [outerL]
  | d + 1, acc, j, k, h0, hd, hk, hl => by
    obtain ⟨k, rfl⟩ : ∃ m, k = m + 2 := ⟨k - 2, by omega⟩
    simp only [spec_l01Pairs.l0]
    have hi := innerL_len e j j.toNat 0
    rw [if_pos (by omega), pairs_in e n j.toNat acc 0 j k (by omega) (by omega) (by omega) (by omega) (by omega), wrap_in (by omega) (by omega)]
    rw [pairs_out e n hn h5 d (acc ++ innerL e j j.toNat 0) (j + 1) (k + 1 - (j.toNat + 1)) (by omega) (by omega) (by omega) (by simp; omega)]
    simp [outerL]

/-- The edges of a graph. -/
def gedges (n e : Int) : List S102 := outerL e n.toNat 0

theorem edges_prog (n e : Int) (k : Nat) (h0 : 0 ≤ n) (h5 : n ≤ 5) (hk : 50 < k) : impl_Graph_edges.f k n e = some (gedges n e) := by
  unfold impl_Graph_edges.f gedges
  rw [edges_out e n h0 h5 n.toNat [] 0 k (by omega) (by omega) (by omega) (by simp; omega)]
  rfl

theorem pairs_ref (n e : Int) (k : Nat) (h0 : 0 ≤ n) (h5 : n ≤ 5) (hk : 50 < k) : spec_l01Pairs.f k n e = some (gedges n e) := by
  unfold spec_l01Pairs.f gedges
  by_cases hz : n = 0
  · subst hz
    obtain ⟨k, rfl⟩ : ∃ m, k = m + 1 := ⟨k - 1, by omega⟩
    simp [spec_l01Pairs.l0, outerL]
  · obtain ⟨d, hd⟩ : ∃ d, n.toNat = d + 1 := ⟨n.toNat - 1, by omega⟩
    rw [hd, pairs_out e n h0 h5 d [] 1 k (by omega) (by omega) (by omega) (by simp; omega)]
    simp [outerL, innerL]

theorem innerL_mem (e j : Int) : ∀ (d : Nat) (i : Int) (x : S102), x ∈ innerL e j d i → i ≤ x.f0 ∧ x.f0 < i + d ∧ x.f1 = j
  | 0, _, x, h => by simp [innerL] at h
  | d + 1, i, x, h => by
    unfold innerL at h
    rw [List.mem_append] at h
    rcases h with h | h
    · split at h
      · simp at h; subst h; simp; omega
      · simp at h
    · have := innerL_mem e j d (i + 1) x h
      omega
theorem outerL_mem (e : Int) : ∀ (d : Nat) (j : Int) (x : S102), 0 ≤ j → x ∈ outerL e d j → 0 ≤ x.f0 ∧ x.f0 < x.f1 ∧ x.f1 < j + d
  | 0, _, x, _, h => by simp [outerL] at h
  | d + 1, j, x, hj, h => by
    unfold outerL at h
    rw [List.mem_append] at h
    rcases h with h | h
    · have := innerL_mem e j _ 0 x h
      omega
    · have := outerL_mem e d (j + 1) x (by omega) h
      omega
theorem gedges_mem (n e : Int) (h5 : n ≤ 5) (x : S102) (h : x ∈ gedges n e) : 0 ≤ x.f0 ∧ x.f0 ≤ 5 ∧ 0 ≤ x.f1 ∧ x.f1 ≤ 5 := by
  have := outerL_mem e n.toNat 0 x (by omega) h
  omega
theorem gedges_len (n e : Int) (h5 : n ≤ 5) : (gedges n e).length ≤ 25 := by
  have := outerL_len e n.toNat 0 (by omega)
  unfold gedges
  omega

/-- The text of a list of pairs. -/
def ptext : List S102 → List UInt8
  | [] => []
  | x :: r => 32 :: (Lib.itoa x.f0 ++ 45 :: Lib.itoa x.f1) ++ ptext r
theorem ptext_len : ∀ (l : List S102), (∀ x ∈ l, 0 ≤ x.f0 ∧ x.f0 ≤ 5 ∧ 0 ≤ x.f1 ∧ x.f1 ≤ 5) → (ptext l).length ≤ 42 * l.length
  | [], _ => by simp [ptext]
  | x :: r, h => by
    have := ptext_len r (fun y hy => h y (List.mem_cons_of_mem _ hy))
    have hx := h x List.mem_cons_self
    have l0 := itoa_len x.f0 (by omega) (by omega)
    have l1 := itoa_len x.f1 (by omega) (by omega)
    simp only [ptext, List.length_append, List.length_cons]
    omega

/-- The text of a graph. -/
def gtext (n e : Int) : List UInt8 := [103, 114, 97, 112, 104, 32] ++ Lib.itoa n ++ ptext (gedges n e)
theorem gtext_len (n e : Int) (h0 : 0 ≤ n) (h5 : n ≤ 5) : (gtext n e).length ≤ 1100 := by
  have l0 := itoa_len n (by omega) (by omega)
  have l1 := ptext_len (gedges n e) (gedges_mem n e h5)
  have l2 := gedges_len n e h5
  simp only [gtext, List.length_append, List.length_cons, List.length_nil]
  omega

theorem drop_at (xs : List S102) (i : Nat) (h : i < xs.length) : xs.drop i = (rd_T102 xs (i : Int)) :: xs.drop (i + 1) := by
  rw [List.drop_eq_getElem_cons h]
  congr 1
  simp [rd_T102, h]

theorem gloop_prog (xs : List S102) (hm : ∀ x ∈ xs, 0 ≤ x.f0 ∧ x.f0 ≤ 5 ∧ 0 ≤ x.f1 ∧ x.f1 ≤ 5) (hl : xs.length ≤ 25) : ∀ (d i : Nat) (acc : List UInt8) (k : Nat), i + d = xs.length → d < k → acc.length + 50 * d ≤ 5000 →
    impl_Graph_text.l0 k (str acc) xs xs.length i = some (str (acc ++ ptext (xs.drop i)))
  | 0, i, acc, k, hd, hk, ha => by
    obtain ⟨k, rfl⟩ : ∃ m, k = m + 1 := ⟨k - 1, by omega⟩
    simp only [impl_Graph_text.l0]
    rw [if_neg (by omega), List.drop_eq_nil_of_le (by omega)]
    simp [ptext]
  | d + 1, i, acc, k, hd, hk, ha => by
    obtain ⟨k, rfl⟩ : ∃ m, k = m + 1 := ⟨k - 1, by omega⟩
    have hlt : i < xs.length := by omega
    have hx := hm (rd_T102 xs (i : Int)) (by rw [show rd_T102 xs (i : Int) = xs[i] from by simp [rd_T102, hlt]]; exact List.getElem_mem hlt)
    have l0 := itoa_len (rd_T102 xs (i : Int)).f0 (by omega) (by omega)
    have l1 := itoa_len (rd_T102 xs (i : Int)).f1 (by omega) (by omega)
    simp only [impl_Graph_text.l0]
    rw [if_pos (by omega), if_pos (by omega), if_pos (by omega), decimal_prog _ (by omega) (by omega), decimal_prog _ (by omega) (by omega)]
    simp only [Option.bind_some]
    have e32 : (⟨#[32]⟩ : ByteArray) = str [32] := rfl
    have e45 : (⟨#[45]⟩ : ByteArray) = str [45] := rfl
    rw [e32, e45]
    simp only [str_append, str_size]
    rw [if_pos (by omega), if_pos (by simp; omega), if_pos (by simp; omega), if_pos (by simp; omega), wrap_in (by omega) (by omega)]
    rw [show ((i : Int) + 1) = ((i + 1 : Nat) : Int) from by omega, gloop_prog xs hm hl d (i + 1) _ k (by omega) (by omega) (by simp; omega), drop_at xs i hlt]
    simp only [ptext, List.append_assoc, List.cons_append, List.nil_append]

theorem gloop_ref (xs : List S102) (hm : ∀ x ∈ xs, 0 ≤ x.f0 ∧ x.f0 ≤ 5 ∧ 0 ≤ x.f1 ∧ x.f1 ≤ 5) (hl : xs.length ≤ 25) : ∀ (d i : Nat) (acc : List UInt8) (k : Nat), i + d = xs.length → d + 10 < k → acc.length + 50 * d ≤ 5000 →
    spec_GraphText.l0 k (str acc) xs i = some (str (acc ++ ptext (xs.drop i)))
  | 0, i, acc, k, hd, hk, ha => by
    obtain ⟨k, rfl⟩ : ∃ m, k = m + 1 := ⟨k - 1, by omega⟩
    simp only [spec_GraphText.l0]
    rw [if_neg (by omega), List.drop_eq_nil_of_le (by omega)]
    simp [ptext]
  | d + 1, i, acc, k, hd, hk, ha => by
    obtain ⟨k, rfl⟩ : ∃ m, k = m + 1 := ⟨k - 1, by omega⟩
    have hlt : i < xs.length := by omega
    have hx := hm (rd_T102 xs (i : Int)) (by rw [show rd_T102 xs (i : Int) = xs[i] from by simp [rd_T102, hlt]]; exact List.getElem_mem hlt)
    have l0 := itoa_len (rd_T102 xs (i : Int)).f0 (by omega) (by omega)
    have l1 := itoa_len (rd_T102 xs (i : Int)).f1 (by omega) (by omega)
    simp only [spec_GraphText.l0]
    rw [if_pos (by omega), if_pos (by omega), dec_ref_int _ k (by omega) (by omega) (by omega), dec_ref_int _ k (by omega) (by omega) (by omega)]
    simp only [Option.bind_some]
    have e32 : (⟨#[32]⟩ : ByteArray) = str [32] := rfl
    have e45 : (⟨#[45]⟩ : ByteArray) = str [45] := rfl
    rw [e32, e45]
    simp only [str_append, str_size]
    rw [if_pos (by omega), if_pos (by simp; omega), if_pos (by simp; omega), if_pos (by simp; omega), wrap_in (by omega) (by omega)]
    rw [show ((i : Int) + 1) = ((i + 1 : Nat) : Int) from by omega, gloop_ref xs hm hl d (i + 1) _ k (by omega) (by omega) (by simp; omega), drop_at xs i hlt]
    simp only [ptext, List.append_assoc, List.cons_append, List.nil_append]

/-- The program's text of a graph of a right size. -/
theorem gtext_prog (n e : Int) (k : Nat) (h0 : 0 ≤ n) (h5 : n ≤ 5) (hk : 50 < k) : impl_Graph_text.f k n e = some (str (gtext n e)) := by
  unfold impl_Graph_text.f
  have l0 := itoa_len n (by omega) (by omega)
  rw [decimal_prog n (by omega) (by omega), edges_prog n e k h0 h5 hk]
  simp only [Option.bind_some]
  have e6 : (⟨#[103, 114, 97, 112, 104, 32]⟩ : ByteArray) = str [103, 114, 97, 112, 104, 32] := rfl
  rw [e6]
  simp only [str_append, str_size]
  have l2 := gedges_len n e h5
  rw [if_pos (by omega)]
  have := gloop_prog (gedges n e) (gedges_mem n e h5) l2 (gedges n e).length 0 ([103, 114, 97, 112, 104, 32] ++ Lib.itoa n) k (by omega) (by omega) (by simp; omega)
  rw [show ((0 : Nat) : Int) = 0 from rfl] at this
  rw [this]
  simp [gtext]

/-- The reference's text of a graph. -/
theorem gtext_ref (n e : Int) (k : Nat) (he0 : 0 ≤ e) (he1 : e < 4294967296) (hk : 50 < k) : spec_GraphText.f k n e = some (if vg n e = true then str (gtext n e) else str []) := by
  unfold spec_GraphText.f
  rw [gok_ref n e he0 he1]
  simp only [Option.bind_some]
  by_cases hv : vg n e = true
  · rw [if_pos hv, if_pos hv]
    have hb := (vg_iff n e).1 hv
    have l0 := itoa_len n (by omega) (by omega)
    rw [dec_ref_int n k (by omega) (by omega) (by omega), pairs_ref n e k hb.1 hb.2.1 hk]
    simp only [Option.bind_some]
    have e6 : (⟨#[103, 114, 97, 112, 104, 32]⟩ : ByteArray) = str [103, 114, 97, 112, 104, 32] := rfl
    rw [e6]
    simp only [str_append, str_size]
    have l2 := gedges_len n e hb.2.1
    rw [if_pos (by omega)]
    have := gloop_ref (gedges n e) (gedges_mem n e hb.2.1) l2 (gedges n e).length 0 ([103, 114, 97, 112, 104, 32] ++ Lib.itoa n) k (by omega) (by omega) (by simp; omega)
    rw [show ((0 : Nat) : Int) = 0 from rfl] at this
    rw [this]
    simp [gtext]
  · rw [if_neg hv, if_neg hv]; rfl

end Go.Proofs.YtjdkhllkncomaaaDoor.G
