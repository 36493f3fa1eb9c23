/-
  The program's reader of graphs answers as the reference's, at every text.
-/
import Derived.Test.YtjdkhllkncomaaaDoorGWords
import Derived.Test.YtjdkhllkncomaaaDoorGGraph
import Derived.Test.YtjdkhllkncomaaaDoorGx5
import Derived.Laws.BitsAllLaws
namespace Go.Proofs.YtjdkhllkncomaaaDoor.G
open Go.RowKit Go.Proofs.YtjdkhllkncomaaaDoor Go.Proofs.YtjdkhllkncomaaaDoor.Wide Go.Proofs.YtjdkhllkncomaaaDoorW.PrintWords Go.Proofs.YtjdkhllkncomaaaDoorW.PrintLast Go.Proofs.YtjdkhllkncomaaaDoorW.PrintMore

/-- The text of a pair. -/
def pw (x : S102) : List UInt8 := Lib.itoa x.f0 ++ 45 :: Lib.itoa x.f1
theorem pw_no32 (x : S102) : ∀ c ∈ pw x, c ≠ 32 := by
  intro c hc
  unfold pw at hc
  rcases List.mem_append.1 hc with h | h
  · exact itoa_no32 _ c h
  · rcases List.mem_cons.1 h with rfl | h
    · decide
    · exact itoa_no32 _ c h
theorem itoa_no45 (v : Int) (hv : 0 ≤ v) : ∀ c ∈ Lib.itoa v, c ≠ 45 := by
  intro c hc e
  subst e
  rw [itoa_pos hv] at hc
  have := decDigits_mem _ _ hc
  have e45 : (45 : UInt8).toNat = 45 := rfl
  omega
theorem spl_ptext : ∀ (xs : List S102) (w : List UInt8), (∀ c ∈ w, c ≠ 32) → spl 32 (w ++ ptext xs) = w :: xs.map pw
  | [], w, h => by simp only [ptext, List.append_nil, List.map_nil]; exact spl_none 32 w h
  | x :: r, w, h => by
    have : w ++ ptext (x :: r) = w ++ 32 :: (pw x ++ ptext r) := by simp [ptext, pw]
    rw [this, spl_hit 32 w _ h, spl_ptext r (pw x) (pw_no32 x)]
    rfl

theorem cut_none (l : List UInt8) (b : UInt8) (h : b ∉ l) : Lib.cut l [b] = (l, [], false) := by
  unfold Lib.cut
  rw [idx_none l b h, if_neg (by omega)]
theorem cut_hit (l r : List UInt8) (b : UInt8) (h : b ∉ l) : Lib.cut (l ++ b :: r) [b] = (l, r, true) := by
  unfold Lib.cut
  rw [idx_hit l r b h, if_pos (by omega)]
  simp
theorem cut_len (l : List UInt8) : (Lib.cut l [45]).1.length ≤ l.length ∧ (Lib.cut l [45]).2.1.length ≤ l.length := by
  unfold Lib.cut
  split
  · simp; omega
  · simp

/-- The edges and one more. -/
def orB (e i j : Int) : Int := Go.bits .or .u32 e (bitOf (min i j).toNat (max i j).toNat)
def orL (e : Int) (xs : List S102) : Int := xs.foldl (fun e x => orB e x.f0 x.f1) e

/-- A pair of vertices. -/
def pok (n i j : Int) : Bool := decide (0 ≤ i) && decide (i ≤ n - 1) && (decide (0 ≤ j) && decide (j ≤ n - 1) && (i != j))
theorem pok_iff (n i j : Int) : pok n i j = true ↔ 0 ≤ i ∧ i ≤ n - 1 ∧ 0 ≤ j ∧ j ≤ n - 1 ∧ i ≠ j := by
  simp [pok, and_assoc]

theorem pair_prog (n i j : Int) (h0 : 0 ≤ n) (h5 : n ≤ 5) : impl_isPair.f n i j = some (pok n i j) := by
  unfold impl_isPair.f pok
  rw [in_prog, in_prog, wrap_in (by omega) (by omega)]
  simp only [Option.bind_some]
  by_cases h1 : (decide (0 ≤ i) && decide (i ≤ n - 1)) = true
  · rw [if_pos h1, h1]
    by_cases h2 : (decide (0 ≤ j) && decide (j ≤ n - 1)) = true
    · rw [if_pos h2, h2]; rfl
    · rw [if_neg h2, Bool.eq_false_iff.2 h2]; rfl
  · rw [if_neg h1, Bool.eq_false_iff.2 h1]; rfl
theorem pair_ref (n i j : Int) (h0 : 0 ≤ n) (h5 : n ≤ 5) : spec_l01Pair.f n i j = some (pok n i j) := by
  unfold spec_l01Pair.f pok
  rw [in_ref, in_ref, wrap_in (by omega) (by omega)]
  simp only [Option.bind_some]
  by_cases h1 : (decide (0 ≤ i) && decide (i ≤ n - 1)) = true
  · rw [if_pos h1, h1]
    by_cases h2 : (decide (0 ≤ j) && decide (j ≤ n - 1)) = true
    · rw [if_pos h2, h2]; rfl
    · rw [if_neg h2, Bool.eq_false_iff.2 h2]; rfl
  · rw [if_neg h1, Bool.eq_false_iff.2 h1]; rfl

theorem bit_prog_any (n i j : Int) (h5 : n ≤ 5) (h : pok n i j = true) : impl_bit.f i j = some (bitOf (min i j).toNat (max i j).toNat) := by
  have hp := (pok_iff n i j).1 h
  by_cases hij : i < j
  · rw [show min i j = i from by omega, show max i j = j from by omega]
    exact bit_prog i j (by omega) hij (by omega)
  · rw [show min i j = j from by omega, show max i j = i from by omega]
    rw [← bit_prog j i (by omega) (by omega) (by omega)]
    unfold impl_bit.f
    rw [if_pos (by omega), if_neg (by omega)]
theorem bit_ref_any (n i j : Int) (k : Nat) (hk : 1 < k) (h5 : n ≤ 5) (h : pok n i j = true) : spec_l01Bit.f k i j = some (bitOf (min i j).toNat (max i j).toNat) := by
  have hp := (pok_iff n i j).1 h
  by_cases hij : i < j
  · rw [show min i j = i from by omega, show max i j = j from by omega]
    exact bit_ref i j k (by omega) (by omega) hij (by omega)
  · obtain ⟨k, rfl⟩ : ∃ m, k = m + 1 := ⟨k - 1, by omega⟩
    simp only [spec_l01Bit.f]
    rw [if_pos (by omega), show min i j = j from by omega, show max i j = i from by omega, bit_ref j i k (by omega) (by omega) (by omega) (by omega)]
    rfl

theorem prs_lt (n i j : Nat) (hij : i < j) (hj : j < n) (h5 : n ≤ 5) : prs j + i < prs n := by
  have h : ∀ n : Fin 6, ∀ j : Fin 6, ∀ i : Fin 6, i.1 < j.1 → j.1 < n.1 → prs j.1 + i.1 < prs n.1 := by decide
  exact h ⟨n, by omega⟩ ⟨j, by omega⟩ ⟨i, by omega⟩ hij hj
theorem prs_small (n : Nat) (h5 : n ≤ 5) : prs n ≤ 10 := by
  have h : ∀ n : Fin 6, prs n.1 ≤ 10 := by decide
  exact h ⟨n, by omega⟩

theorem or_range (n e i j : Int) (h5 : n ≤ 5) (h : pok n i j = true) (he0 : 0 ≤ e) (he : e < 2 ^ prs n.toNat) : 0 ≤ orB e i j ∧ orB e i j < 2 ^ prs n.toNat := by
  have hp := (pok_iff n i j).1 h
  have hs := prs_small n.toNat (by omega)
  have hb : bitOf (min i j).toNat (max i j).toNat = ((2 ^ (prs (max i j).toNat + (min i j).toNat) : Nat) : Int) := by unfold bitOf; norm_cast
  have hlt := prs_lt n.toNat (min i j).toNat (max i j).toNat (by omega) (by omega) (by omega)
  have h10 : (2 : Nat) ^ prs n.toNat ≤ 2 ^ 10 := Nat.pow_le_pow_right (by omega) hs
  have hbl : (2 : Nat) ^ (prs (max i j).toNat + (min i j).toNat) < 2 ^ prs n.toNat := Nat.pow_lt_pow_right (by omega) hlt
  have heN : e.toNat < 2 ^ prs n.toNat := by
    have : ((e.toNat : Nat) : Int) < ((2 ^ prs n.toNat : Nat) : Int) := by rw [Int.toNat_of_nonneg he0]; exact_mod_cast he
    exact_mod_cast this
  have h2 : (e.toNat ||| 2 ^ (prs (max i j).toNat + (min i j).toNat)) < 2 ^ prs n.toNat := Nat.or_lt_two_pow heN hbl
  have hE : e.toNat < 4294967296 := by omega
  unfold orB
  rw [hb]
  generalize (2 : Nat) ^ (prs (max i j).toNat + (min i j).toNat) = B at hbl h2 ⊢
  rw [u32_or _ _ he0 (by omega) (by omega) (by omega)]
  rw [Int.toNat_natCast]
  constructor
  · omega
  · exact_mod_cast h2

theorem orL_edges (n e : Int) (h : vg n e = true) (he : 0 ≤ e) : orL 0 (gedges n e) = e := by
  have hb := (vg_iff n e).1 h
  have all : ((List.range 6).all fun n => (List.range (2 ^ prs n)).all fun e => decide (orL 0 (gedges (n : Int) (e : Int)) = (e : Int))) = true := by kernel_rfl
  have h1 := List.all_eq_true.1 all n.toNat (List.mem_range.2 (by omega))
  have heN : e.toNat < 2 ^ prs n.toNat := by
    have : ((e.toNat : Nat) : Int) < ((2 ^ prs n.toNat : Nat) : Int) := by rw [Int.toNat_of_nonneg he]; exact_mod_cast hb.2.2
    exact_mod_cast this
  have h2 := of_decide_eq_true (List.all_eq_true.1 h1 e.toNat (List.mem_range.2 heN))
  rwa [Int.toNat_of_nonneg hb.1, Int.toNat_of_nonneg he] at h2

/-- A result of the reader at a text: the text's own graph, or none. -/
def GoodG (l : List UInt8) (r : Int × Int × Int) : Prop := (∃ n e, 0 ≤ e ∧ vg n e = true ∧ gtext n e = l ∧ r = (n, e, 0)) ∨ r = (0, 0, 5)
def PairsOf (n : Int) (xs : List S102) : Prop := ∀ x ∈ xs, pok n x.f0 x.f1 = true

theorem num_f (x : List UInt8) (hx : x.length ≤ 8000000) : impl_number.f (str x) = some (numN x, numB x) := by
  unfold impl_number.f
  rw [if_pos (by rw [str_size]; omega), str_toList]
theorem cut_f (x : List UInt8) (hx : x.length ≤ 8000000) : strings_Cut.f (str x) (⟨#[45]⟩ : ByteArray) = some (str (Lib.cut x [45]).1, str (Lib.cut x [45]).2.1, (Lib.cut x [45]).2.2) := by
  unfold strings_Cut.f
  rw [if_pos (by rw [str_size]; omega), str_toList]
  rfl

theorem pok_small (n i j : Int) (h5 : n ≤ 5) (h : pok n i j = true) : 0 ≤ i ∧ i ≤ 5 ∧ 0 ≤ j ∧ j ≤ 5 := by
  have := (pok_iff n i j).1 h
  omega

/-- The program's loop over the pairs' texts. -/
theorem loop_prog (l : List UInt8) (n : Int) (h0 : 0 ≤ n) (h5 : n ≤ 5) (ws : List (List UInt8)) (hw : ∀ x ∈ ws, x.length ≤ 8000000) (hlen : ws.length ≤ 8000000) : ∀ (d i : Nat) (e : Int) (k : Nat), i + d = ws.length → 0 ≤ e → e < 2 ^ prs n.toNat → d + 100 < k →
    ∃ r, impl_ReadGraph.l0 k (str l) n (ws.map str) (ws.length : Int) i n e = some r ∧ GoodG l r ∧ (∀ xs, ws.drop i = xs.map pw → PairsOf n xs → gtext n (orL e xs) = l → r = (n, orL e xs, 0))
  | 0, i, e, k, hi, he0, he, hk => by
    obtain ⟨k, rfl⟩ : ∃ m, k = m + 1 := ⟨k - 1, by omega⟩
    have hv : vg n e = true := (vg_iff n e).2 ⟨h0, h5, he⟩
    simp only [impl_ReadGraph.l0]
    rw [if_neg (by omega), gtext_prog n e k h0 h5 (by omega)]
    simp only [Option.bind_some, str_toList']
    rw [List.drop_eq_nil_of_le (by omega)]
    have hnil : ∀ xs : List S102, ([] : List (List UInt8)) = xs.map pw → xs = [] := fun xs hx => by
      cases xs with
      | nil => rfl
      | cons a b => simp at hx
    by_cases hg : gtext n e = l
    · rw [if_pos hg]
      exact ⟨_, rfl, Or.inl ⟨n, e, he0, hv, hg, rfl⟩, fun xs hx _ _ => by rw [hnil xs hx]; rfl⟩
    · rw [if_neg hg]
      exact ⟨_, rfl, Or.inr rfl, fun xs hx _ ht => by rw [hnil xs hx] at ht; exact absurd ht hg⟩
  | d + 1, i, e, k, hi, he0, he, hk => by
    obtain ⟨k, rfl⟩ : ∃ m, k = m + 1 := ⟨k - 1, by omega⟩
    have hlt : i < ws.length := by omega
    have hwi := hw ws[i] (List.getElem_mem hlt)
    have hcl := cut_len ws[i]
    have hgd : ws.getD i [] = ws[i] := by rw [List.getD_eq_getElem?_getD, List.getElem?_eq_getElem hlt]; rfl
    have hdrop : ws.drop i = ws[i] :: ws.drop (i + 1) := List.drop_eq_getElem_cons hlt
    simp only [impl_ReadGraph.l0]
    rw [if_pos (by omega), if_pos (by omega), List.length_map, if_pos (by omega), rd_words, hgd, cut_f _ hwi]
    simp only [Option.bind_some]
    rw [num_f _ (by omega), num_f _ (by omega)]
    simp only [Option.bind_some]
    have hx : ∀ xs, ws.drop i = xs.map pw → PairsOf n xs → ∃ x r, xs = x :: r ∧ ws.drop (i + 1) = r.map pw ∧ PairsOf n r ∧ pok n x.f0 x.f1 = true ∧ numB (Lib.cut ws[i] [45]).1 = true ∧ numB (Lib.cut ws[i] [45]).2.1 = true ∧ numN (Lib.cut ws[i] [45]).1 = x.f0 ∧ numN (Lib.cut ws[i] [45]).2.1 = x.f1 := by
      intro xs h hP
      rw [hdrop] at h
      cases xs with
      | nil => exact absurd h (List.cons_ne_nil _ _)
      | cons x r =>
        rw [List.map_cons] at h
        have e1 := (List.cons.inj h).1
        have e2 := (List.cons.inj h).2
        have hp := hP x List.mem_cons_self
        have hs := pok_small n _ _ h5 hp
        have hc : Lib.cut ws[i] [45] = (Lib.itoa x.f0, Lib.itoa x.f1, true) := by
          rw [e1]
          exact cut_hit _ _ 45 (fun hm => itoa_no45 x.f0 hs.1 45 hm rfl)
        have n0 := num_itoa x.f0 (by omega) (by omega)
        have n1 := num_itoa x.f1 (by omega) (by omega)
        refine ⟨x, r, rfl, e2, fun y hy => hP y (List.mem_cons_of_mem _ hy), hp, ?_⟩
        rw [hc]
        exact ⟨n0.2, n1.2, n0.1, n1.1⟩
    have bad : ∀ (P : Prop), (∀ x r, ∀ xs : List S102, xs = x :: r → pok n x.f0 x.f1 = true → numB (Lib.cut ws[i] [45]).1 = true → numB (Lib.cut ws[i] [45]).2.1 = true → numN (Lib.cut ws[i] [45]).1 = x.f0 → numN (Lib.cut ws[i] [45]).2.1 = x.f1 → False) →
        ∃ r, (some (0, 0, 5) : Option (Int × Int × Int)) = some r ∧ GoodG l r ∧ (∀ xs, ws.drop i = xs.map pw → PairsOf n xs → gtext n (orL e xs) = l → r = (n, orL e xs, 0)) := fun P hno => by
      refine ⟨_, rfl, Or.inr rfl, fun xs h hP _ => ?_⟩
      obtain ⟨x, r, rfl, _, _, h1, h2, h3, h4, h6⟩ := hx xs h hP
      exact (hno x r _ rfl h1 h2 h3 h4 h6).elim
    by_cases c1 : numB (Lib.cut ws[i] [45]).1 = true
    · rw [if_pos c1]
      by_cases c2 : numB (Lib.cut ws[i] [45]).2.1 = true
      · rw [if_pos c2, pair_prog n _ _ h0 h5]
        simp only [Option.bind_some]
        by_cases c3 : pok n (numN (Lib.cut ws[i] [45]).1) (numN (Lib.cut ws[i] [45]).2.1) = true
        · rw [if_pos c3, bit_prog_any n _ _ h5 c3]
          simp only [Option.bind_some]
          have hr := or_range n e _ _ h5 c3 he0 he
          rw [wrap_in (by omega) (by omega), show ((i : Int) + 1) = ((i + 1 : Nat) : Int) from by omega]
          obtain ⟨r, h1, h2, h3⟩ := loop_prog l n h0 h5 ws hw hlen d (i + 1) _ k (by omega) hr.1 hr.2 (by omega)
          refine ⟨r, h1, h2, fun xs h hP ht => ?_⟩
          obtain ⟨x, r', rfl, g1, g2, g3, _, _, g4, g5⟩ := hx xs h hP
          have := h3 r' g1 g2 (by rw [g4, g5]; exact ht)
          rw [this, g4, g5]
          rfl
        · rw [if_neg c3]
          exact bad True (fun x r xs _ h1 _ _ h4 h6 => c3 (by rw [h4, h6]; exact h1))
      · rw [if_neg c2]
        exact bad True (fun x r xs _ _ _ h3 _ _ => c2 h3)
    · rw [if_neg c1]
      exact bad True (fun x r xs _ _ h2 _ _ _ => c1 h2)

/-- The reference's loop over the pairs' texts. -/
theorem loop_ref (l : List UInt8) (n : Int) (h0 : 0 ≤ n) (h5 : n ≤ 5) (ws : List (List UInt8)) (hw : ∀ x ∈ ws, x.length ≤ 2000000) (hlen : ws.length ≤ 8000000) : ∀ (d i : Nat) (e : Int) (k : Nat), i + d = ws.length → 0 ≤ e → e < 2 ^ prs n.toNat → d + 3000000 < k →
    ∃ r, spec_ReadGraph.l0 k (str l) (ws.map str) n i n e = some r ∧ GoodG l r ∧ (∀ xs, ws.drop i = xs.map pw → PairsOf n xs → gtext n (orL e xs) = l → r = (n, orL e xs, 0))
  | 0, i, e, k, hi, he0, he, hk => by
    obtain ⟨k, rfl⟩ : ∃ m, k = m + 1 := ⟨k - 1, by omega⟩
    have hv : vg n e = true := (vg_iff n e).2 ⟨h0, h5, he⟩
    have hs := prs_small n.toNat (by omega)
    have h10 : (2 : Int) ^ prs n.toNat ≤ 2 ^ 10 := by
      have : (2 : Nat) ^ prs n.toNat ≤ 2 ^ 10 := Nat.pow_le_pow_right (by omega) hs
      exact_mod_cast this
    simp only [spec_ReadGraph.l0]
    rw [List.length_map, if_neg (by omega), gtext_ref n e k he0 (by omega) (by omega), if_pos hv]
    simp only [Option.bind_some, str_toList']
    rw [List.drop_eq_nil_of_le (by omega)]
    have hnil : ∀ xs : List S102, ([] : List (List UInt8)) = xs.map pw → xs = [] := fun xs hx => by
      cases xs with
      | nil => rfl
      | cons a b => simp at hx
    by_cases hg : gtext n e = l
    · rw [if_pos hg]
      exact ⟨_, rfl, Or.inl ⟨n, e, he0, hv, hg, rfl⟩, fun xs hx _ _ => by rw [hnil xs hx]; rfl⟩
    · rw [if_neg hg]
      exact ⟨_, rfl, Or.inr rfl, fun xs hx _ ht => by rw [hnil xs hx] at ht; exact absurd ht hg⟩
  | d + 1, i, e, k, hi, he0, he, hk => by
    obtain ⟨k, rfl⟩ : ∃ m, k = m + 1 := ⟨k - 1, by omega⟩
    have hlt : i < ws.length := by omega
    have hwi := hw ws[i] (List.getElem_mem hlt)
    have hgd : ws.getD i [] = ws[i] := by rw [List.getD_eq_getElem?_getD, List.getElem?_eq_getElem hlt]; rfl
    have hdrop : ws.drop i = ws[i] :: ws.drop (i + 1) := List.drop_eq_getElem_cons hlt
    have hsp : spec_l01Split.f k (str ws[i]) 45 = some ((spl 45 ws[i]).map str) := splitf_ref ws[i] 45 k (by omega) (by omega)
    have hparts := spl_parts 45 ws[i]
    simp only [spec_ReadGraph.l0]
    rw [List.length_map, if_pos (by omega), if_pos (by omega), rd_words, hgd, hsp]
    simp only [Option.bind_some]
    have hx : ∀ xs, ws.drop i = xs.map pw → PairsOf n xs → ∃ x r, xs = x :: r ∧ ws.drop (i + 1) = r.map pw ∧ PairsOf n r ∧ pok n x.f0 x.f1 = true ∧ spl 45 ws[i] = [Lib.itoa x.f0, Lib.itoa x.f1] ∧ spec_l01Number.f k (str (Lib.itoa x.f0)) = some (x.f0, true) ∧ spec_l01Number.f k (str (Lib.itoa x.f1)) = some (x.f1, true) := by
      intro xs h hP
      rw [hdrop] at h
      cases xs with
      | nil => exact absurd h (List.cons_ne_nil _ _)
      | cons x r =>
        rw [List.map_cons] at h
        have e1 := (List.cons.inj h).1
        have e2 := (List.cons.inj h).2
        have hp := hP x List.mem_cons_self
        have hs := pok_small n _ _ h5 hp
        refine ⟨x, r, rfl, e2, fun y hy => hP y (List.mem_cons_of_mem _ hy), hp, ?_, num_dec_int _ hs.1 (by omega) k (by omega), num_dec_int _ hs.2.2.1 (by omega) k (by omega)⟩
        rw [e1]
        unfold pw
        rw [spl_hit 45 _ _ (itoa_no45 x.f0 hs.1), spl_none 45 _ (itoa_no45 x.f1 hs.2.2.1)]
    have bad : (∀ x : S102, pok n x.f0 x.f1 = true → spl 45 ws[i] = [Lib.itoa x.f0, Lib.itoa x.f1] → spec_l01Number.f k (str (Lib.itoa x.f0)) = some (x.f0, true) → spec_l01Number.f k (str (Lib.itoa x.f1)) = some (x.f1, true) → False) →
        ∃ r, (some (0, 0, 5) : Option (Int × Int × Int)) = some r ∧ GoodG l r ∧ (∀ xs, ws.drop i = xs.map pw → PairsOf n xs → gtext n (orL e xs) = l → r = (n, orL e xs, 0)) := fun hno => by
      refine ⟨_, rfl, Or.inr rfl, fun xs h hP _ => ?_⟩
      obtain ⟨x, r, rfl, _, _, h1, h2, h3, h4⟩ := hx xs h hP
      exact (hno x h1 h2 h3 h4).elim
    rw [List.length_map]
    by_cases c0 : (spl 45 ws[i]).length = 2
    · rw [if_pos (by omega), if_pos (by omega)]
      obtain ⟨a, b, hab⟩ : ∃ a b, spl 45 ws[i] = [a, b] := by
        match h : spl 45 ws[i], c0 with
        | [a, b], _ => exact ⟨a, b, rfl⟩
      rw [hab] at hparts hsp bad hx ⊢
      rw [show (0 : Int) = ((0 : Nat) : Int) from rfl, rd_words]
      obtain ⟨p, ok1, hp1, hp2⟩ := num_good a k (by have := hparts a (by simp); omega) (by have := hparts a (by simp); omega)
      obtain ⟨q, ok2, hq1, hq2⟩ := num_good b k (by have := hparts b (by simp); omega) (by have := hparts b (by simp); omega)
      have g0 : [a, b].getD 0 [] = a := rfl
      have g1 : [a, b].getD 1 [] = b := rfl
      rw [g0, hp1]
      simp only [Option.bind_some]
      rw [if_pos (by simp), show (1 : Int) = ((1 : Nat) : Int) from rfl, rd_words, g1, hq1]
      simp only [Option.bind_some]
      have same : ∀ x : S102, [a, b] = [Lib.itoa x.f0, Lib.itoa x.f1] → spec_l01Number.f k (str (Lib.itoa x.f0)) = some (x.f0, true) → spec_l01Number.f k (str (Lib.itoa x.f1)) = some (x.f1, true) → p = x.f0 ∧ ok1 = true ∧ q = x.f1 ∧ ok2 = true := by
        intro x hx' h3 h4
        have ea : a = Lib.itoa x.f0 := by simpa using congrArg (·.getD 0 []) hx'
        have eb : b = Lib.itoa x.f1 := by simpa using congrArg (·.getD 1 []) hx'
        rw [ea, h3] at hp1
        rw [eb, h4] at hq1
        simp only [Option.some.injEq, Prod.mk.injEq] at hp1 hq1
        exact ⟨hp1.1.symm, hp1.2.symm, hq1.1.symm, hq1.2.symm⟩
      by_cases c1 : ok1 = true
      · rw [if_pos c1]
        by_cases c2 : ok2 = true
        · rw [if_pos c2, pair_ref n _ _ h0 h5]
          simp only [Option.bind_some]
          by_cases c3 : pok n p q = true
          · rw [if_pos c3, bit_ref_any n _ _ k (by omega) h5 c3]
            simp only [Option.bind_some]
            have hr := or_range n e _ _ h5 c3 he0 he
            rw [wrap_in (by omega) (by omega), show ((i : Int) + ((1 : Nat) : Int)) = ((i + 1 : Nat) : Int) from by omega]
            obtain ⟨r, h1, h2, h3⟩ := loop_ref l n h0 h5 ws hw hlen d (i + 1) _ k (by omega) hr.1 hr.2 (by omega)
            refine ⟨r, h1, h2, fun xs h hP ht => ?_⟩
            obtain ⟨x, r', rfl, g1, g2, g3, g4, g5, g6⟩ := hx xs h hP
            obtain ⟨s1, _, s2, _⟩ := same x g4 g5 g6
            have := h3 r' g1 g2 (by rw [s1, s2]; exact ht)
            rw [this, s1, s2]
            rfl
          · rw [if_neg c3]
            exact bad (fun x h1 h2 h3 h4 => c3 (by obtain ⟨s1, _, s2, _⟩ := same x h2 h3 h4; rw [s1, s2]; exact h1))
        · rw [if_neg c2]
          exact bad (fun x h1 h2 h3 h4 => c2 (same x h2 h3 h4).2.2.2)
      · rw [if_neg c1]
        exact bad (fun x h1 h2 h3 h4 => c1 (same x h2 h3 h4).2.1)
    · rw [if_neg (by omega)]
      exact bad (fun x _ h2 _ _ => c0 (by rw [h2]; rfl))

theorem gedges_pairs (n e : Int) (h0 : 0 ≤ n) : PairsOf n (gedges n e) := by
  intro x hx
  have := outerL_mem e n.toNat 0 x (by omega) hx
  exact (pok_iff _ _ _).2 ⟨by omega, by omega, by omega, by omega, by omega⟩

theorem ten (n : Int) : (0 : Int) < 2 ^ prs n.toNat := Int.pow_pos (by omega)

/-- The program's reader. -/
theorem readg_prog (l : List UInt8) (k : Nat) (hl : l.length ≤ 1048576) (hk : 1000000200 < k) :
    ∃ r, impl_ReadGraph.f k (str l) = some r ∧ GoodG l r ∧ (∀ n e, 0 ≤ e → vg n e = true → gtext n e = l → r = (n, e, 0)) := by
  have bad : (∀ n e, 0 ≤ e → vg n e = true → gtext n e = l → False) → ∃ r, (some (0, 0, 5) : Option (Int × Int × Int)) = some r ∧ GoodG l r ∧ (∀ n e, 0 ≤ e → vg n e = true → gtext n e = l → r = (n, e, 0)) :=
    fun hno => ⟨_, rfl, Or.inr rfl, fun n e h1 h2 h3 => (hno n e h1 h2 h3).elim⟩
  have hcp : strings_CutPrefix.f (str l) (⟨#[103, 114, 97, 112, 104, 32]⟩ : ByteArray) = some (str (Lib.trimPrefix l [103, 114, 97, 112, 104, 32]), Lib.hasPrefix l [103, 114, 97, 112, 104, 32]) := by
    unfold strings_CutPrefix.f
    rw [str_toList]
    rfl
  have htl : (Lib.trimPrefix l [103, 114, 97, 112, 104, 32]).length ≤ 1048576 := by
    unfold Lib.trimPrefix
    split
    · simp; omega
    · omega
  have hgt : ∀ n e, 0 ≤ e → vg n e = true → gtext n e = l → Lib.hasPrefix l [103, 114, 97, 112, 104, 32] = true ∧ spl 32 (Lib.trimPrefix l [103, 114, 97, 112, 104, 32]) = Lib.itoa n :: (gedges n e).map pw := by
    rintro n e h1 h2 rfl
    have hp : Lib.hasPrefix (gtext n e) [103, 114, 97, 112, 104, 32] = true := by
      unfold gtext Lib.hasPrefix
      simp [List.isPrefixOf]
    refine ⟨hp, ?_⟩
    have ht : Lib.trimPrefix (gtext n e) [103, 114, 97, 112, 104, 32] = Lib.itoa n ++ ptext (gedges n e) := by
      unfold Lib.trimPrefix
      rw [if_pos hp]
      unfold gtext
      rw [List.append_assoc]
      rfl
    rw [ht]
    exact spl_ptext _ _ (itoa_no32 n)
  unfold impl_ReadGraph.f
  rw [hcp]
  simp only [Option.bind_some]
  generalize hrest : Lib.trimPrefix l [103, 114, 97, 112, 104, 32] = rest at htl hgt ⊢
  have hlen : (spl 32 rest).length ≤ 1048577 := by have := splAcc_len 32 rest []; unfold spl; omega
  have hne : 0 < (spl 32 rest).length := by
    have := splAcc_ne 32 rest []
    unfold spl
    exact List.length_pos_iff.2 this
  have hws := spl_parts 32 rest
  rw [split_prog rest htl]
  simp only [Option.bind_some]
  generalize hwse : spl 32 rest = ws at hlen hne hws hgt ⊢
  rw [List.length_map, if_pos (by omega), show (0 : Int) = ((0 : Nat) : Int) from rfl, rd_words, num_f _ (getD_len _ _ _ (fun x hx => by have := hws x hx; omega))]
  simp only [Option.bind_some]
  obtain ⟨k, rfl⟩ : ∃ m, k = m + 1 := ⟨k - 1, by omega⟩
  have hnum : ∀ n e, 0 ≤ e → vg n e = true → gtext n e = l → Lib.hasPrefix l [103, 114, 97, 112, 104, 32] = true ∧ numB (ws.getD 0 []) = true ∧ numN (ws.getD 0 []) = n ∧ ws.drop 1 = (gedges n e).map pw := by
    intro n e h1 h2 h3
    obtain ⟨g1, g2⟩ := hgt n e h1 h2 h3
    have hb := (vg_iff n e).1 h2
    have nn := num_itoa n (by omega) (by omega)
    rw [g2]
    exact ⟨g1, nn.2, nn.1, rfl⟩
  by_cases c1 : Lib.hasPrefix l [103, 114, 97, 112, 104, 32] = true
  · rw [if_pos c1]
    by_cases c2 : numB (ws.getD 0 []) = true
    · rw [if_pos c2]
      clear c2
      generalize numN (ws.getD 0 []) = N at hnum ⊢
      unfold impl_sizeOk.f
      rw [in_prog]
      simp only [Option.bind_some, impl_ReadGraph.j0]
      by_cases c3 : 0 ≤ N ∧ N ≤ 5
      · rw [if_neg (by simp [c3]), List.length_map, if_pos (by omega)]
        rw [← List.map_drop]
        have hlw : ((List.map str (ws.drop 1)).length : Int) = ((ws.drop 1).length : Int) := by rw [List.length_map]
        rw [hlw]
        obtain ⟨r, h1, h2, h3⟩ := loop_prog l (N) c3.1 c3.2 (ws.drop 1) (fun x hx => by have := hws x (List.mem_of_mem_drop hx); omega) (by simp; omega) (ws.drop 1).length 0 0 k (by omega) (by omega) (ten _) (by simp; omega)
        refine ⟨r, h1, h2, fun n e he hv ht => ?_⟩
        obtain ⟨_, _, g3, g4⟩ := hnum n e he hv ht
        rw [g3] at h3
        have ho := orL_edges n e hv he
        have := h3 (gedges n e) (by rw [List.drop_zero]; exact g4) (gedges_pairs n e ((vg_iff n e).1 hv).1) (by rw [ho]; exact ht)
        rw [this, ho]
        rfl
      · rw [if_pos (by simp; omega)]
        exact bad (fun n e he hv ht => by have := (hnum n e he hv ht).2.2.1; have hb := (vg_iff n e).1 hv; omega)
    · rw [if_neg c2]
      simp only [impl_ReadGraph.j0]
      rw [if_pos trivial]
      exact bad (fun n e he hv ht => c2 (hnum n e he hv ht).2.1)
  · rw [if_neg c1]
    simp only [impl_ReadGraph.j0]
    rw [if_pos trivial]
    exact bad (fun n e he hv ht => c1 (hnum n e he hv ht).1)

/-- The reference's reader. -/
theorem readg_ref (l : List UInt8) (k : Nat) (hl : l.length ≤ 1048576) (hk : 1000000200 < k) :
    ∃ r, spec_ReadGraph.f k (str l) = some r ∧ GoodG l r ∧ (∀ n e, 0 ≤ e → vg n e = true → gtext n e = l → r = (n, e, 0)) := by
  have bad : (∀ n e, 0 ≤ e → vg n e = true → gtext n e = l → False) → ∃ r, (some (0, 0, 5) : Option (Int × Int × Int)) = some r ∧ GoodG l r ∧ (∀ n e, 0 ≤ e → vg n e = true → gtext n e = l → r = (n, e, 0)) :=
    fun hno => ⟨_, rfl, Or.inr rfl, fun n e h1 h2 h3 => (hno n e h1 h2 h3).elim⟩
  have hsp : spec_l01Split.f k (str l) 32 = some ((spl 32 l).map str) := splitf_ref l 32 k (by omega) (by omega)
  have hlen : (spl 32 l).length ≤ 1048577 := by have := splAcc_len 32 l []; unfold spl; omega
  have hws := spl_parts 32 l
  have hgt : ∀ n e, 0 ≤ e → vg n e = true → gtext n e = l → spl 32 l = [103, 114, 97, 112, 104] :: Lib.itoa n :: (gedges n e).map pw := by
    rintro n e h1 h2 rfl
    have ht : gtext n e = [103, 114, 97, 112, 104] ++ 32 :: (Lib.itoa n ++ ptext (gedges n e)) := by
      unfold gtext
      rw [List.append_assoc]
      rfl
    rw [ht, spl_hit 32 _ _ (by decide), spl_ptext _ _ (itoa_no32 n)]
  unfold spec_ReadGraph.f
  rw [hsp]
  simp only [Option.bind_some]
  generalize hwse : spl 32 l = ws at hlen hws hgt ⊢
  obtain ⟨k, rfl⟩ : ∃ m, k = m + 2 := ⟨k - 2, by omega⟩
  rw [List.length_map]
  by_cases c0 : ws.length < 2
  · rw [if_pos (by omega)]
    simp only [spec_ReadGraph.j0]
    rw [if_pos trivial]
    exact bad (fun n e he hv ht => by rw [hgt n e he hv ht] at c0; simp at c0; omega)
  · rw [if_neg (by omega), if_pos (by omega), show (0 : Int) = ((0 : Nat) : Int) from rfl, rd_words, str_toList']
    simp only [spec_ReadGraph.j0]
    by_cases c1 : ws.getD 0 [] = [103, 114, 97, 112, 104]
    · rw [if_neg (by rw [c1]; simp), List.length_map, if_pos (by omega), show (1 : Int) = ((1 : Nat) : Int) from rfl, rd_words]
      have hl1 : (ws.getD 1 []).length ≤ 1048576 := getD_len _ _ _ (fun x hx => by have := hws x hx; omega)
      obtain ⟨n, ok, hn1, hn2⟩ := num_good (ws.getD 1 []) (k + 1) (by omega) (by omega)
      rw [hn1]
      simp only [Option.bind_some]
      have hnum : ∀ n' e, 0 ≤ e → vg n' e = true → gtext n' e = l → ok = true ∧ n = n' ∧ ws.drop 2 = (gedges n' e).map pw := by
        intro n' e h1 h2 h3
        have g2 := hgt n' e h1 h2 h3
        have hb := (vg_iff n' e).1 h2
        have nn := num_dec_int n' hb.1 (by omega) (k + 1) (by omega)
        have e1 : ws.getD 1 [] = Lib.itoa n' := by rw [g2]; rfl
        rw [e1, nn] at hn1
        simp only [Option.some.injEq, Prod.mk.injEq] at hn1
        exact ⟨hn1.2.symm, hn1.1.symm, by rw [g2]; rfl⟩
      by_cases c2 : ok = true
      · rw [if_pos c2]
        simp only [spec_ReadGraph.j1]
        by_cases c3 : n ≤ 5
        · rw [if_neg (by simp; omega), show (2 : Int) = ((2 : Nat) : Int) from rfl]
          have hnn := hn2 c2
          obtain ⟨r, h1, h2, h3⟩ := loop_ref l n hnn.1 c3 ws (fun x hx => by have := hws x hx; omega) (by omega) (ws.length - 2) 2 0 k (by omega) (by omega) (ten _) (by omega)
          refine ⟨r, h1, h2, fun n' e he hv ht => ?_⟩
          obtain ⟨_, g3, g4⟩ := hnum n' e he hv ht
          subst g3
          have ho := orL_edges n e hv he
          have := h3 (gedges n e) g4 (gedges_pairs n e ((vg_iff n e).1 hv).1) (by rw [ho]; exact ht)
          rw [this, ho]
          rfl
        · rw [if_pos (by simp; omega)]
          exact bad (fun n' e he hv ht => by have := (hnum n' e he hv ht).2.1; have hb := (vg_iff n' e).1 hv; omega)
      · rw [if_neg c2]
        simp only [spec_ReadGraph.j1]
        rw [if_pos trivial]
        exact bad (fun n' e he hv ht => c2 (hnum n' e he hv ht).1)
    · rw [if_pos (by simpa using c1)]
      exact bad (fun n e he hv ht => c1 (by rw [hgt n e he hv ht]; rfl))

theorem ReadGraph_pure (s : ByteArray) : laws_FnExactReadGraph.f 1000000300 s = some true := by
  obtain ⟨l, rfl⟩ : ∃ l, s = str l := ⟨_, (str_eq s).symm⟩
  unfold laws_FnExactReadGraph.f
  rw [str_size]
  by_cases hl : ((l.length : Nat) : Int) > 1048576
  · rw [if_pos hl]
  · rw [if_neg hl]
    obtain ⟨r1, e1, g1, t1⟩ := readg_ref l 1000000300 (by omega) (by omega)
    obtain ⟨r2, e2, g2, t2⟩ := readg_prog l 1000000300 (by omega) (by omega)
    have hrr : r2 = r1 := by
      rcases g1 with ⟨n, e, he, hv, ht, rfl⟩ | rfl
      · exact t2 n e he hv ht
      · rcases g2 with ⟨n, e, he, hv, ht, rfl⟩ | rfl
        · exact (t1 n e he hv ht).symm
        · rfl
    subst hrr
    rw [e1, e2]
    simp [laws_eqGraph.f]

end Go.Proofs.YtjdkhllkncomaaaDoor.G
