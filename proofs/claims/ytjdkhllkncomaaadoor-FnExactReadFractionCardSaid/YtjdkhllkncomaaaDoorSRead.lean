/-
  Plain laws on reading fractions: the reference's and the program's readers find just the valid fraction whose text it is.
-/
import Derived.Test.YtjdkhllkncomaaaDoorSSplit
import Derived.Test.YtjdkhllkncomaaaDoorSFrac
import Derived.Test.YtjdkhllkncomaaaDoorSx4
import Derived.Lib.Index
import Derived.Lib.IndexMore
namespace Go.Proofs.YtjdkhllkncomaaaDoor.S
open Go.RowKit Go.Proofs.YtjdkhllkncomaaaDoor Go.Proofs.YtjdkhllkncomaaaDoor.Wide Go.Proofs.YtjdkhllkncomaaaDoorW.PrintWords Go.Proofs.YtjdkhllkncomaaaDoorW.PrintLast Go.Proofs.YtjdkhllkncomaaaDoorW.PrintMore

theorem billion : Lib.decDigits 1000000000 = [49, 48, 48, 48, 48, 48, 48, 48, 48, 48] := by
  simp [Lib.decDigits]

theorem whole_some (l : List UInt8) (k : Nat) (hl : l.length ≤ 8000000) (hk : l.length + 1 < k) : ∃ r, spec_l02Whole.f k (str l) = some r := by
  obtain ⟨r, hr⟩ := num_some l k hl hk
  unfold spec_l02Whole.f
  rw [hr]
  simp only [Option.bind_some]
  split
  · split <;> exact ⟨_, rfl⟩
  · exact ⟨_, rfl⟩

theorem whole_dec (n : Nat) (hn : n ≤ 1000000000) (k : Nat) (hk : 20 < k) : spec_l02Whole.f k (str (Lib.decDigits n)) = some ((n : Int), true) := by
  unfold spec_l02Whole.f
  by_cases h : n = 1000000000
  · subst h
    rw [billion, str_size, str_toList', if_pos rfl]
    simp
  · have hl : (Lib.decDigits n).length ≤ 9 := nDigits_le 9 n (by simp; omega) (by omega)
    rw [str_size, if_neg (by omega), num_dec n (by omega) k (by omega)]
    rfl

theorem rd_words (ws : List (List UInt8)) (i : Nat) : rdOf ByteArray.empty (ws.map str) (i : Int) = str (ws.getD i []) := by
  unfold rdOf
  rw [show ((i : Int)).toNat = i from by omega, show ByteArray.empty = str [] from rfl]
  simp only [List.getD_eq_getElem?_getD, List.getElem?_map]
  cases ws[i]? <;> rfl

theorem getD_len (ws : List (List UInt8)) (i n : Nat) (h : ∀ x ∈ ws, x.length ≤ n) : (ws.getD i []).length ≤ n := by
  rw [List.getD_eq_getElem?_getD]
  cases e : ws[i]? with
  | none => simp
  | some x => simp; exact h x (List.mem_of_getElem? e)

def Good (l : List UInt8) (r : Option (Int × Int × Bool)) : Prop := ∃ p q b, r = some (p, q, b) ∧ (b = true → vf p q = true ∧ ftext p q = l)

theorem good_no (l : List UInt8) (p q : Int) : Good l (some (p, q, false)) := ⟨p, q, false, rfl, fun h => by cases h⟩

theorem good_last (l : List UInt8) (p q : Int) (k : Nat) (hk : 1000000000 < k) : Good l ((spec_l02Ok.f k p q).bind fun t145 => (if t145 = true then ((spec_FractionText.f k p q).bind fun t146 => (some (p, q, (t146.toList == (str l).toList)))) else (some (p, q, false)))) := by
  rw [ok_ref p q k hk]
  simp only [Option.bind_some]
  by_cases hv : vf p q = true
  · rw [if_pos hv, text_ref p q k hk, if_pos hv]
    simp only [Option.bind_some, str_toList']
    refine ⟨p, q, _, rfl, fun h => ⟨hv, by simpa using h⟩⟩
  · rw [if_neg hv]; exact good_no l p q

theorem j2_good (l : List UInt8) (ws : List (List UInt8)) (b8 : Bool) (p q1 : Int) (k : Nat) (hk : 1000000001 < k) (hw : ∀ x ∈ ws, x.length ≤ 8000000) : Good l (spec_l02Read.j2 k (str l) (ws.map str) b8 p q1) := by
  obtain ⟨k, rfl⟩ : ∃ m, k = m + 1 := ⟨k - 1, by omega⟩
  simp only [spec_l02Read.j2, List.length_map]
  split
  · split
    · have h1 := getD_len ws 1 _ hw
      obtain ⟨r, hr⟩ := whole_some (ws.getD 1 []) k h1 (by omega)
      have e := rd_words ws 1
      rw [show ((1 : Nat) : Int) = 1 from rfl] at e
      rw [e, hr]
      simp only [Option.bind_some]
      split
      · split
        · exact good_last l p r.1 k (by omega)
        · exact good_no l _ _
      · exact good_no l _ _
    · omega
  · split
    · split
      · exact good_last l p q1 k (by omega)
      · exact good_no l _ _
    · exact good_no l _ _

theorem j1_good (l : List UInt8) (ws : List (List UInt8)) (w : List UInt8) (b6 : Bool) (k : Nat) (hk : 1000000002 < k) (hw : ∀ x ∈ ws, x.length ≤ 8000000) (hl : w.length ≤ 8000000) : Good l (spec_l02Read.j1 k (str l) (ws.map str) (str w) b6) := by
  obtain ⟨k, rfl⟩ : ∃ m, k = m + 1 := ⟨k - 1, by omega⟩
  simp only [spec_l02Read.j1]
  obtain ⟨r, hr⟩ := whole_some w k hl (by omega)
  rw [hr]
  simp only [Option.bind_some]
  split <;> exact j2_good l ws _ _ _ k (by omega) hw

theorem j0_good (l : List UInt8) (ws : List (List UInt8)) (w : List UInt8) (b6 : Bool) (k : Nat) (hk : 1000000003 < k) (hw : ∀ x ∈ ws, x.length ≤ 8000000) (hl : w.length ≤ 8000000) (h1 : b6 = true → 1 ≤ w.length) : Good l (spec_l02Read.j0 k (str l) (ws.map str) (str w) b6) := by
  obtain ⟨k, rfl⟩ : ∃ m, k = m + 1 := ⟨k - 1, by omega⟩
  simp only [spec_l02Read.j0, str_size]
  split
  · rename_i hb
    have := h1 hb
    rw [if_pos (by omega), extract_str]
    exact j1_good l ws _ _ k (by omega) hw (by simp; omega)
  · exact j1_good l ws w _ k (by omega) hw hl

theorem read_good (l : List UInt8) (k : Nat) (hl : l.length ≤ 1048576) (hk : 1000000003 < k) : Good l (spec_l02Read.f k (str l)) := by
  unfold spec_l02Read.f
  have hs := splitf_ref l 47 k (by omega) (by omega)
  rw [show (((47 : UInt8).toNat : Nat) : Int) = 47 from rfl] at hs
  rw [hs]
  simp only [Option.bind_some, List.length_map]
  have hne : (spl 47 l) ≠ [] := splAcc_ne 47 l []
  have hpos : 0 < (spl 47 l).length := List.length_pos_iff.2 hne
  have hw : ∀ x ∈ spl 47 l, x.length ≤ 8000000 := fun x hx => by have := spl_parts 47 l x hx; omega
  rw [if_pos (by omega)]
  have e := rd_words (spl 47 l) 0
  rw [show ((0 : Nat) : Int) = 0 from rfl] at e
  rw [e, str_size]
  have h0 := getD_len (spl 47 l) 0 _ hw
  by_cases hp : (((spl 47 l).getD 0 []).length : Int) > 0
  · rw [if_pos hp, if_pos hp]
    exact j0_good l _ _ _ k hk hw h0 (fun _ => by omega)
  · rw [if_neg hp]
    exact j0_good l _ _ _ k hk hw h0 (fun h => by cases h)

theorem itoa_no (v : Int) (b : UInt8) (hb : b.toNat < 45 ∨ b.toNat = 46 ∨ b.toNat = 47 ∨ 57 < b.toNat) : ∀ c ∈ Lib.itoa v, c ≠ b := by
  intro c hc e
  subst e
  have := itoa_mem v _ hc
  omega

theorem spl_ftext (p q : Int) : spl 47 (ftext p q) = if q = 1 then [Lib.itoa p] else [Lib.itoa p, Lib.itoa q] := by
  have h47 : (47 : UInt8).toNat = 47 := rfl
  unfold ftext
  split
  · exact spl_none 47 _ (itoa_no p 47 (by omega))
  · rw [spl_hit 47 _ _ (itoa_no p 47 (by omega)), spl_none 47 _ (itoa_no q 47 (by omega))]

theorem j2_ok (p q : Int) (hv : vf p q = true) (k : Nat) (hk : 1000000100 < k) : spec_l02Read.j2 k (str (ftext p q)) ((spl 47 (ftext p q)).map str) true p 1 = some (p, q, true) := by
  obtain ⟨k, rfl⟩ : ∃ m, k = m + 1 := ⟨k - 1, by omega⟩
  have hb := (vf_iff p q).1 hv
  simp only [spec_l02Read.j2, List.length_map]
  rw [spl_ftext]
  by_cases h1 : q = 1
  · subst h1
    rw [if_pos rfl]
    simp only [List.length_cons, List.length_nil]
    rw [if_neg (by omega), if_pos trivial, if_pos (by omega), ok_ref p 1 k (by omega)]
    simp only [Option.bind_some]
    rw [if_pos hv, text_ref p 1 k (by omega), if_pos hv]
    simp
  · rw [if_neg h1]
    simp only [List.length_cons, List.length_nil]
    rw [if_pos (by omega), if_pos (by omega)]
    have e := rd_words [Lib.itoa p, Lib.itoa q] 1
    rw [show ((1 : Nat) : Int) = 1 from rfl] at e
    rw [e]
    obtain ⟨n, hn⟩ := Int.eq_ofNat_of_zero_le (show 0 ≤ q by omega)
    have hw : spec_l02Whole.f k (str ([Lib.itoa p, Lib.itoa q].getD 1 [])) = some (q, true) := by
      show spec_l02Whole.f k (str (Lib.itoa q)) = _
      rw [hn, itoa_nat, whole_dec n (by omega) k (by omega)]
    rw [hw]
    simp only [Option.bind_some]
    rw [if_pos trivial, if_pos trivial, ok_ref p q k (by omega)]
    simp only [Option.bind_some]
    rw [if_pos hv, text_ref p q k (by omega), if_pos hv]
    simp

theorem read_ok (p q : Int) (hv : vf p q = true) (k : Nat) (hk : 1000000200 < k) : spec_l02Read.f k (str (ftext p q)) = some (p, q, true) := by
  have hb := (vf_iff p q).1 hv
  have hlen := ftext_len p q hv
  unfold spec_l02Read.f
  have hs := splitf_ref (ftext p q) 47 k (by omega) (by omega)
  rw [show (((47 : UInt8).toNat : Nat) : Int) = 47 from rfl] at hs
  rw [hs]
  simp only [Option.bind_some, List.length_map]
  have hne : (spl 47 (ftext p q)) ≠ [] := splAcc_ne 47 _ []
  have hpos : 0 < (spl 47 (ftext p q)).length := List.length_pos_iff.2 hne
  rw [if_pos (by omega)]
  have e := rd_words (spl 47 (ftext p q)) 0
  rw [show ((0 : Nat) : Int) = 0 from rfl] at e
  rw [e, str_size]
  have h0 : (spl 47 (ftext p q)).getD 0 [] = Lib.itoa p := by rw [spl_ftext]; split <;> rfl
  rw [h0]
  obtain ⟨c, r, hc, h48, h57⟩ := decDigits_head p.natAbs
  by_cases hneg : p < 0
  · have hi : Lib.itoa p = 45 :: Lib.decDigits p.natAbs := itoa_neg hneg
    have hbt : bt (str (Lib.itoa p)) 0 = 45 := by
      have := bt_str (Lib.itoa p) 0 (by rw [hi]; simp)
      rw [show ((0 : Nat) : Int) = 0 from rfl] at this
      rw [this]
      simp [hi]
    rw [if_pos (by rw [hi]; simp), if_pos (by rw [hi]; simp), hbt]
    obtain ⟨k, rfl⟩ : ∃ m, k = m + 2 := ⟨k - 2, by omega⟩
    simp only [spec_l02Read.j0, str_size]
    rw [if_pos (by rfl), if_pos (by rw [hi]; simp; omega), extract_str]
    have ed : ((Lib.itoa p).drop 1).take ((Lib.itoa p).length - 1) = Lib.decDigits p.natAbs := by rw [hi]; simp
    rw [ed]
    simp only [spec_l02Read.j1]
    rw [whole_dec p.natAbs (by omega) k (by omega)]
    simp only [Option.bind_some]
    rw [if_pos (by rfl), wrap_in (by omega) (by omega), show -((p.natAbs : Nat) : Int) = p from by omega]
    exact j2_ok p q hv k (by omega)
  · have hi : Lib.itoa p = Lib.decDigits p.natAbs := itoa_pos (by omega)
    have hbt : bt (str (Lib.itoa p)) 0 = (c.toNat : Int) := by
      have := bt_str (Lib.itoa p) 0 (by rw [hi, hc]; simp)
      rw [show ((0 : Nat) : Int) = 0 from rfl] at this
      rw [this]
      simp [hi, hc]
    rw [if_pos (by rw [hi, hc]; simp), if_pos (by rw [hi, hc]; simp), hbt]
    have hbf : ((c.toNat : Int) == 45) = false := by rw [beq_eq_false_iff_ne]; omega
    rw [hbf]
    obtain ⟨k, rfl⟩ : ∃ m, k = m + 2 := ⟨k - 2, by omega⟩
    simp only [spec_l02Read.j0]
    rw [if_neg (by simp)]
    simp only [spec_l02Read.j1]
    rw [hi, whole_dec p.natAbs (by omega) k (by omega)]
    simp only [Option.bind_some]
    rw [if_neg (by simp), show ((p.natAbs : Nat) : Int) = p from by omega]
    exact j2_ok p q hv k (by omega)

/-- The reference's reader. -/
theorem readf_ref (l : List UInt8) (k : Nat) (hl : l.length ≤ 1048576) (hk : 1000000200 < k) :
    (∀ p q, vf p q = true → ftext p q = l → spec_ReadFraction.f k (str l) = some (p, q, 0)) ∧ ((¬ ∃ p q, vf p q = true ∧ ftext p q = l) → spec_ReadFraction.f k (str l) = some (0, 0, 5)) := by
  unfold spec_ReadFraction.f
  constructor
  · rintro p q hv rfl
    rw [read_ok p q hv k hk]
    rfl
  · intro hno
    obtain ⟨p, q, b, hr, hg⟩ := read_good l k hl (by omega)
    rw [hr]
    simp only [Option.bind_some]
    rw [if_neg (fun h => hno ⟨p, q, hg h⟩)]

theorem cut_none (l : List UInt8) (b : UInt8) (h : ∀ c ∈ l, c ≠ b) : Lib.cut l [b] = (l, [], false) := by
  have hi : Lib.index l [b] = -1 := by
    refine Lib.index_none fun j hj => ?_
    unfold Lib.occAt
    cases e : l.drop j with
    | nil => rfl
    | cons c r =>
      have : c ≠ b := h c (List.mem_of_mem_drop (by rw [e]; exact List.mem_cons_self))
      simp [List.isPrefixOf, Ne.symm this]
  unfold Lib.cut
  rw [hi, if_neg (by omega)]
theorem cut_hit (l r : List UInt8) (b : UInt8) (h : ∀ c ∈ l, c ≠ b) : Lib.cut (l ++ b :: r) [b] = (l, r, true) := by
  have hi : Lib.index (l ++ b :: r) [b] = (l.length : Nat) := by
    refine Lib.index_first (by simp) ?_ fun j hj => ?_
    · unfold Lib.occAt
      rw [List.drop_left]
      simp [List.isPrefixOf]
    · unfold Lib.occAt
      have : l[j] ≠ b := h _ (List.getElem_mem hj)
      rw [List.drop_append_of_le_length (by omega), List.drop_eq_getElem_cons hj, List.cons_append]
      simp [List.isPrefixOf, Ne.symm this]
  unfold Lib.cut
  rw [hi, if_pos (by omega)]
  simp

/-- The program's reader. -/
theorem readf_prog (l : List UInt8) (k : Nat) (hl : l.length ≤ 1048576) (hk : 1000000200 < k) :
    (∀ p q, vf p q = true → ftext p q = l → impl_ReadFraction.f k (str l) = some (p, q, 0)) ∧ ((¬ ∃ p q, vf p q = true ∧ ftext p q = l) → impl_ReadFraction.f k (str l) = some (0, 0, 5)) := by
  have ecut : strings_Cut.f (str l) (⟨#[47]⟩ : ByteArray) = some (str (Lib.cut l [47]).1, str (Lib.cut l [47]).2.1, (Lib.cut l [47]).2.2) := by
    unfold strings_Cut.f
    rw [if_pos (by rw [str_size]; omega), str_toList]
    rfl
  have enum : ∀ x : List UInt8, x.length ≤ 1048576 → impl_number.f (str x) = some (numN x, numB x) := by
    intro x hx
    unfold impl_number.f
    rw [if_pos (by rw [str_size]; omega), str_toList]
  unfold impl_ReadFraction.f
  rw [ecut]
  simp only [Option.bind_some]
  have e49 : (⟨#[49]⟩ : ByteArray) = str [49] := rfl
  rw [e49]
  have one : Lib.itoa 1 = [49] := by unfold Lib.itoa; rw [if_neg (by omega)]; exact Lib.decDigits_one (by omega)
  obtain ⟨k, rfl⟩ : ∃ m, k = m + 1 := ⟨k - 1, by omega⟩
  have hj : ∀ x y : List UInt8, x.length ≤ 1048576 → y.length ≤ 1048576 → impl_ReadFraction.j0 (k + 1) (str l) (str x) (str y) = if numB x = true ∧ numB y = true ∧ vf (numN x) (numN y) = true ∧ ftext (numN x) (numN y) = l then some (numN x, numN y, 0) else some (0, 0, 5) := by
    intro x y hx hy
    simp only [impl_ReadFraction.j0]
    rw [enum x hx, enum y hy]
    simp only [Option.bind_some]
    by_cases h1 : numB x = true
    · by_cases h2 : numB y = true
      · rw [if_pos h1, if_pos h2, ok_prog _ _ k (by omega)]
        simp only [Option.bind_some]
        by_cases h3 : vf (numN x) (numN y) = true
        · rw [if_pos h3, ftext_prog _ _ h3]
          simp only [Option.bind_some, str_toList']
          by_cases h4 : ftext (numN x) (numN y) = l
          · rw [if_pos h4, if_pos ⟨h1, h2, h3, h4⟩]
          · rw [if_neg h4, if_neg (fun h => h4 h.2.2.2)]
        · rw [if_neg h3, if_neg (fun h => h3 h.2.2.1)]
      · rw [if_pos h1, if_neg h2, if_neg (fun h => h2 h.2.1)]
    · rw [if_neg h1, if_neg (fun h => h1 h.1)]
  have hc1 : (Lib.cut l [47]).1.length ≤ 1048576 ∧ (Lib.cut l [47]).2.1.length ≤ 1048576 := by
    unfold Lib.cut
    split
    · simp; omega
    · simp; omega
  constructor
  · rintro p q hv rfl
    have hb := (vf_iff p q).1 hv
    have h47 : (47 : UInt8).toNat = 47 := rfl
    have np := num_itoa p (by omega) (by omega)
    have nq := num_itoa q (by omega) (by omega)
    by_cases h1 : q = 1
    · subst h1
      have hcut : Lib.cut (ftext p 1) [47] = (Lib.itoa p, [], false) := by
        have : ftext p 1 = Lib.itoa p := by unfold ftext; rw [if_pos rfl]
        rw [this]; exact cut_none _ 47 (itoa_no p 47 (by omega))
      rw [hcut] at hc1 ⊢
      simp only at hc1 ⊢
      rw [if_neg (by simp), hj _ _ hc1.1 (by simp), ← one]
      rw [if_pos ⟨np.2, nq.2, by rw [np.1, nq.1]; exact hv, by rw [np.1, nq.1]⟩, np.1, nq.1]
    · have hcut : Lib.cut (ftext p q) [47] = (Lib.itoa p, Lib.itoa q, true) := by
        have : ftext p q = Lib.itoa p ++ 47 :: Lib.itoa q := by unfold ftext; rw [if_neg h1]
        rw [this]; exact cut_hit _ _ 47 (itoa_no p 47 (by omega))
      rw [hcut] at hc1 ⊢
      simp only at hc1 ⊢
      rw [if_pos trivial, hj _ _ hc1.1 hc1.2]
      rw [if_pos ⟨np.2, nq.2, by rw [np.1, nq.1]; exact hv, by rw [np.1, nq.1]⟩, np.1, nq.1]
  · intro hno
    split
    · rw [hj _ _ hc1.1 hc1.2, if_neg (fun h => hno ⟨_, _, h.2.2.1, h.2.2.2⟩)]
    · rw [hj _ _ hc1.1 (by simp), if_neg (fun h => hno ⟨_, _, h.2.2.1, h.2.2.2⟩)]

end Go.Proofs.YtjdkhllkncomaaaDoor.S
