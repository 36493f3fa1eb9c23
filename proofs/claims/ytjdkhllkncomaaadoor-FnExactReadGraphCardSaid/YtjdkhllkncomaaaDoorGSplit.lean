/-
  Plain laws on cutting texts at a byte and on reading plain numbers: what the reference's functions come to.
-/
import Derived.Test.YtjdkhllkncomaaaDoorGDec
import Derived.Test.YtjdkhllkncomaaaDoorParse
import Derived.Test.YtjdkhllkncomaaaDoorGx5
namespace Go.Proofs.YtjdkhllkncomaaaDoor.G
open Go.RowKit Go.Proofs.YtjdkhllkncomaaaDoor Go.Proofs.YtjdkhllkncomaaaDoor.Wide Go.Proofs.YtjdkhllkncomaaaDoorW.PrintWords Go.Proofs.YtjdkhllkncomaaaDoorW.PrintLast Go.Proofs.YtjdkhllkncomaaaDoorW.PrintMore

/-- A text cut at a byte: 'cur' is what stands since the last cut. -/
def splAcc (b : UInt8) : List UInt8 → List UInt8 → List (List UInt8)
  | cur, [] => [cur]
  | cur, c :: r => if c = b then cur :: splAcc b [] r else splAcc b (cur ++ [c]) r
def spl (b : UInt8) (l : List UInt8) : List (List UInt8) := splAcc b [] l

theorem splAcc_none (b : UInt8) : ∀ (l cur : List UInt8), (∀ c ∈ l, c ≠ b) → splAcc b cur l = [cur ++ l]
  | [], cur, _ => by simp [splAcc]
  | c :: r, cur, h => by
    rw [splAcc, if_neg (h c List.mem_cons_self), splAcc_none b r _ (fun x hx => h x (List.mem_cons_of_mem _ hx))]
    simp
theorem splAcc_hit (b : UInt8) : ∀ (l cur r : List UInt8), (∀ c ∈ l, c ≠ b) → splAcc b cur (l ++ b :: r) = (cur ++ l) :: spl b r
  | [], cur, r, _ => by simp [splAcc, spl]
  | c :: l, cur, r, h => by
    rw [List.cons_append, splAcc, if_neg (h c List.mem_cons_self), splAcc_hit b l _ r (fun x hx => h x (List.mem_cons_of_mem _ hx))]
    simp
theorem spl_none (b : UInt8) (l : List UInt8) (h : ∀ c ∈ l, c ≠ b) : spl b l = [l] := by
  unfold spl; rw [splAcc_none b l [] h]; rfl
theorem spl_hit (b : UInt8) (l r : List UInt8) (h : ∀ c ∈ l, c ≠ b) : spl b (l ++ b :: r) = l :: spl b r := by
  unfold spl; rw [splAcc_hit b l [] r h]; rfl
theorem splAcc_ne (b : UInt8) : ∀ (l cur : List UInt8), splAcc b cur l ≠ []
  | [], _ => by simp [splAcc]
  | c :: r, cur => by
    rw [splAcc]; split
    · simp
    · exact splAcc_ne b r _
theorem splAcc_len (b : UInt8) : ∀ (l cur : List UInt8), (splAcc b cur l).length ≤ l.length + 1
  | [], _ => by simp [splAcc]
  | c :: r, cur => by
    rw [splAcc]; split
    · have := splAcc_len b r []; simp; omega
    · have := splAcc_len b r (cur ++ [c]); simp; omega
theorem splAcc_parts (b : UInt8) : ∀ (l cur : List UInt8), ∀ x ∈ splAcc b cur l, x.length ≤ cur.length + l.length
  | [], cur, x, h => by simp [splAcc] at h; subst h; simp
  | c :: r, cur, x, h => by
    rw [splAcc] at h
    split at h
    · rcases List.mem_cons.1 h with rfl | h
      · simp
      · have := splAcc_parts b r [] x h; simp at this ⊢; omega
    · have := splAcc_parts b r _ x h; simp at this ⊢; omega
theorem spl_parts (b : UInt8) (l x : List UInt8) (h : x ∈ spl b l) : x.length ≤ l.length := by
  have := splAcc_parts b l [] x h; simpa using this

theorem bt_str (l : List UInt8) (i : Nat) (h : i < l.length) : bt (str l) (i : Int) = (l[i].toNat : Int) := by
  unfold bt
  rw [dif_pos (by rw [str_size]; simpa using h)]
  simp [str]
  rfl

theorem extract_str (l : List UInt8) (a b : Nat) : (str l).extract a b = str ((l.drop a).take (b - a)) := by
  have := Lib.extract_eq (str l) a b
  rw [this, str_toList]
  rfl

theorem str_eq (s : ByteArray) : str s.data.toList = s := Lib.mk_data s

/-- The reference's cut of a text at a byte. -/
theorem split_ref (l : List UInt8) (b : UInt8) (hl : l.length ≤ 8000000) : ∀ (d i j : Nat) (out : List (List UInt8)) (k : Nat), i + d = l.length → j ≤ i → d < k → out.length ≤ i →
    spec_l01Split.l0 k (str l) (b.toNat : Int) (out.map str) j i = some ((out ++ splAcc b ((l.drop j).take (i - j)) (l.drop i)).map str)
  | 0, i, j, out, k, hd, hj, hk, ho => by
    obtain ⟨k, rfl⟩ : ∃ m, k = m + 1 := ⟨k - 1, by omega⟩
    simp only [spec_l01Split.l0, str_size, List.length_map]
    rw [if_neg (by omega), if_pos (by omega), if_pos (by omega), if_pos (by omega), List.drop_eq_nil_of_le (show l.length ≤ i by omega)]
    rw [show ((j : Int)).toNat = j from by omega, extract_str]
    simp only [splAcc, List.map_append, List.map_cons, List.map_nil]
    rw [show i = l.length by omega]
  | d + 1, i, j, out, k, hd, hj, hk, ho => by
    obtain ⟨k, rfl⟩ : ∃ m, k = m + 1 := ⟨k - 1, by omega⟩
    have hlt : i < l.length := by omega
    simp only [spec_l01Split.l0, str_size, List.length_map]
    rw [if_pos (by omega), if_pos (by omega), bt_str l i hlt, wrap_in (by omega) (by omega)]
    have hdrop : l.drop i = l[i] :: l.drop (i + 1) := List.drop_eq_getElem_cons hlt
    rw [hdrop]
    by_cases hb : l[i] = b
    · rw [if_pos (by rw [hb]), if_pos (by omega), if_pos (by omega), if_pos (by omega), if_pos (by omega)]
      rw [show ((j : Int)).toNat = j from by omega, show ((i : Int)).toNat = i from by omega, extract_str]
      rw [show ((i : Int) + 1) = ((i + 1 : Nat) : Int) from by omega]
      have := split_ref l b hl d (i + 1) (i + 1) (out ++ [(l.drop j).take (i - j)]) k (by omega) (by omega) (by omega) (by simp; omega)
      simp only [List.map_append, List.map_cons, List.map_nil] at this
      rw [this, splAcc, if_pos hb]
      simp
    · have hne : ¬ ((l[i].toNat : Int) = (b.toNat : Int)) := fun e => hb (UInt8.toNat_inj.1 (by omega))
      rw [if_neg hne, show ((i : Int) + 1) = ((i + 1 : Nat) : Int) from by omega]
      rw [split_ref l b hl d (i + 1) j out k (by omega) (by omega) (by omega) (by omega), splAcc, if_neg hb]
      have e : (l.drop j).take (i + 1 - j) = (l.drop j).take (i - j) ++ [l[i]] := by
        rw [show i + 1 - j = (i - j) + 1 by omega, List.take_succ_eq_append_getElem (by simp; omega)]
        congr 2
        simp
        congr 1
        omega
      rw [e]

theorem splitf_ref (l : List UInt8) (b : UInt8) (k : Nat) (hl : l.length ≤ 8000000) (hk : l.length < k) : spec_l01Split.f k (str l) (b.toNat : Int) = some ((spl b l).map str) := by
  unfold spec_l01Split.f
  have := split_ref l b hl l.length 0 0 [] k (by omega) (by omega) hk (by simp)
  simp only [List.map_nil, List.nil_append, List.drop_zero, Nat.sub_zero, List.take_zero] at this
  exact this

/-- The reference's reader of plain numbers always answers. -/
theorem numl_some (l : List UInt8) (hl : l.length ≤ 8000000) : ∀ (d i : Nat) (x : Int) (k : Nat), i + d = l.length → d < k → ∃ r, spec_l01Number.l0 k (str l) x i = some r
  | 0, i, x, k, hd, hk => by
    obtain ⟨k, rfl⟩ : ∃ m, k = m + 1 := ⟨k - 1, by omega⟩
    simp only [spec_l01Number.l0, str_size]
    rw [if_neg (by omega)]
    exact ⟨_, rfl⟩
  | d + 1, i, x, k, hd, hk => by
    obtain ⟨k, rfl⟩ : ∃ m, k = m + 1 := ⟨k - 1, by omega⟩
    simp only [spec_l01Number.l0, str_size]
    rw [if_pos (by omega), if_pos (by omega)]
    split
    · exact ⟨_, rfl⟩
    · split
      · exact ⟨_, rfl⟩
      · rw [wrap_in (x := (i : Int) + 1) (by omega) (by omega), show ((i : Int) + 1) = ((i + 1 : Nat) : Int) from by omega]
        exact numl_some l hl d (i + 1) _ k (by omega) (by omega)
theorem numj_some (l : List UInt8) (k : Nat) (b : Bool) (hl : l.length ≤ 8000000) (hk : l.length + 1 < k) : ∃ r, spec_l01Number.j0 k (str l) b = some r := by
  obtain ⟨k, rfl⟩ : ∃ m, k = m + 1 := ⟨k - 1, by omega⟩
  simp only [spec_l01Number.j0]
  split
  · exact ⟨_, rfl⟩
  · exact numl_some l hl l.length 0 0 k (by omega) (by omega)
theorem num_some (l : List UInt8) (k : Nat) (hl : l.length ≤ 8000000) (hk : l.length + 1 < k) : ∃ r, spec_l01Number.f k (str l) = some r := by
  unfold spec_l01Number.f
  rw [str_size]
  split
  · exact numj_some l k _ hl hk
  · split
    · exact numj_some l k _ hl hk
    · rw [if_pos (by omega)]
      split <;> exact numj_some l k _ hl hk

/-- The number that decimal digits tell, from what stands before. -/
def valOf : Int → List UInt8 → Int
  | x, [] => x
  | x, c :: r => valOf (x * 10 + ((c.toNat : Int) - 48)) r
theorem valOf_append : ∀ (a b : List UInt8) (x : Int), valOf x (a ++ b) = valOf (valOf x a) b
  | [], _, _ => rfl
  | c :: r, b, x => by simp only [List.cons_append, valOf]; exact valOf_append r b _
theorem valOf_dec (u : Nat) : valOf 0 (Lib.decDigits u) = u := by
  induction u using Nat.strongRecOn with
  | _ u ih =>
    rw [Lib.decDigits]
    split
    · rename_i h
      simp only [valOf, digit_toNat u h]; omega
    · rename_i h
      rw [valOf_append, ih (u / 10) (by omega)]
      simp only [valOf, digit_toNat (u % 10) (by omega)]
      omega
theorem valOf_bound : ∀ (l : List UInt8) (x : Int) (n : Nat), (∀ c ∈ l, 48 ≤ c.toNat ∧ c.toNat ≤ 57) → 0 ≤ x → x < 10 ^ n → 0 ≤ valOf x l ∧ valOf x l < 10 ^ (n + l.length)
  | [], x, n, _, h0, h1 => by simp [valOf, h0, h1]
  | c :: r, x, n, h, h0, h1 => by
    have hc := h c List.mem_cons_self
    have e : (10 : Int) ^ (n + 1) = 10 ^ n * 10 := Int.pow_succ ..
    have := valOf_bound r (x * 10 + ((c.toNat : Int) - 48)) (n + 1) (fun y hy => h y (List.mem_cons_of_mem _ hy)) (by omega) (by rw [e]; omega)
    simp only [valOf, List.length_cons]
    rw [show n + (r.length + 1) = n + 1 + r.length by omega]
    exact this

theorem numl_dec (l : List UInt8) (hl : l.length ≤ 9) (hd : ∀ c ∈ l, 48 ≤ c.toNat ∧ c.toNat ≤ 57) : ∀ (d i : Nat) (x : Int) (k : Nat), i + d = l.length → d < k → 0 ≤ x → x < 10 ^ i →
    spec_l01Number.l0 k (str l) x i = some (valOf x (l.drop i), true)
  | 0, i, x, k, hi, hk, h0, h1 => by
    obtain ⟨k, rfl⟩ : ∃ m, k = m + 1 := ⟨k - 1, by omega⟩
    simp only [spec_l01Number.l0, str_size]
    rw [if_neg (by omega), List.drop_eq_nil_of_le (by omega)]
    rfl
  | d + 1, i, x, k, hi, hk, h0, h1 => by
    obtain ⟨k, rfl⟩ : ∃ m, k = m + 1 := ⟨k - 1, by omega⟩
    have hlt : i < l.length := by omega
    have hc := hd l[i] (List.getElem_mem hlt)
    have hp : (10 : Int) ^ i ≤ 10 ^ 8 := by
      have : (10 : Nat) ^ i ≤ 10 ^ 8 := Nat.pow_le_pow_right (by omega) (by omega)
      exact_mod_cast this
    have hx : x < 100000000 := by have : (10 : Int) ^ 8 = 100000000 := rfl; omega
    simp only [spec_l01Number.l0, str_size]
    rw [if_pos (by omega), if_pos (by omega), bt_str l i hlt, if_neg (by omega), if_neg (by omega)]
    have e1 : (((l[i].toNat : Int) - 48) % 256) = (l[i].toNat : Int) - 48 := by omega
    rw [e1, wrap_in (x := x * 10) (by omega) (by omega), wrap_in (by omega) (by omega), wrap_in (by omega) (by omega), show ((i : Int) + 1) = ((i + 1 : Nat) : Int) from by omega]
    have e : (10 : Int) ^ (i + 1) = 10 ^ i * 10 := Int.pow_succ ..
    rw [numl_dec l hl hd d (i + 1) _ k (by omega) (by omega) (by omega) (by rw [e]; omega)]
    rw [List.drop_eq_getElem_cons hlt]
    rfl

theorem decDigits_zero (u : Nat) (h : (Lib.decDigits u).head? = some 48) : u = 0 := by
  induction u using Nat.strongRecOn with
  | _ u ih =>
    rw [Lib.decDigits] at h
    split at h
    · rename_i hu
      simp only [List.head?_cons, Option.some.injEq] at h
      have := congrArg UInt8.toNat h
      rw [digit_toNat u hu] at this
      have e48 : (48 : UInt8).toNat = 48 := rfl
      omega
    · rename_i hu
      obtain ⟨c, r, e, _, _⟩ := decDigits_head (u / 10)
      rw [e] at h
      have := ih (u / 10) (by omega) (by rw [e]; simpa using h)
      omega

/-- The reference's reader reads each number below 1000000000 from its own text. -/
theorem num_dec (n : Nat) (hn : n < 1000000000) (k : Nat) (hk : 11 < k) : spec_l01Number.f k (str (Lib.decDigits n)) = some ((n : Int), true) := by
  have hl : (Lib.decDigits n).length ≤ 9 := nDigits_le 9 n (by simpa using hn) (by omega)
  obtain ⟨c, r, hc, _, _⟩ := decDigits_head n
  have h1 : 1 ≤ (Lib.decDigits n).length := by rw [hc]; simp
  obtain ⟨k, rfl⟩ : ∃ m, k = m + 1 := ⟨k - 1, by omega⟩
  have hmain : spec_l01Number.l0 k (str (Lib.decDigits n)) 0 0 = some ((n : Int), true) := by
    have := numl_dec (Lib.decDigits n) hl (decDigits_mem n) (Lib.decDigits n).length 0 0 k (by omega) (by omega) (by omega) (by simp)
    rw [List.drop_zero, valOf_dec] at this
    exact this
  unfold spec_l01Number.f
  rw [str_size, if_neg (by omega), if_neg (by omega), if_pos (by omega)]
  have hb : bt (str (Lib.decDigits n)) 0 = (c.toNat : Int) := by
    have := bt_str (Lib.decDigits n) 0 (by omega)
    rw [show ((0 : Nat) : Int) = 0 from rfl] at this
    rw [this]
    simp [hc]
  rw [hb]
  by_cases h48 : (c.toNat : Int) = 48
  · have hz : n = 0 := decDigits_zero n (by rw [hc]; simp; exact UInt8.toNat_inj.1 (by have : (48 : UInt8).toNat = 48 := rfl; omega))
    subst hz
    rw [if_pos h48]
    have : (Lib.decDigits 0).length = 1 := by rw [Lib.decDigits_one (by omega)]; rfl
    simp only [spec_l01Number.j0]
    rw [if_neg (by simp [this])]
    exact hmain
  · rw [if_neg h48]
    simp only [spec_l01Number.j0]
    rw [if_neg (by simp)]
    exact hmain

end Go.Proofs.YtjdkhllkncomaaaDoor.G
