/-
  The program's reader of deeds answers as the reference's, at every text.
-/
import Derived.Test.YtjdkhllkncomaaaDoorVDeed
import Derived.Test.YtjdkhllkncomaaaDoorVSplit
import Derived.Test.YtjdkhllkncomaaaDoorVx3
import Derived.Lib.SplitLaws
namespace Go.Proofs.YtjdkhllkncomaaaDoor.V
open Go.RowKit Go.Proofs.YtjdkhllkncomaaaDoor Go.Proofs.YtjdkhllkncomaaaDoor.Wide Go.Proofs.YtjdkhllkncomaaaDoorW.PrintWords Go.Proofs.YtjdkhllkncomaaaDoorW.PrintLast Go.Proofs.YtjdkhllkncomaaaDoorW.PrintMore

theorem rd_words (ws : List (List UInt8)) (i : Nat) : rdOf ByteArray.empty (ws.map str) (i : Int) = str (ws.getD i []) := by
  unfold rdOf
  rw [show ((i : Int)).toNat = i from by omega, show ByteArray.empty = str [] from rfl]
  simp only [List.getD_eq_getElem?_getD, List.getElem?_map]
  cases ws[i]? <;> rfl

theorem idx_none (l : List UInt8) (b : UInt8) (h : b ∉ l) : Lib.index l [b] = -1 := by
  refine Lib.index_none fun j hj => ?_
  unfold Lib.occAt
  cases e : l.drop j with
  | nil => rfl
  | cons c r =>
    have : c ≠ b := fun hc => h (hc ▸ List.mem_of_mem_drop (by rw [e]; exact List.mem_cons_self))
    simp [List.isPrefixOf, Ne.symm this]
theorem idx_hit (l r : List UInt8) (b : UInt8) (h : b ∉ l) : Lib.index (l ++ b :: r) [b] = (l.length : Nat) := by
  refine Lib.index_first (by simp) ?_ fun j hj => ?_
  · unfold Lib.occAt
    rw [List.drop_left]
    simp [List.isPrefixOf]
  · unfold Lib.occAt
    have : l[j] ≠ b := fun hc => h (hc ▸ List.getElem_mem hj)
    rw [List.drop_append_of_le_length (by omega), List.drop_eq_getElem_cons hj, List.cons_append]
    simp [List.isPrefixOf, Ne.symm this]

theorem splitK_spl (b : UInt8) : ∀ (n : Nat) (l : List UInt8), l.length ≤ n → Lib.splitK [b] 0 (Lib.count l [b]) l = spl b l := by
  intro n
  induction n with
  | zero =>
    intro l hl
    have : l = [] := List.eq_nil_of_length_eq_zero (by omega)
    subst this
    rw [Lib.count_one]
    rfl
  | succ n ih =>
    intro l hl
    by_cases hm : b ∈ l
    · obtain ⟨p, r, rfl, hp⟩ := List.eq_append_cons_of_mem hm
      rw [Lib.count_one, List.count_append, List.count_eq_zero.2 hp, List.count_cons_self, Nat.zero_add, spl_hit b p r (fun c hc he => hp (he ▸ hc))]
      rw [Lib.splitK, idx_hit p r b hp, if_neg (by simp <;> omega)]
      have e : (p ++ b :: r).drop (((p.length : Nat) : Int).toNat + [b].length) = r := by simp
      rw [e, show ((p.length : Nat) : Int).toNat + 0 = p.length from by simp, List.take_left, ← Lib.count_one, ih r (by simp at hl; omega)]
    · rw [Lib.count_one, List.count_eq_zero.2 hm, spl_none b l (fun c hc he => hm (he ▸ hc))]
      rfl

theorem split_prog (l : List UInt8) (hl : l.length ≤ 1048576) : strings_Split.f (str l) (⟨#[32]⟩ : ByteArray) = some ((spl 32 l).map str) := by
  unfold strings_Split.f
  rw [if_pos ⟨by rw [str_size]; omega, of_decide_eq_true rfl⟩]
  congr 1
  have h := Lib.splitB_data ⟨#[32]⟩ 0 (Lib.countB (str l) ⟨#[32]⟩) (str l)
  have e : (⟨#[32]⟩ : ByteArray).data.toList = [32] := rfl
  rw [e, str_toList] at h
  have h2 := splitK_spl 32 _ l (Nat.le_refl _)
  unfold Lib.countB at h ⊢
  rw [e, str_toList] at h ⊢
  rw [h2] at h
  rw [← h, List.map_map]
  have : ((fun x : List UInt8 => str x) ∘ fun x : ByteArray => x.data.toList) = id := by funext x; exact str_eq x
  have e2 : (str ∘ fun x : ByteArray => x.data.toList) = id := this
  rw [e2, List.map_id]

/-- Parts set together again. -/
def joinB (b : UInt8) : List (List UInt8) → List UInt8
  | [] => []
  | [w] => w
  | w :: x :: r => w ++ b :: joinB b (x :: r)
theorem splAcc_join (b : UInt8) : ∀ (l cur : List UInt8), joinB b (splAcc b cur l) = cur ++ l
  | [], cur => by simp [splAcc, joinB]
  | c :: r, cur => by
    rw [splAcc]
    split
    · rename_i h
      subst h
      have := splAcc_join c r []
      cases e : splAcc c [] r with
      | nil => exact absurd e (splAcc_ne c r [])
      | cons x y => rw [e] at this; rw [joinB, this]; rfl
    · rw [splAcc_join b r (cur ++ [c])]; simp
theorem spl_join (b : UInt8) (l : List UInt8) : joinB b (spl b l) = l := by
  have := splAcc_join b l []; simpa [spl] using this

/-- A plain number's digits are its decimal text. -/
theorem dec_valOf : ∀ (n : Nat) (l : List UInt8), l.length = n → l ≠ [] → (∀ c ∈ l, 48 ≤ c.toNat ∧ c.toNat ≤ 57) → (l.length = 1 ∨ l.head? ≠ some 48) → Lib.decDigits (valOf 0 l).toNat = l := by
  intro n
  induction n with
  | zero => intro l hl hne; exact absurd (List.eq_nil_of_length_eq_zero hl) hne
  | succ n ih =>
    intro l hl hne hd hz
    obtain ⟨p, c, rfl⟩ : ∃ p c, l = p ++ [c] := ⟨l.dropLast, l.getLast hne, (List.dropLast_concat_getLast hne).symm⟩
    have hc := hd c (by simp)
    have hv : valOf 0 (p ++ [c]) = valOf 0 p * 10 + ((c.toNat : Int) - 48) := by rw [valOf_append]; rfl
    have hdg : ∀ m : Nat, m = c.toNat - 48 → UInt8.ofNat (48 + m) = c := by
      intro m hm
      apply UInt8.toNat_inj.1
      rw [UInt8.toNat_ofNat']
      omega
    by_cases hp : p = []
    · subst hp
      rw [hv]
      have e0 : valOf 0 [] = 0 := rfl
      rw [e0, Lib.decDigits, dif_pos (by omega), hdg _ (by omega)]
      rfl
    · have hpl : p.length = n := by simp at hl; omega
      have hp1 : 1 ≤ p.length := by cases p with | nil => exact absurd rfl hp | cons _ _ => simp
      have hh : p.head? ≠ some 48 := by
        rcases hz with h | h
        · simp only [List.length_append, List.length_singleton] at h; omega
        · cases p with
          | nil => exact absurd rfl hp
          | cons x y => simpa using h
      have hi := ih p hpl hp (fun x hx => hd x (by simp [hx])) (Or.inr hh)
      have hb := valOf_bound p 0 0 (fun x hx => hd x (by simp [hx])) (by omega) (by omega)
      have hpos : 1 ≤ valOf 0 p := by
        apply Classical.byContradiction
        intro h
        have z : (valOf 0 p).toNat = 0 := by omega
        rw [z, Lib.decDigits_one (by omega)] at hi
        rw [← hi] at hh
        exact hh rfl
      rw [hv, Lib.decDigits, dif_neg (by omega)]
      rw [show (valOf 0 p * 10 + ((c.toNat : Int) - 48)).toNat / 10 = (valOf 0 p).toNat from by omega, hi, hdg _ (by omega)]

theorem numl_inv (l : List UInt8) (hl : l.length ≤ 9) : ∀ (d i : Nat) (x : Int) (k : Nat) (n : Int), i + d = l.length → 0 ≤ x → x < 10 ^ i → spec_l01Number.l0 k (str l) x i = some (n, true) →
    n = valOf x (l.drop i) ∧ ∀ c ∈ l.drop i, 48 ≤ c.toNat ∧ c.toNat ≤ 57
  | 0, i, x, k, n, hi, h0, h1, h => by
    cases k with
    | zero => simp [spec_l01Number.l0] at h
    | succ k =>
      simp only [spec_l01Number.l0] at h
      rw [str_size, if_neg (by omega)] at h
      rw [List.drop_eq_nil_of_le (by omega)]
      simp at h
      exact ⟨h.symm, fun c hc => by cases hc⟩
  | d + 1, i, x, k, n, hi, h0, h1, h => by
    cases k with
    | zero => simp [spec_l01Number.l0] at h
    | succ k =>
      have hlt : i < l.length := by omega
      have hp : (10 : Int) ^ i ≤ 10 ^ 8 := by
        have : (10 : Nat) ^ i ≤ 10 ^ 8 := Nat.pow_le_pow_right (by omega) (by omega)
        exact_mod_cast this
      simp only [spec_l01Number.l0] at h
      rw [str_size, if_pos (by omega), if_pos (by omega), bt_str l i hlt] at h
      split at h
      · cases h
      · rename_i c0
        split at h
        · cases h
        · rename_i c1
          have e1 : ((l[i].toNat : Int) - 48) % 256 = (l[i].toNat : Int) - 48 := by omega
          rw [e1, wrap_in (x := x * 10) (by omega) (by omega), wrap_in (by omega) (by omega), wrap_in (by omega) (by omega), show ((i : Int) + 1) = ((i + 1 : Nat) : Int) from by omega] at h
          have e : (10 : Int) ^ (i + 1) = 10 ^ i * 10 := Int.pow_succ ..
          have := numl_inv l hl d (i + 1) _ k n (by omega) (by omega) (by rw [e]; omega) h
          rw [List.drop_eq_getElem_cons hlt]
          refine ⟨this.1, fun c hc => ?_⟩
          rcases List.mem_cons.1 hc with rfl | hc
          · omega
          · exact this.2 c hc

/-- What the reference's reader takes for a number is that number's own text. -/
theorem num_inv (l : List UInt8) (k : Nat) (n : Int) (h : spec_l01Number.f k (str l) = some (n, true)) : 0 ≤ n ∧ n < 1000000000 ∧ Lib.itoa n = l := by
  unfold spec_l01Number.f at h
  rw [str_size] at h
  have hj : ∀ b, spec_l01Number.j0 k (str l) b = some (n, true) → b = false ∧ ∃ k', spec_l01Number.l0 k' (str l) 0 0 = some (n, true) := by
    intro b hb
    cases k with
    | zero => simp [spec_l01Number.j0] at hb
    | succ k =>
      simp only [spec_l01Number.j0] at hb
      split at hb
      · cases hb
      · rename_i hb'
        exact ⟨by simpa using hb', k, hb⟩
  split at h
  · have := (hj _ h).1; cases this
  · split at h
    · have := (hj _ h).1; cases this
    · rename_i c1 c2
      rw [if_pos (by omega)] at h
      have key : ∀ b, spec_l01Number.j0 k (str l) b = some (n, true) → (b = false → l.length = 1 ∨ l.head? ≠ some 48) → 0 ≤ n ∧ n < 1000000000 ∧ Lib.itoa n = l := by
        intro b hb hz
        obtain ⟨rfl, k', hk⟩ := hj b hb
        have hz := hz rfl
        have hh := numl_inv l (by omega) l.length 0 0 k' n (by omega) (by omega) (by simp) hk
        rw [List.drop_zero] at hh
        obtain ⟨rfl, hd⟩ := hh
        have hb := valOf_bound l 0 0 hd (by omega) (by omega)
        have hp : (10 : Int) ^ (0 + l.length) ≤ 10 ^ 9 := by
          have : (10 : Nat) ^ (0 + l.length) ≤ 10 ^ 9 := Nat.pow_le_pow_right (by omega) (by omega)
          exact_mod_cast this
        refine ⟨hb.1, by omega, ?_⟩
        rw [itoa_pos hb.1, show (valOf 0 l).natAbs = (valOf 0 l).toNat from by omega]
        exact dec_valOf _ l rfl (by intro e; subst e; simp at c1) hd hz
      have hbt : bt (str l) 0 = ((l[0]'(by omega)).toNat : Int) := bt_str l 0 (by omega)
      have hhd : l.head? = some (l[0]'(by omega)) := by cases l with | nil => simp at c1 | cons a b => rfl
      split at h
      · exact key _ h (fun hb => Or.inl (by simp at hb; omega))
      · rename_i h48
        refine key _ h (fun _ => Or.inr ?_)
        rw [hhd]
        intro e
        apply h48
        rw [hbt, Option.some.inj e]
        rfl

theorem dword_no (k : Int) : ∀ c ∈ dword k, c ≠ 32 := by
  unfold dword
  repeat' split
  all_goals decide
theorem itoa_no32 (v : Int) : ∀ c ∈ Lib.itoa v, c ≠ 32 := by
  intro c hc e
  subst e
  have := itoa_mem v _ hc
  have e32 : (32 : UInt8).toNat = 32 := rfl
  omega
theorem dmany_range (k : Int) : 0 ≤ dmany k ∧ dmany k ≤ 2 := by unfold dmany; repeat' split; all_goals omega

theorem spl_dtext (k a b : Int) : spl 32 (dtext k a b) = dword k :: ((if dmany k > 0 then [Lib.itoa a] else []) ++ (if dmany k > 1 then [Lib.itoa b] else [])) := by
  unfold dtext
  by_cases h0 : dmany k > 0
  · by_cases h1 : dmany k > 1
    · rw [if_pos h0, if_pos h1, if_pos h0, if_pos h1, List.append_assoc, List.cons_append, spl_hit 32 _ _ (dword_no k), spl_hit 32 _ _ (itoa_no32 a), spl_none 32 _ (itoa_no32 b)]
      rfl
    · rw [if_pos h0, if_neg h1, if_pos h0, if_neg h1, List.append_nil, spl_hit 32 _ _ (dword_no k), spl_none 32 _ (itoa_no32 a)]
      rfl
  · rw [if_neg h0, if_neg (by omega), if_neg h0, if_neg (by omega), List.append_nil, List.append_nil, spl_none 32 _ (dword_no k)]
    rfl

theorem dword_inj (i j : Int) (hi : 1 ≤ i ∧ i ≤ 7) (h : dword i = dword j) : i = j := by
  have hj : 1 ≤ j ∧ j ≤ 7 := by
    apply Classical.byContradiction
    intro hn
    have := (dword_nil j).2 hn
    rw [this] at h
    exact (dword_nil i).1 h hi
  rcases kinds i hi.1 hi.2 with rfl | rfl | rfl | rfl | rfl | rfl | rfl <;> rcases kinds j hj.1 hj.2 with rfl | rfl | rfl | rfl | rfl | rfl | rfl <;> first | rfl | (exfalso; revert h; decide)


/-- What the program's loop does at a kind. -/
theorem step_prog (l : List UInt8) (ws : List (List UInt8)) (a b i : Int) (k : Nat) (hi : 1 ≤ i) (h7 : i ≤ 7) (hk : 1000000001 < k) (hw : 0 < ws.length) :
    impl_ReadDeed.l0 (k + 3) (str l) (ws.map str) a b i = if dword i = ws.getD 0 [] ∧ vd i (if dmany i > 0 then a else 0) (if dmany i > 1 then b else 0) = true ∧ dtext i (if dmany i > 0 then a else 0) (if dmany i > 1 then b else 0) = l then some (i, (if dmany i > 0 then a else 0), (if dmany i > 1 then b else 0), 0) else impl_ReadDeed.l0 k (str l) (ws.map str) a b (i + 1) := by
  have hj : ∀ x y : Int, impl_ReadDeed.j2 (k + 1) (str l) (ws.map str) a b i (str (dword i)) i x y = if dword i = ws.getD 0 [] ∧ vd i x y = true ∧ dtext i x y = l then some (i, x, y, 0) else impl_ReadDeed.l0 k (str l) (ws.map str) a b (i + 1) := by
    intro x y
    simp only [impl_ReadDeed.j2]
    rw [List.length_map, if_pos (by omega), show (0 : Int) = ((0 : Nat) : Int) from rfl, rd_words, str_toList', str_toList', wrap_in (by omega) (by omega)]
    by_cases h1 : dword i = ws.getD 0 []
    · rw [if_pos h1, valid_prog]
      simp only [Option.bind_some]
      by_cases h2 : vd i x y = true
      · rw [if_pos h2, dtext_prog i x y k (by omega), if_pos h2]
        simp only [Option.bind_some, str_toList']
        by_cases h3 : dtext i x y = l
        · rw [if_pos h3, if_pos ⟨h1, h2, h3⟩]
        · rw [if_neg h3, if_neg (fun h => h3 h.2.2)]
      · rw [if_neg h2, if_neg (fun h => h2 h.2.1)]
    · rw [if_neg h1, if_neg (fun h => h1 h.1)]
  simp only [impl_ReadDeed.l0]
  rw [if_pos h7, wordOf_prog]
  simp only [Option.bind_some, impl_ReadDeed.j1]
  by_cases h0 : dmany i > 0
  · rw [if_pos h0]
    by_cases h1 : dmany i > 1
    · rw [if_pos h1, hj]; simp only [if_pos h0, if_pos h1]
    · rw [if_neg h1, hj]; simp only [if_pos h0, if_neg h1]
  · rw [if_neg h0, if_neg (by omega), hj]; simp only [if_neg h0, if_neg (show ¬ dmany i > 1 by omega)]

/-- The loop's rest from a kind on. -/
theorem loop_prog2 (l : List UInt8) (ws : List (List UInt8)) (a b : Int) (hw : 0 < ws.length) : ∀ (d : Nat) (i : Int) (k : Nat), 1 ≤ i → i + d = 8 → 1000000001 + 3 * d < k →
    (∀ j x y, i ≤ j → vd j x y = true → dtext j x y = l → dword j = ws.getD 0 [] → (if dmany j > 0 then a else 0) = x → (if dmany j > 1 then b else 0) = y → impl_ReadDeed.l0 k (str l) (ws.map str) a b i = some (j, x, y, 0)) ∧
    ((¬ ∃ j x y, vd j x y = true ∧ dtext j x y = l) → impl_ReadDeed.l0 k (str l) (ws.map str) a b i = some (0, 0, 0, 5))
  | 0, i, k, hi, hd, hk => by
    obtain ⟨k, rfl⟩ : ∃ m, k = m + 1 := ⟨k - 1, by omega⟩
    constructor
    · intro j x y hj hv
      have := (vd_iff j x y).1 hv
      omega
    · intro _
      simp only [impl_ReadDeed.l0]
      rw [if_neg (by omega)]
  | d + 1, i, k, hi, hd, hk => by
    obtain ⟨k, rfl⟩ : ∃ m, k = m + 3 := ⟨k - 3, by omega⟩
    rw [step_prog l ws a b i k hi (by omega) (by omega) hw]
    have ih := loop_prog2 l ws a b hw d (i + 1) k (by omega) (by omega) (by omega)
    constructor
    · intro j x y hj hv ht hd' hx hy
      by_cases e : i = j
      · subst e
        rw [hx, hy, if_pos ⟨hd', hv, ht⟩]
      · rw [if_neg (fun h => e (dword_inj i j (by omega) (by rw [h.1, hd'])))]
        exact ih.1 j x y (by omega) hv ht hd' hx hy
    · intro hno
      rw [if_neg (fun h => hno ⟨_, _, _, h.2.1, h.2.2⟩)]
      exact ih.2 hno

theorem parse_prog (x : List UInt8) (hx : x.length ≤ 8000000) : strconv_ParseInt.f (str x) 10 64 = some (numN x, 0) := by
  unfold strconv_ParseInt.f
  rw [if_pos ⟨rfl, rfl, by rw [str_size]; omega⟩, str_toList]

theorem getD_len (ws : List (List UInt8)) (i n : Nat) (h : ∀ x ∈ ws, x.length ≤ n) : (ws.getD i []).length ≤ n := by
  rw [List.getD_eq_getElem?_getD]
  by_cases hi : i < ws.length
  · rw [List.getElem?_eq_getElem hi]; exact h _ (List.getElem_mem hi)
  · rw [List.getElem?_eq_none (by omega)]; simp

/-- The program's reader. -/
theorem readd_prog (l : List UInt8) (k : Nat) (hl : l.length ≤ 1048576) (hk : 1000000200 < k) :
    (∀ j x y, vd j x y = true → dtext j x y = l → impl_ReadDeed.f k (str l) = some (j, x, y, 0)) ∧ ((¬ ∃ j x y, vd j x y = true ∧ dtext j x y = l) → impl_ReadDeed.f k (str l) = some (0, 0, 0, 5)) := by
  have hlen : (spl 32 l).length ≤ 1048577 := by have := splAcc_len 32 l []; unfold spl; omega
  have hne : 0 < (spl 32 l).length := by
    have := splAcc_ne 32 l []
    unfold spl
    exact List.length_pos_iff.2 this
  have hws : ∀ x ∈ spl 32 l ++ [[48], [48]], x.length ≤ 1048577 := by
    intro x hx
    rcases List.mem_append.1 hx with hx | hx
    · have := spl_parts 32 l x hx; omega
    · simp at hx; subst hx; simp
  have e48 : ([(⟨#[48]⟩ : ByteArray), (⟨#[48]⟩ : ByteArray)] : List ByteArray) = ([[48], [48]] : List (List UInt8)).map str := rfl
  have hf : impl_ReadDeed.f k (str l) = impl_ReadDeed.l0 k (str l) ((spl 32 l ++ [[48], [48]]).map str) (numN ((spl 32 l ++ [[48], [48]]).getD 1 [])) (numN ((spl 32 l ++ [[48], [48]]).getD 2 [])) 1 := by
    unfold impl_ReadDeed.f
    rw [split_prog l hl, e48]
    simp only [Option.bind_some]
    rw [if_pos (by simp only [List.length_map, List.length_cons, List.length_nil]; omega), ← List.map_append]
    rw [show (1 : Int) = ((1 : Nat) : Int) from rfl, show (2 : Int) = ((2 : Nat) : Int) from rfl, rd_words, rd_words, parse_prog _ (by have := getD_len _ 1 _ hws; omega), parse_prog _ (by have := getD_len _ 2 _ hws; omega)]
    simp only [Option.bind_some]
    rw [if_pos (by simp only [List.length_map, List.length_append, List.length_cons, List.length_nil]; omega), if_pos (by simp only [List.length_map, List.length_append, List.length_cons, List.length_nil]; omega)]
  have H := loop_prog2 l (spl 32 l ++ [[48], [48]]) (numN ((spl 32 l ++ [[48], [48]]).getD 1 [])) (numN ((spl 32 l ++ [[48], [48]]).getD 2 [])) (by simp) 7 1 k (by omega) (by omega) (by omega)
  rw [hf]
  constructor
  · rintro j x y hv rfl
    have hb := (vd_iff j x y).1 hv
    have n0 : numN [48] = 0 := by
      have := (num_itoa 0 (by omega) (by omega)).1
      rwa [show Lib.itoa 0 = [48] from by rw [itoa_pos (by omega)]; exact Lib.decDigits_one (by omega)] at this
    have nx := (num_itoa x (by omega) (by omega)).1
    have ny := (num_itoa y (by omega) (by omega)).1
    refine H.1 j x y (by omega) hv rfl ?_ ?_ ?_
    · rw [spl_dtext]; rfl
    · rw [spl_dtext]
      by_cases h0 : dmany j > 0
      · rw [if_pos h0, if_pos h0]; exact nx
      · rw [if_neg h0]; omega
    · rw [spl_dtext]
      by_cases h1 : dmany j > 1
      · rw [if_pos h1, if_pos h1, if_pos (by omega)]; exact ny
      · rw [if_neg h1]; omega
  · exact H.2

/-- The reference's words. -/
def rwords : List (List UInt8) := [[], [103, 105, 118, 101], [119, 111, 114, 107], [100, 101, 108, 105, 118, 101, 114], [99, 111, 112, 121], [100, 114, 111, 112], [115, 97, 118, 101], [99, 114, 97, 115, 104]]
theorem rwords_at (i : Int) (h1 : 1 ≤ i) (h7 : i ≤ 7) : rwords.getD i.toNat [] = dword i := by
  rcases kinds i h1 h7 with rfl | rfl | rfl | rfl | rfl | rfl | rfl <;> rfl

/-- The reference's second loop: the numbers after the word. -/
theorem l1_end (ws : List (List UInt8)) (i a b q : Int) (k : Nat) (h : (ws.length : Int) ≤ i) : spec_ReadDeed.l1 (k + 1) (ws.map str) i q a b = some (if vd q a b = true then (q, a, b, 0) else (0, 0, 0, 5)) := by
  simp only [spec_ReadDeed.l1]
  rw [List.length_map, if_neg (by omega), valid_ref]
  simp only [Option.bind_some]
  by_cases hv : vd q a b = true
  · rw [if_pos hv, if_pos hv]
  · rw [if_neg hv, if_neg hv]

theorem l1_step (ws : List (List UInt8)) (i : Nat) (a b q n : Int) (ok : Bool) (k : Nat) (h1 : 1 ≤ i) (hi : i < ws.length) (hlen : ws.length ≤ 3) (hn : spec_l01Number.f k (str (ws.getD i [])) = some (n, ok)) :
    spec_ReadDeed.l1 (k + 1) (ws.map str) i q a b = if ok = true then (if i = 1 then spec_ReadDeed.l1 k (ws.map str) ((i + 1 : Nat) : Int) q n b else spec_ReadDeed.l1 k (ws.map str) ((i + 1 : Nat) : Int) q a n) else some (0, 0, 0, 5) := by
  simp only [spec_ReadDeed.l1]
  rw [List.length_map, if_pos (by omega), if_pos (by omega), rd_words, hn]
  simp only [Option.bind_some]
  rw [wrap_in (by omega) (by omega), show ((i : Int) + 1) = ((i + 1 : Nat) : Int) from by omega]
  cases ok
  · simp
  · by_cases h : i = 1
    · subst h; simp
    · rw [if_pos rfl, if_neg (by omega), if_pos rfl, if_neg h]

/-- The number that the text of a valid deed holds at a place. -/
theorem num_dec_int (a : Int) (h0 : 0 ≤ a) (h1 : a < 1000000000) (k : Nat) (hk : 11 < k) : spec_l01Number.f k (str (Lib.itoa a)) = some (a, true) := by
  obtain ⟨n, rfl⟩ := Int.eq_ofNat_of_zero_le h0
  rw [itoa_nat]
  exact num_dec n (by omega) k hk

theorem dtext0 (q : Int) (w : List UInt8) (h : dword q = w) (hm : dmany q = 0) : dtext q 0 0 = w := by
  unfold dtext; rw [h, if_neg (by omega), if_neg (by omega)]; simp
theorem dtext1 (q a : Int) (w x : List UInt8) (h : dword q = w) (hm : dmany q = 1) (hx : Lib.itoa a = x) : dtext q a 0 = w ++ 32 :: x := by
  unfold dtext; rw [h, hx, if_pos (by omega), if_neg (by omega)]; simp
theorem dtext2 (q a b : Int) (w x y : List UInt8) (h : dword q = w) (hm : dmany q = 2) (hx : Lib.itoa a = x) (hy : Lib.itoa b = y) : dtext q a b = w ++ 32 :: (x ++ 32 :: y) := by
  unfold dtext; rw [h, hx, hy, if_pos (by omega), if_pos (by omega)]; simp

/-- A result of the reader at a text: the text's own deed, or none. -/
def GoodD (l : List UInt8) (r : Int × Int × Int × Int) : Prop := (∃ j x y, vd j x y = true ∧ dtext j x y = l ∧ r = (j, x, y, 0)) ∨ r = (0, 0, 0, 5)

theorem num_good (x : List UInt8) (k : Nat) (hl : x.length ≤ 8000000) (hk : x.length + 1 < k) : ∃ n ok, spec_l01Number.f k (str x) = some (n, ok) ∧ (ok = true → 0 ≤ n ∧ n < 1000000000 ∧ Lib.itoa n = x) := by
  obtain ⟨⟨n, ok⟩, h⟩ := num_some x k hl hk
  refine ⟨n, ok, h, fun e => ?_⟩
  subst e
  exact num_inv x k n h

theorem good_vd (l : List UInt8) (q a b : Int) (h : vd q a b = true → dtext q a b = l) : GoodD l (if vd q a b = true then (q, a, b, 0) else (0, 0, 0, 5)) := by
  by_cases hv : vd q a b = true
  · rw [if_pos hv]; exact Or.inl ⟨q, a, b, hv, h hv, rfl⟩
  · rw [if_neg hv]; exact Or.inr rfl

theorem l1_good (l : List UInt8) (q : Int) (k : Nat) (hk : 9000000 < k) (hl : l.length ≤ 1048576) (hq : dword q = (spl 32 l).getD 0 []) (hn : ((spl 32 l).length : Int) = dmany q + 1) :
    ∃ r, spec_ReadDeed.l1 k ((spl 32 l).map str) 1 q 0 0 = some r ∧ GoodD l r := by
  have hj := spl_join 32 l
  have hp := spl_parts 32 l
  have hm := dmany_range q
  rw [show (1 : Int) = ((1 : Nat) : Int) from rfl]
  generalize hws : spl 32 l = ws at hj hp hq hn ⊢
  match ws, hws with
  | [], hws => simp at hn; omega
  | [w], hws =>
    obtain ⟨k, rfl⟩ : ∃ m, k = m + 1 := ⟨k - 1, by omega⟩
    rw [l1_end [w] _ 0 0 q k (by simp)]
    refine ⟨_, rfl, good_vd _ _ _ _ fun _ => ?_⟩
    simp at hn hq
    rw [dtext0 q w hq (by omega)]
    exact hj
  | [w, x], hws =>
    obtain ⟨k, rfl⟩ : ∃ m, k = m + 2 := ⟨k - 2, by omega⟩
    simp at hn hq
    obtain ⟨n, ok, h1, h2⟩ := num_good x (k + 1) (by have := hp x (by simp); omega) (by have := hp x (by simp); omega)
    rw [l1_step [w, x] 1 0 0 q n ok (k + 1) (by omega) (by simp) (by simp) h1]
    cases ok
    · exact ⟨_, rfl, Or.inr rfl⟩
    · rw [if_pos rfl, if_pos rfl, l1_end [w, x] _ n 0 q k (by simp)]
      refine ⟨_, rfl, good_vd _ _ _ _ fun _ => ?_⟩
      rw [dtext1 q n w x hq (by omega) (h2 rfl).2.2]
      exact hj
  | [w, x, y], hws =>
    obtain ⟨k, rfl⟩ : ∃ m, k = m + 3 := ⟨k - 3, by omega⟩
    simp at hn hq
    obtain ⟨n, ok, h1, h2⟩ := num_good x (k + 2) (by have := hp x (by simp); omega) (by have := hp x (by simp); omega)
    obtain ⟨n', ok', h1', h2'⟩ := num_good y (k + 1) (by have := hp y (by simp); omega) (by have := hp y (by simp); omega)
    rw [l1_step [w, x, y] 1 0 0 q n ok (k + 2) (by omega) (by simp) (by simp) h1]
    cases ok
    · exact ⟨_, rfl, Or.inr rfl⟩
    · rw [if_pos rfl, if_pos rfl, l1_step [w, x, y] 2 n 0 q n' ok' (k + 1) (by omega) (by simp) (by simp) h1']
      cases ok'
      · exact ⟨_, rfl, Or.inr rfl⟩
      · rw [if_pos rfl, if_neg (by omega), l1_end [w, x, y] _ n n' q k (by simp)]
        refine ⟨_, rfl, good_vd _ _ _ _ fun _ => ?_⟩
        rw [dtext2 q n n' w x y hq (by omega) (h2 rfl).2.2 (h2' rfl).2.2]
        exact hj
  | w :: x :: y :: z :: r, hws => simp at hn; omega

theorem l1_ok (q a b : Int) (hv : vd q a b = true) (k : Nat) (hk : 100 < k) : spec_ReadDeed.l1 k ((spl 32 (dtext q a b)).map str) 1 q 0 0 = some (q, a, b, 0) := by
  have hb := (vd_iff q a b).1 hv
  obtain ⟨k, rfl⟩ : ∃ m, k = m + 3 := ⟨k - 3, by omega⟩
  rw [spl_dtext]
  have na := num_dec_int a (by omega) (by omega)
  have nb := num_dec_int b (by omega) (by omega)
  by_cases h0 : dmany q > 0
  · by_cases h1 : dmany q > 1
    · rw [if_pos h0, if_pos h1]
      simp only [List.cons_append, List.nil_append]
      refine Eq.trans (l1_step [dword q, Lib.itoa a, Lib.itoa b] 1 0 0 q a true (k + 2) (by omega) (by simp) (by simp) (na _ (by omega))) ?_
      rw [if_pos rfl, if_pos rfl]
      rw [l1_step [dword q, Lib.itoa a, Lib.itoa b] 2 a 0 q b true (k + 1) (by omega) (by simp) (by simp) (nb _ (by omega)), if_pos rfl, if_neg (by omega)]
      rw [l1_end [dword q, Lib.itoa a, Lib.itoa b] _ a b q k (by simp), if_pos hv]
    · have : b = 0 := by omega
      subst this
      rw [if_pos h0, if_neg h1]
      simp only [List.append_nil]
      refine Eq.trans (l1_step [dword q, Lib.itoa a] 1 0 0 q a true (k + 2) (by omega) (by simp) (by simp) (na _ (by omega))) ?_
      rw [if_pos rfl, if_pos rfl]
      rw [l1_end [dword q, Lib.itoa a] _ a 0 q (k + 1) (by simp), if_pos hv]
  · have : a = 0 := by omega
    subst this
    have : b = 0 := by omega
    subst this
    rw [if_neg h0, if_neg (by omega)]
    refine Eq.trans (l1_end [dword q] 1 0 0 q (k + 2) (by simp)) ?_
    rw [if_pos hv]

/-- The kind that the reference's first loop finds, from a word on. -/
theorem l0_run (ws : List (List UInt8)) (hw : 0 < ws.length) : ∀ (d : Nat) (i : Nat) (q : Int) (k : Nat), 1 ≤ i → i + d = 8 → d + 1 < k →
    ∃ q', (q' = q ∧ (∀ j : Int, i ≤ j → j ≤ 7 → dword j ≠ ws.getD 0 []) ∨ ((i : Int) ≤ q' ∧ q' ≤ 7 ∧ dword q' = ws.getD 0 [])) ∧
    spec_ReadDeed.l0 k (ws.map str) (rwords.map str) [0, 2, 1, 1, 1, 1, 0, 0] i q 0 0 = spec_ReadDeed.l0 (k - d) (ws.map str) (rwords.map str) [0, 2, 1, 1, 1, 1, 0, 0] 8 q' 0 0
  | 0, i, q, k, h1, hd, hk => by
    have : i = 8 := by omega
    subst this
    exact ⟨q, Or.inl ⟨rfl, fun j hj h7 => by omega⟩, rfl⟩
  | d + 1, i, q, k, h1, hd, hk => by
    obtain ⟨k, rfl⟩ : ∃ m, k = m + 1 := ⟨k - 1, by omega⟩
    have hl : (rwords.map str).length = 8 := rfl
    have hstep : spec_ReadDeed.l0 (k + 1) (ws.map str) (rwords.map str) [0, 2, 1, 1, 1, 1, 0, 0] i q 0 0 = if dword i = ws.getD 0 [] then spec_ReadDeed.l0 k (ws.map str) (rwords.map str) [0, 2, 1, 1, 1, 1, 0, 0] ((i + 1 : Nat) : Int) i 0 0 else spec_ReadDeed.l0 k (ws.map str) (rwords.map str) [0, 2, 1, 1, 1, 1, 0, 0] ((i + 1 : Nat) : Int) q 0 0 := by
      simp only [spec_ReadDeed.l0]
      rw [hl, if_pos (by omega), if_pos (by omega), List.length_map, if_pos (by omega), rd_words, show (0 : Int) = ((0 : Nat) : Int) from rfl, rd_words, str_toList', str_toList', wrap_in (by omega) (by omega), show ((i : Int) + 1) = ((i + 1 : Nat) : Int) from by omega]
      have := rwords_at i (by omega) (by omega)
      rw [show ((i : Int)).toNat = i from by omega] at this
      rw [this]
    rw [hstep]
    by_cases h : dword i = ws.getD 0 []
    · rw [if_pos h]
      obtain ⟨q', hq, he⟩ := l0_run ws hw d (i + 1) i k (by omega) (by omega) (by omega)
      refine ⟨q', Or.inr ?_, by rw [he]; congr 1; omega⟩
      rcases hq with ⟨rfl, _⟩ | ⟨h1, h2, h3⟩
      · exact ⟨by omega, by omega, h⟩
      · exact ⟨by omega, h2, h3⟩
    · rw [if_neg h]
      obtain ⟨q', hq, he⟩ := l0_run ws hw d (i + 1) q k (by omega) (by omega) (by omega)
      refine ⟨q', ?_, by rw [he]; congr 1; omega⟩
      rcases hq with ⟨rfl, h2⟩ | ⟨h1, h2, h3⟩
      · refine Or.inl ⟨rfl, fun j hj h7 => ?_⟩
        by_cases e : j = i
        · rw [e]; exact h
        · exact h2 j (by omega) h7
      · exact Or.inr ⟨by omega, h2, h3⟩

theorem l0_end (ws : List (List UInt8)) (q : Int) (k : Nat) (hq : q = 0 ∨ 1 ≤ q ∧ q ≤ 7) :
    spec_ReadDeed.l0 (k + 2) (ws.map str) (rwords.map str) [0, 2, 1, 1, 1, 1, 0, 0] 8 q 0 0 = if q ≠ 0 ∧ (ws.length : Int) = dmany q + 1 then spec_ReadDeed.l1 k (ws.map str) 1 q 0 0 else some (0, 0, 0, 5) := by
  have hl : (rwords.map str).length = 8 := rfl
  simp only [spec_ReadDeed.l0]
  rw [hl, if_neg (by omega)]
  rcases hq with rfl | ⟨h1, h7⟩
  · rw [if_pos rfl, if_neg (fun h => h.1 rfl)]
    simp only [spec_ReadDeed.j1]
    rw [if_pos trivial]
  · have hm := dmany_range q
    rw [if_neg (by omega), if_pos (by omega), if_pos (by simp; omega), words_num q h1 h7, List.length_map, wrap_in (by omega) (by omega)]
    simp only [spec_ReadDeed.j1]
    by_cases h : (ws.length : Int) = dmany q + 1
    · rw [if_neg (by simp [h]), if_pos ⟨by omega, h⟩]
    · rw [if_pos (by simp [h]), if_neg (fun x => h x.2)]

/-- The reference's reader. -/
theorem readd_ref (l : List UInt8) (k : Nat) (hl : l.length ≤ 1048576) (hk : 1000000200 < k) :
    (∀ j x y, vd j x y = true → dtext j x y = l → spec_ReadDeed.f k (str l) = some (j, x, y, 0)) ∧ ((¬ ∃ j x y, vd j x y = true ∧ dtext j x y = l) → spec_ReadDeed.f k (str l) = some (0, 0, 0, 5)) := by
  have hne : 0 < (spl 32 l).length := by
    have := splAcc_ne 32 l []
    unfold spl
    exact List.length_pos_iff.2 this
  have hsp : spec_l01Split.f k (str l) 32 = some ((spl 32 l).map str) := splitf_ref l 32 k (by omega) (by omega)
  obtain ⟨q, hq, he⟩ := l0_run (spl 32 l) hne 7 1 0 k (by omega) (by omega) (by omega)
  have hf : spec_ReadDeed.f k (str l) = if q ≠ 0 ∧ ((spl 32 l).length : Int) = dmany q + 1 then spec_ReadDeed.l1 (k - 9) ((spl 32 l).map str) 1 q 0 0 else some (0, 0, 0, 5) := by
    unfold spec_ReadDeed.f spec_l08Words.f
    rw [hsp]
    simp only [Option.bind_some]
    refine Eq.trans he ?_
    rw [show k - 7 = (k - 9) + 2 from by omega]
    exact l0_end _ q _ (by rcases hq with ⟨h, _⟩ | ⟨h1, h2, _⟩ <;> omega)
  rw [hf]
  have hw : q ≠ 0 → dword q = (spl 32 l).getD 0 [] := by
    rcases hq with ⟨h, _⟩ | ⟨h1, h2, h3⟩
    · intro h'; exact absurd h h'
    · intro _; exact h3
  constructor
  · rintro j x y hv rfl
    have hb := (vd_iff j x y).1 hv
    have h0 : (spl 32 (dtext j x y)).getD 0 [] = dword j := by rw [spl_dtext]; rfl
    have hqj : q = j := by
      rcases hq with ⟨_, h⟩ | ⟨h1, h2, h3⟩
      · exact absurd h0.symm (h j (by omega) (by omega))
      · exact dword_inj q j (by omega) (by rw [h3, h0])
    subst hqj
    have hn : ((spl 32 (dtext q x y)).length : Int) = dmany q + 1 := by
      rw [spl_dtext]
      have := dmany_range q
      by_cases h0 : dmany q > 0 <;> by_cases h1 : dmany q > 1 <;> simp [h0, h1] <;> omega
    rw [if_pos ⟨by omega, hn⟩]
    exact l1_ok q x y hv _ (by omega)
  · intro hno
    split
    · rename_i hc
      obtain ⟨r, hr, hg⟩ := l1_good l q (k - 9) (by omega) hl (hw hc.1) hc.2
      rw [hr]
      rcases hg with ⟨j, x, y, hv, ht, _⟩ | rfl
      · exact absurd ⟨j, x, y, hv, ht⟩ hno
      · rfl
    · rfl

theorem ReadDeed_pure (s : ByteArray) : laws_FnExactReadDeed.f 1000000300 s = some true := by
  obtain ⟨l, rfl⟩ : ∃ l, s = str l := ⟨_, (str_eq s).symm⟩
  unfold laws_FnExactReadDeed.f
  rw [str_size]
  by_cases hl : ((l.length : Nat) : Int) > 1048576
  · rw [if_pos hl]
  · rw [if_neg hl]
    have h1 := readd_ref l 1000000300 (by omega) (by omega)
    have h2 := readd_prog l 1000000300 (by omega) (by omega)
    by_cases hx : ∃ j x y, vd j x y = true ∧ dtext j x y = l
    · obtain ⟨j, x, y, hv, ht⟩ := hx
      rw [h1.1 j x y hv ht, h2.1 j x y hv ht]
      simp [laws_eqDeed.f]
    · rw [h1.2 hx, h2.2 hx]
      simp [laws_eqDeed.f]

end Go.Proofs.YtjdkhllkncomaaaDoor.V
