/-
  Plain laws on texts cut at blanks, and on the numbers in them.
-/
import Derived.Test.YtjdkhllkncomaaaDoorGSplit
import Derived.Lib.SplitLaws
namespace Go.Proofs.YtjdkhllkncomaaaDoor.G
open Go.RowKit Go.Proofs.YtjdkhllkncomaaaDoor Go.Proofs.YtjdkhllkncomaaaDoor.Wide Go.Proofs.YtjdkhllkncomaaaDoorW.PrintWords Go.Proofs.YtjdkhllkncomaaaDoorW.PrintLast Go.Proofs.YtjdkhllkncomaaaDoorW.PrintMore

theorem rd_words (ws : List (List UInt8)) (i : Nat) : rdOf ByteArray.empty (ws.map str) (i : Int) = str (ws.getD i []) := by
  unfold rdOf
  rw [show ((i : Int)).toNat = i from by omega, show ByteArray.empty = str [] from rfl]
  simp only [List.getD_eq_getElem?_getD, List.getElem?_map]
  cases ws[i]? <;> rfl

theorem idx_none (l : List UInt8) (b : UInt8) (h : b ∉ l) : Lib.index l [b] = -1 := by
  refine Lib.index_none fun j hj => ?_
  unfold Lib.occAt
  cases e : l.drop j with
  | nil => rfl
  | cons c r =>
    have : c ≠ b := fun hc => h (hc ▸ List.mem_of_mem_drop (by rw [e]; exact List.mem_cons_self))
    simp [List.isPrefixOf, Ne.symm this]
theorem idx_hit (l r : List UInt8) (b : UInt8) (h : b ∉ l) : Lib.index (l ++ b :: r) [b] = (l.length : Nat) := by
  refine Lib.index_first (by simp) ?_ fun j hj => ?_
  · unfold Lib.occAt
    rw [List.drop_left]
    simp [List.isPrefixOf]
  · unfold Lib.occAt
    have : l[j] ≠ b := fun hc => h (hc ▸ List.getElem_mem hj)
    rw [List.drop_append_of_le_length (by omega), List.drop_eq_getElem_cons hj, List.cons_append]
    simp [List.isPrefixOf, Ne.symm this]

theorem splitK_spl (b : UInt8) : ∀ (n : Nat) (l : List UInt8), l.length ≤ n → Lib.splitK [b] 0 (Lib.count l [b]) l = spl b l := by
  intro n
  induction n with
  | zero =>
    intro l hl
    have : l = [] := List.eq_nil_of_length_eq_zero (by omega)
    subst this
    rw [Lib.count_one]
    rfl
  | succ n ih =>
    intro l hl
    by_cases hm : b ∈ l
    · obtain ⟨p, r, rfl, hp⟩ := List.eq_append_cons_of_mem hm
      rw [Lib.count_one, List.count_append, List.count_eq_zero.2 hp, List.count_cons_self, Nat.zero_add, spl_hit b p r (fun c hc he => hp (he ▸ hc))]
      rw [Lib.splitK, idx_hit p r b hp, if_neg (by simp <;> omega)]
      have e : (p ++ b :: r).drop (((p.length : Nat) : Int).toNat + [b].length) = r := by simp
      rw [e, show ((p.length : Nat) : Int).toNat + 0 = p.length from by simp, List.take_left, ← Lib.count_one, ih r (by simp at hl; omega)]
    · rw [Lib.count_one, List.count_eq_zero.2 hm, spl_none b l (fun c hc he => hm (he ▸ hc))]
      rfl

theorem split_prog (l : List UInt8) (hl : l.length ≤ 1048576) : strings_Split.f (str l) (⟨#[32]⟩ : ByteArray) = some ((spl 32 l).map str) := by
  unfold strings_Split.f
  rw [if_pos ⟨by rw [str_size]; omega, of_decide_eq_true rfl⟩]
  congr 1
  have h := Lib.splitB_data ⟨#[32]⟩ 0 (Lib.countB (str l) ⟨#[32]⟩) (str l)
  have e : (⟨#[32]⟩ : ByteArray).data.toList = [32] := rfl
  rw [e, str_toList] at h
  have h2 := splitK_spl 32 _ l (Nat.le_refl _)
  unfold Lib.countB at h ⊢
  rw [e, str_toList] at h ⊢
  rw [h2] at h
  rw [← h, List.map_map]
  have : ((fun x : List UInt8 => str x) ∘ fun x : ByteArray => x.data.toList) = id := by funext x; exact str_eq x
  have e2 : (str ∘ fun x : ByteArray => x.data.toList) = id := this
  rw [e2, List.map_id]

/-- Parts set together again. -/
def joinB (b : UInt8) : List (List UInt8) → List UInt8
  | [] => []
  | [w] => w
  | w :: x :: r => w ++ b :: joinB b (x :: r)
theorem splAcc_join (b : UInt8) : ∀ (l cur : List UInt8), joinB b (splAcc b cur l) = cur ++ l
  | [], cur => by simp [splAcc, joinB]
  | c :: r, cur => by
    rw [splAcc]
    split
    · rename_i h
      subst h
      have := splAcc_join c r []
      cases e : splAcc c [] r with
      | nil => exact absurd e (splAcc_ne c r [])
      | cons x y => rw [e] at this; rw [joinB, this]; rfl
    · rw [splAcc_join b r (cur ++ [c])]; simp
theorem spl_join (b : UInt8) (l : List UInt8) : joinB b (spl b l) = l := by
  have := splAcc_join b l []; simpa [spl] using this

/-- A plain number's digits are its decimal text. -/
theorem dec_valOf : ∀ (n : Nat) (l : List UInt8), l.length = n → l ≠ [] → (∀ c ∈ l, 48 ≤ c.toNat ∧ c.toNat ≤ 57) → (l.length = 1 ∨ l.head? ≠ some 48) → Lib.decDigits (valOf 0 l).toNat = l := by
  intro n
  induction n with
  | zero => intro l hl hne; exact absurd (List.eq_nil_of_length_eq_zero hl) hne
  | succ n ih =>
    intro l hl hne hd hz
    obtain ⟨p, c, rfl⟩ : ∃ p c, l = p ++ [c] := ⟨l.dropLast, l.getLast hne, (List.dropLast_concat_getLast hne).symm⟩
    have hc := hd c (by simp)
    have hv : valOf 0 (p ++ [c]) = valOf 0 p * 10 + ((c.toNat : Int) - 48) := by rw [valOf_append]; rfl
    have hdg : ∀ m : Nat, m = c.toNat - 48 → UInt8.ofNat (48 + m) = c := by
      intro m hm
      apply UInt8.toNat_inj.1
      rw [UInt8.toNat_ofNat']
      omega
    by_cases hp : p = []
    · subst hp
      rw [hv]
      have e0 : valOf 0 [] = 0 := rfl
      rw [e0, Lib.decDigits, dif_pos (by omega), hdg _ (by omega)]
      rfl
    · have hpl : p.length = n := by simp at hl; omega
      have hp1 : 1 ≤ p.length := by cases p with | nil => exact absurd rfl hp | cons _ _ => simp
      have hh : p.head? ≠ some 48 := by
        rcases hz with h | h
        · simp only [List.length_append, List.length_singleton] at h; omega
        · cases p with
          | nil => exact absurd rfl hp
          | cons x y => simpa using h
      have hi := ih p hpl hp (fun x hx => hd x (by simp [hx])) (Or.inr hh)
      have hb := valOf_bound p 0 0 (fun x hx => hd x (by simp [hx])) (by omega) (by omega)
      have hpos : 1 ≤ valOf 0 p := by
        apply Classical.byContradiction
        intro h
        have z : (valOf 0 p).toNat = 0 := by omega
        rw [z, Lib.decDigits_one (by omega)] at hi
        rw [← hi] at hh
        exact hh rfl
      rw [hv, Lib.decDigits, dif_neg (by omega)]
      rw [show (valOf 0 p * 10 + ((c.toNat : Int) - 48)).toNat / 10 = (valOf 0 p).toNat from by omega, hi, hdg _ (by omega)]

theorem numl_inv (l : List UInt8) (hl : l.length ≤ 9) : ∀ (d i : Nat) (x : Int) (k : Nat) (n : Int), i + d = l.length → 0 ≤ x → x < 10 ^ i → spec_l01Number.l0 k (str l) x i = some (n, true) →
    n = valOf x (l.drop i) ∧ ∀ c ∈ l.drop i, 48 ≤ c.toNat ∧ c.toNat ≤ 57
  | 0, i, x, k, n, hi, h0, h1, h => by
    cases k with
    | zero => simp [spec_l01Number.l0] at h
    | succ k =>
      simp only [spec_l01Number.l0] at h
      rw [str_size, if_neg (by omega)] at h
      rw [List.drop_eq_nil_of_le (by omega)]
      simp at h
      exact ⟨h.symm, fun c hc => by cases hc⟩
  | d + 1, i, x, k, n, hi, h0, h1, h => by
    cases k with
    | zero => simp [spec_l01Number.l0] at h
    | succ k =>
      have hlt : i < l.length := by omega
      have hp : (10 : Int) ^ i ≤ 10 ^ 8 := by
        have : (10 : Nat) ^ i ≤ 10 ^ 8 := Nat.pow_le_pow_right (by omega) (by omega)
        exact_mod_cast this
      simp only [spec_l01Number.l0] at h
      rw [str_size, if_pos (by omega), if_pos (by omega), bt_str l i hlt] at h
      split at h
      · cases h
      · rename_i c0
        split at h
        · cases h
        · rename_i c1
          have e1 : ((l[i].toNat : Int) - 48) % 256 = (l[i].toNat : Int) - 48 := by omega
          rw [e1, wrap_in (x := x * 10) (by omega) (by omega), wrap_in (by omega) (by omega), wrap_in (by omega) (by omega), show ((i : Int) + 1) = ((i + 1 : Nat) : Int) from by omega] at h
          have e : (10 : Int) ^ (i + 1) = 10 ^ i * 10 := Int.pow_succ ..
          have := numl_inv l hl d (i + 1) _ k n (by omega) (by omega) (by rw [e]; omega) h
          rw [List.drop_eq_getElem_cons hlt]
          refine ⟨this.1, fun c hc => ?_⟩
          rcases List.mem_cons.1 hc with rfl | hc
          · omega
          · exact this.2 c hc

/-- What the reference's reader takes for a number is that number's own text. -/
theorem num_inv (l : List UInt8) (k : Nat) (n : Int) (h : spec_l01Number.f k (str l) = some (n, true)) : 0 ≤ n ∧ n < 1000000000 ∧ Lib.itoa n = l := by
  unfold spec_l01Number.f at h
  rw [str_size] at h
  have hj : ∀ b, spec_l01Number.j0 k (str l) b = some (n, true) → b = false ∧ ∃ k', spec_l01Number.l0 k' (str l) 0 0 = some (n, true) := by
    intro b hb
    cases k with
    | zero => simp [spec_l01Number.j0] at hb
    | succ k =>
      simp only [spec_l01Number.j0] at hb
      split at hb
      · cases hb
      · rename_i hb'
        exact ⟨by simpa using hb', k, hb⟩
  split at h
  · have := (hj _ h).1; cases this
  · split at h
    · have := (hj _ h).1; cases this
    · rename_i c1 c2
      rw [if_pos (by omega)] at h
      have key : ∀ b, spec_l01Number.j0 k (str l) b = some (n, true) → (b = false → l.length = 1 ∨ l.head? ≠ some 48) → 0 ≤ n ∧ n < 1000000000 ∧ Lib.itoa n = l := by
        intro b hb hz
        obtain ⟨rfl, k', hk⟩ := hj b hb
        have hz := hz rfl
        have hh := numl_inv l (by omega) l.length 0 0 k' n (by omega) (by omega) (by simp) hk
        rw [List.drop_zero] at hh
        obtain ⟨rfl, hd⟩ := hh
        have hb := valOf_bound l 0 0 hd (by omega) (by omega)
        have hp : (10 : Int) ^ (0 + l.length) ≤ 10 ^ 9 := by
          have : (10 : Nat) ^ (0 + l.length) ≤ 10 ^ 9 := Nat.pow_le_pow_right (by omega) (by omega)
          exact_mod_cast this
        refine ⟨hb.1, by omega, ?_⟩
        rw [itoa_pos hb.1, show (valOf 0 l).natAbs = (valOf 0 l).toNat from by omega]
        exact dec_valOf _ l rfl (by intro e; subst e; simp at c1) hd hz
      have hbt : bt (str l) 0 = ((l[0]'(by omega)).toNat : Int) := bt_str l 0 (by omega)
      have hhd : l.head? = some (l[0]'(by omega)) := by cases l with | nil => simp at c1 | cons a b => rfl
      split at h
      · exact key _ h (fun hb => Or.inl (by simp at hb; omega))
      · rename_i h48
        refine key _ h (fun _ => Or.inr ?_)
        rw [hhd]
        intro e
        apply h48
        rw [hbt, Option.some.inj e]
        rfl

theorem itoa_no32 (v : Int) : ∀ c ∈ Lib.itoa v, c ≠ 32 := by
  intro c hc e
  subst e
  have := itoa_mem v _ hc
  have e32 : (32 : UInt8).toNat = 32 := rfl
  omega

theorem getD_len (ws : List (List UInt8)) (i n : Nat) (h : ∀ x ∈ ws, x.length ≤ n) : (ws.getD i []).length ≤ n := by
  rw [List.getD_eq_getElem?_getD]
  by_cases hi : i < ws.length
  · rw [List.getElem?_eq_getElem hi]; exact h _ (List.getElem_mem hi)
  · rw [List.getElem?_eq_none (by omega)]; simp

/-- The reader at the text of a whole number. -/
theorem num_dec_int (a : Int) (h0 : 0 ≤ a) (h1 : a < 1000000000) (k : Nat) (hk : 11 < k) : spec_l01Number.f k (str (Lib.itoa a)) = some (a, true) := by
  obtain ⟨n, rfl⟩ := Int.eq_ofNat_of_zero_le h0
  rw [itoa_nat]
  exact num_dec n (by omega) k hk

theorem num_good (x : List UInt8) (k : Nat) (hl : x.length ≤ 8000000) (hk : x.length + 1 < k) : ∃ n ok, spec_l01Number.f k (str x) = some (n, ok) ∧ (ok = true → 0 ≤ n ∧ n < 1000000000 ∧ Lib.itoa n = x) := by
  obtain ⟨⟨n, ok⟩, h⟩ := num_some x k hl hk
  refine ⟨n, ok, h, fun e => ?_⟩
  subst e
  exact num_inv x k n h

end Go.Proofs.YtjdkhllkncomaaaDoor.G
