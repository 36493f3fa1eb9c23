/-
  ValidMatrix by hand: slices.ContainsFunc over rows with a closure that captures the matrix; the matrix's symmetry.
-/
import Derived.Test.YtjdkhllkncomaaaDoorListM
namespace Go.Proofs.YtjdkhllkncomaaaDoor
open Go.RowKit Go.Proofs.YtjdkhllkncomaaaDoorW.PrintWords Go.Proofs.YtjdkhllkncomaaaDoorW.PrintLast Go.Proofs.YtjdkhllkncomaaaDoorW.PrintMore
namespace Wide
open Go.Proofs.YtjdkhllkncomaaaDoor.M

/-- A row that is right in a matrix of so many rows. -/
def vrow (n : Nat) (row : List S25) : Bool := decide (row.length = n) && vlist row

set_option maxRecDepth 100000 in
set_option maxHeartbeats 1000000 in
theorem clo_calls (gb n cm : Nat) (Am A : Option Addr) (c : Nat) (row : List S25) (w : World) (hm : w.cell? ⟨gb, 0, none⟩ = some (.slice Am n cm)) (hC : Kd.C k25 w A row.length row) :
    Calls Tryd.prog 106 #[.slice A row.length c, .pointer (some ⟨gb, 0, none⟩)] w fun e w' => e = .returned (.bool (!vrow n row)) ∧ Below w.heap.size w w' := by
  have hcall := validList_calls A c row w hC
  have hmax := Kd.C_max hC
  clear hC
  unfold vrow
  generalize hv : vlist row = v at hcall ⊢
  by_cases hl : row.length = n
  · rw [decide_eq_true hl, Bool.true_and]
    have hd : ((row.length : Int) != (n : Int)) = false := bne_eq_false_iff_eq.2 (by omega)
    subst hl
    go_enter Tryd.func106, Tryd.ntmps106
    go_wp2_with (go_at_call 107; refine hcall.mono ?_; rintro e w' ⟨rfl, hb'⟩)
    go_ret
    exact ⟨by simp, hb'⟩
  · rw [decide_eq_false hl, Bool.false_and]
    have hd : ((row.length : Int) != (n : Int)) = true := bne_iff_ne.2 (by omega)
    clear hcall hl
    go_enter Tryd.func106, Tryd.ntmps106
    go_wp2
    go_ret
    exact ⟨rfl, Below.refl _ _⟩

/-- The place of the first row that is not right. -/
def firstRow (n : Nat) : List (List S25) → Int → Int
  | [], _ => -1
  | x :: r, i => if vrow n x = true then firstRow n r (i + 1) else i
theorem firstRow_all (n : Nat) : ∀ (l : List (List S25)) (i : Int), 0 ≤ i → (decide (firstRow n l i ≥ 0) = !l.all (vrow n))
  | [], i, h => by simp [firstRow]
  | x :: r, i, h => by
    unfold firstRow
    by_cases hx : vrow n x = true
    · rw [if_pos hx, firstRow_all n r (i + 1) (by omega)]; simp [hx]
    · rw [if_neg hx]; simp [hx, h]

set_option maxRecDepth 100000 in
set_option maxHeartbeats 2000000 in
theorem idxRow_calls (gb n cm : Nat) (Am A : Option Addr) (c : Nat) (xs : List (List S25)) (w : World) (hm : w.cell? ⟨gb, 0, none⟩ = some (.slice Am n cm)) (hC : Kd.C (Kd.slice 25 k25) w A xs.length xs) :
    Calls Tryd.prog 139 #[.slice A xs.length c, .func (.func 106) #[] #[.pointer (some ⟨gb, 0, none⟩)]] w fun e w' => e = .returned (.int .i64 (firstRow n xs 0)) ∧ Below w.heap.size w w' := by
  have hmax := Kd.C_max hC
  have HC := Aside0.mk hC
  have HM := Aside0.mk hm
  clear hC hm
  have eg : ∀ args w, (callFunc 106 args).run Tryd.prog w = .ok (.enter 106 args) w := enters_of Tryd.func106 (by kernel_rfl) rfl
  go_enter Tryd.func139, Tryd.ntmps139
  go_wp2
  go_loopg [5, 8] xs.length (fun gg _ s8 wr => ∃ kk : Nat, kk ≤ xs.length ∧ xs.length - kk ≤ gg ∧ s8 = .int .i64 kk ∧ Aside0 (Below w.heap.size w wr) ∧ Aside0 (firstRow n xs 0 = firstRow n (xs.drop kk) kk))
  case atStart => exact ⟨0, Nat.zero_le _, by omega, rfl, ⟨Below.refl _ w⟩, ⟨rfl⟩⟩
  case round =>
    obtain ⟨kk, hkk, hg, rfl, BW, B⟩ := hrel
    by_cases hlt : kk < xs.length
    · have hltz : (kk : Int) < (xs.length : Int) := by omega
      obtain ⟨ad, A0, c0, rfl, hx0, hl0, hC0⟩ := at_L5 (Kd.C_below HC.out BW.out) (kk : Int) (by omega) hltz
      rw [show ((kk : Int)).toNat = kk from by omega] at hx0
      have hdrop : xs.drop kk = rd_L5 xs (kk : Int) :: xs.drop (kk + 1) := by
        rw [List.drop_eq_getElem_cons hlt]
        congr 1
        simp [rd_L5, hlt]
      have B2 : firstRow n xs 0 = if vrow n (rd_L5 xs (kk : Int)) = true then firstRow n (xs.drop (kk + 1)) ((kk : Int) + 1) else (kk : Int) := by rw [B.out, hdrop]; rfl
      generalize rd_L5 xs (kk : Int) = y at hx0 hl0 hC0 B2
      have hcall := clo_calls gb n cm Am A0 c0 y wr (cell_below HM.out BW.out) hC0
      have H2 := Aside0.mk B2
      clear B2 B hdrop hC0
      cases hq : vrow n y with
      | false =>
        rw [hq] at hcall
        go_wp2_with (go_at_fn 106; refine hcall.mono ?_; rintro e w' ⟨rfl, hb'⟩)
        go_ret
        refine ⟨?_, BW.out.trans (hb'.mono BW.out.size)⟩
        rw [H2.out, if_neg (by rw [hq]; simp)]
        rfl
      | true =>
        rw [hq] at hcall
        go_wp2_with (go_at_fn 106; refine hcall.mono ?_; rintro e w' ⟨rfl, hb'⟩)
        go_roundg (xs.length - (kk + 1))
        case measure => omega
        case rel =>
          refine ⟨kk + 1, by omega, by omega, by go_num, ⟨BW.out.trans (hb'.mono BW.out.size)⟩, ⟨?_⟩⟩
          rw [H2.out, if_pos hq]
          congr 1
    · have hltz : ¬ (kk : Int) < (xs.length : Int) := by omega
      have : kk = xs.length := by omega
      subst this
      go_wp2
      go_ret
      refine ⟨?_, BW.out⟩
      rw [B.out, List.drop_length]
      rfl

set_option maxRecDepth 100000 in
set_option maxHeartbeats 1000000 in
theorem containsRow_calls (gb n cm : Nat) (Am A : Option Addr) (c : Nat) (xs : List (List S25)) (w : World) (hm : w.cell? ⟨gb, 0, none⟩ = some (.slice Am n cm)) (hC : Kd.C (Kd.slice 25 k25) w A xs.length xs) :
    Calls Tryd.prog 105 #[.slice A xs.length c, .func (.func 106) #[] #[.pointer (some ⟨gb, 0, none⟩)]] w fun e w' => e = .returned (.bool (!xs.all (vrow n))) ∧ Below w.heap.size w w' := by
  rw [← firstRow_all n xs 0 (by omega)]
  have hcall := idxRow_calls gb n cm Am A c xs w hm hC
  clear hC hm
  go_enter Tryd.func105, Tryd.ntmps105
  go_wp2_with (go_at_call 139; refine hcall.mono ?_; rintro e w' ⟨rfl, hb'⟩)
  go_ret
  exact ⟨rfl, hb'⟩

end Wide
end Go.Proofs.YtjdkhllkncomaaaDoor
