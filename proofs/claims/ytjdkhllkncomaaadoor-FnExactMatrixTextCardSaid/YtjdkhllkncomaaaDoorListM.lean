/-
  Lists of fractions that are all valid: slices.ContainsFunc over badFraction, and validList, by hand: the print knows no function values.
-/
import Derived.Test.YtjdkhllkncomaaaDoorMx0
import Derived.Test.YtjdkhllkncomaaaDoorVfC
import Derived.Test.YtjdkhllkncomaaaDoorWWords
import Derived.Lib.Walk
namespace Go.Proofs.YtjdkhllkncomaaaDoor
open Go.RowKit Go.Proofs.YtjdkhllkncomaaaDoorW.PrintWords Go.Proofs.YtjdkhllkncomaaaDoorW.PrintLast Go.Proofs.YtjdkhllkncomaaaDoorW.PrintMore
namespace Wide
open Go.Proofs.YtjdkhllkncomaaaDoor.M

/-- A valid fraction. -/
def vfr (x : S25) : Bool := C.vf x.f0 x.f1

set_option maxRecDepth 100000 in
set_option maxHeartbeats 1000000 in
theorem bad_calls (p q : Int) (w : World) : Calls Tryd.prog 115 #[.agg #[.int .i64 p, .int .i64 q]] w fun e w' => e = .returned (.bool (!C.vf p q)) ∧ Below w.heap.size w w' := by
  have hu := Tryd.underlying25
  go_enter Tryd.func115, Tryd.ntmps115
  go_wp2_with (go_at_call 52; refine (C.impl_ValidFraction.calls 1000000001 p q (C.vf p q) _ (C.ok_prog p q _ (by omega))).mono ?_; rintro e w' ⟨rfl, hb⟩)
  go_ret
  exact ⟨rfl, (below_alloc (Below.refl _ _) _).trans (hb.mono (by simp))⟩

/-- The place of the first one that is not valid. -/
def firstBad : List S25 → Int → Int
  | [], _ => -1
  | x :: r, i => if vfr x = true then firstBad r (i + 1) else i
theorem firstBad_all : ∀ (l : List S25) (i : Int), 0 ≤ i → (decide (firstBad l i ≥ 0) = !l.all vfr)
  | [], i, h => by simp [firstBad]
  | x :: r, i, h => by
    unfold firstBad
    by_cases hx : vfr x = true
    · rw [if_pos hx, firstBad_all r (i + 1) (by omega)]; simp [hx]
    · rw [if_neg hx]; simp [hx, h]

set_option maxRecDepth 100000 in
set_option maxHeartbeats 2000000 in
theorem idx_calls (A : Option Addr) (c : Nat) (xs : List S25) (w : World) (hC : Kd.C k25 w A xs.length xs) :
    Calls Tryd.prog 170 #[.slice A xs.length c, .func (.func 115) #[] #[]] w fun e w' => e = .returned (.int .i64 (firstBad xs 0)) ∧ Below w.heap.size w w' := by
  have hu := Tryd.underlying25
  have hmax := Kd.C_max hC
  have HC := Aside0.mk hC
  clear hC
  have eg : ∀ args w, (callFunc 115 args).run Tryd.prog w = .ok (.enter 115 args) w := enters_of Tryd.func115 (by kernel_rfl) rfl
  go_enter Tryd.func170, Tryd.ntmps170
  go_wp2
  go_loopg [5, 8] xs.length (fun gg _ s8 wr => ∃ kk : Nat, kk ≤ xs.length ∧ xs.length - kk ≤ gg ∧ s8 = .int .i64 kk ∧ Aside0 (Below w.heap.size w wr) ∧ Aside0 (firstBad xs 0 = firstBad (xs.drop kk) kk))
  case atStart => exact ⟨0, Nat.zero_le _, by omega, rfl, ⟨Below.refl _ w⟩, ⟨rfl⟩⟩
  case round =>
    obtain ⟨kk, hkk, hg, rfl, BW, B⟩ := hrel
    by_cases hlt : kk < xs.length
    · have hltz : (kk : Int) < (xs.length : Int) := by omega
      obtain ⟨ad, rfl, hx0, hx1⟩ := at_T25 (Kd.C_below HC.out BW.out) (kk : Int) (by omega) hltz
      rw [show ((kk : Int)).toNat = kk from by omega] at hx0 hx1
      have hdrop : xs.drop kk = rd_T25 xs (kk : Int) :: xs.drop (kk + 1) := by
        rw [List.drop_eq_getElem_cons hlt]
        congr 1
        simp [rd_T25, hlt]
      have B2 : firstBad xs 0 = if vfr (rd_T25 xs (kk : Int)) = true then firstBad (xs.drop (kk + 1)) ((kk : Int) + 1) else (kk : Int) := by rw [B.out, hdrop]; rfl
      generalize rd_T25 xs (kk : Int) = y at hx0 hx1 B2
      have hcall := bad_calls y.f0 y.f1 wr
      have H2 := Aside0.mk B2
      clear B2 B hdrop
      cases hq : C.vf y.f0 y.f1 with
      | false =>
        rw [hq] at hcall
        go_wp2_with (go_at_fn 115; refine hcall.mono ?_; rintro e w' ⟨rfl, hb'⟩)
        go_ret
        refine ⟨?_, BW.out.trans (hb'.mono BW.out.size)⟩
        rw [H2.out, if_neg (by unfold vfr; rw [hq]; simp)]
        rfl
      | true =>
        rw [hq] at hcall
        go_wp2_with (go_at_fn 115; refine hcall.mono ?_; rintro e w' ⟨rfl, hb'⟩)
        go_roundg (xs.length - (kk + 1))
        case measure => omega
        case rel =>
          refine ⟨kk + 1, by omega, by omega, by go_num, ⟨BW.out.trans (hb'.mono BW.out.size)⟩, ⟨?_⟩⟩
          rw [H2.out, if_pos (by unfold vfr; exact hq)]
          congr 1
    · have hltz : ¬ (kk : Int) < (xs.length : Int) := by omega
      have : kk = xs.length := by omega
      subst this
      go_wp2
      go_ret
      refine ⟨?_, BW.out⟩
      rw [B.out, List.drop_length]
      rfl

set_option maxRecDepth 100000 in
set_option maxHeartbeats 1000000 in
theorem contains_calls (A : Option Addr) (c : Nat) (xs : List S25) (w : World) (hC : Kd.C k25 w A xs.length xs) :
    Calls Tryd.prog 140 #[.slice A xs.length c, .func (.func 115) #[] #[]] w fun e w' => e = .returned (.bool (!xs.all vfr)) ∧ Below w.heap.size w w' := by
  rw [← firstBad_all xs 0 (by omega)]
  have hcall := idx_calls A c xs w hC
  clear hC
  go_enter Tryd.func140, Tryd.ntmps140
  go_wp2_with (go_at_call 170; refine hcall.mono ?_; rintro e w' ⟨rfl, hb'⟩)
  go_ret
  exact ⟨rfl, hb'⟩

/-- A list that is not too long, all of it valid. -/
def vlist (xs : List S25) : Bool := decide (xs.length ≤ 256) && xs.all vfr

set_option maxRecDepth 100000 in
set_option maxHeartbeats 1000000 in
theorem validList_calls (A : Option Addr) (c : Nat) (xs : List S25) (w : World) (hC : Kd.C k25 w A xs.length xs) :
    Calls Tryd.prog 107 #[.slice A xs.length c] w fun e w' => e = .returned (.bool (vlist xs)) ∧ Below w.heap.size w w' := by
  have hcall := contains_calls A c xs w hC
  have hmax := Kd.C_max hC
  clear hC
  have hmf : ∀ (fn : Fn) (first cap : Array Value) (w : World), (Instr.makeFunc fn first cap).run Tryd.prog w = .ok (.func fn first cap) w := fun _ _ _ _ => rfl
  unfold vlist
  generalize hv : xs.all vfr = v at hcall ⊢
  by_cases hl : (xs.length : Int) ≤ 256
  · rw [decide_eq_true (show xs.length ≤ 256 by omega), Bool.true_and]
    have hd : decide ((xs.length : Int) ≤ 256) = true := decide_eq_true hl
    go_enter Tryd.func107, Tryd.ntmps107
    go_wp2_with (go_at_call 140; refine hcall.mono ?_; rintro e w' ⟨rfl, hb'⟩)
    go_ret
    exact ⟨by simp, hb'⟩
  · rw [decide_eq_false (show ¬ xs.length ≤ 256 by omega), Bool.false_and]
    have hd : decide ((xs.length : Int) ≤ 256) = false := decide_eq_false hl
    clear hcall
    go_enter Tryd.func107, Tryd.ntmps107
    go_wp2
    go_ret
    exact ⟨rfl, Below.refl _ _⟩

end Wide
end Go.Proofs.YtjdkhllkncomaaaDoor
