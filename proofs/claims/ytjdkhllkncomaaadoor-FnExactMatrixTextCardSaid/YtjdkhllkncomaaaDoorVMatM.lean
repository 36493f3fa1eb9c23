/-
  ValidMatrix by hand: the walk.
-/
import Derived.Test.YtjdkhllkncomaaaDoorMatM
import Derived.Test.YtjdkhllkncomaaaDoorPrimT
import Derived.Deep.QuietTactic
import Derived.BigQuiet
namespace Go.Proofs.YtjdkhllkncomaaaDoor
open Go.RowKit Go.Proofs.YtjdkhllkncomaaaDoorW.PrintWords Go.Proofs.YtjdkhllkncomaaaDoorW.PrintLast Go.Proofs.YtjdkhllkncomaaaDoorW.PrintMore
namespace Wide
open Go.Proofs.YtjdkhllkncomaaaDoor.M

/-- Two fractions differ. -/
def differ (x y : S25) : Bool := (!(x.f0 == y.f0)) || (!(x.f1 == y.f1))
def at2 (xs : List (List S25)) (i j : Int) : S25 := rd_T25 (rd_L5 xs i) j
/-- The rest of a row is as the column. -/
def inn (xs : List (List S25)) (i : Int) : Nat → Int → Bool
  | 0, _ => true
  | d + 1, j => if differ (at2 xs j i) (at2 xs i j) = true then false else inn xs i d (j + 1)
def outr (xs : List (List S25)) : Nat → Int → Bool
  | 0, _ => true
  | d + 1, i => if inn xs i xs.length 0 = true then outr xs d (i + 1) else false
/-- A valid matrix. -/
def vm (xs : List (List S25)) : Bool := decide (xs.length ≤ 8) && (xs.all (vrow xs.length) && outr xs xs.length 0)

theorem row_len (xs : List (List S25)) (h : xs.all (vrow xs.length) = true) (i : Int) (h0 : 0 ≤ i) (h1 : i < xs.length) : (rd_L5 xs i).length = xs.length := by
  have hlt : i.toNat < xs.length := by omega
  have := List.all_eq_true.1 h xs[i.toNat] (List.getElem_mem hlt)
  have e : rd_L5 xs i = xs[i.toNat] := by simp [rd_L5, hlt]
  rw [e]
  unfold vrow at this
  simp at this
  exact this.1

set_option maxRecDepth 100000 in
set_option maxHeartbeats 8000000 in
theorem validMatrix_calls (A : Option Addr) (c : Nat) (xs : List (List S25)) (w : World) (hC : Kd.C (Kd.slice 25 k25) w A xs.length xs) :
    Calls Tryd.prog 69 #[.slice A xs.length c] w fun e w' => e = .returned (.bool (vm xs)) ∧ Below w.heap.size w w' := by
  have hu := Tryd.underlying25
  have hmax := Kd.C_max hC
  have hmf : ∀ (fn : Fn) (first cap : Array Value) (w : World), (Instr.makeFunc fn first cap).run Tryd.prog w = .ok (.func fn first cap) w := fun _ _ _ _ => rfl
  have HC := Aside0.mk (Kd.C_alloc hC (.cells #[.slice A xs.length c] 51))
  have HM : Aside0 ((w.alloc (.cells #[.slice A xs.length c] 51)).cell? ⟨w.heap.size, 0, none⟩ = some (.slice A xs.length c)) := ⟨by simp⟩
  have HG : Aside0 (Below w.heap.size w (w.alloc (.cells #[.slice A xs.length c] 51))) := ⟨below_alloc (Below.refl _ _) _⟩
  clear hC
  by_cases h8 : (xs.length : Int) > 8
  · have e : vm xs = false := by unfold vm; rw [decide_eq_false (by omega)]; rfl
    rw [e]
    have c0 : decide (8 < (xs.length : Int)) = true := decide_eq_true h8
    clear h8
    go_enter Tryd.func69, Tryd.ntmps69
    go_wp2
    go_ret
    exact ⟨rfl, HG.out⟩
  · have c0 : decide (8 < (xs.length : Int)) = false := decide_eq_false h8
    have hcall := containsRow_calls w.heap.size xs.length c A A c xs _ HM.out HC.out
    cases hall : xs.all (vrow xs.length) with
    | false =>
      have e : vm xs = false := by unfold vm; rw [hall]; simp
      rw [e]
      rw [hall] at hcall
      clear h8 hall e
      go_enter Tryd.func69, Tryd.ntmps69
      go_wp2_with (go_at_call 105; refine hcall.mono ?_; rintro e w' ⟨rfl, hb'⟩)
      go_ret
      exact ⟨rfl, HG.out.trans (hb'.mono HG.out.size)⟩
    | true =>
      have e : vm xs = outr xs xs.length 0 := by unfold vm; rw [hall, decide_eq_true (by omega)]; simp
      rw [e]
      rw [hall] at hcall
      have HL := Aside0.mk (row_len xs hall)
      clear h8 hall e
      go_enter Tryd.func69, Tryd.ntmps69
      go_wp2_with (go_at_call 105; refine hcall.mono ?_; rintro e w1 ⟨rfl, hb1⟩; have hm1 := cell_below HM.out hb1)
      go_loopg [17] xs.length (fun gg v17 wr => ∃ kk : Nat, kk ≤ xs.length ∧ xs.length - kk ≤ gg ∧ v17 = .int .i64 kk ∧ Aside0 (Below (w.alloc (.cells #[.slice A xs.length c] 51)).heap.size (w.alloc (.cells #[.slice A xs.length c] 51)) wr) ∧ Aside0 (outr xs xs.length 0 = outr xs (xs.length - kk) kk))
      case atStart => exact ⟨0, Nat.zero_le _, by omega, rfl, ⟨hb1⟩, ⟨rfl⟩⟩
      case round =>
        obtain ⟨kk, hkk, hg, rfl, BW, B⟩ := hrel
        have hm := cell_below HM.out BW.out
        by_cases hlt : kk < xs.length
        · have hltz : (kk : Int) < (xs.length : Int) := by omega
          have B2 := B.out
          rw [show xs.length - kk = (xs.length - kk - 1) + 1 from by omega] at B2
          simp only [outr] at B2
          have H2 := Aside0.mk B2
          clear B2 B
          have hlen := HL.out (kk : Int) (by omega) hltz
          obtain ⟨ad, A0, c0', rfl, hx0, hl0, hC0⟩ := at_L5 (Kd.C_below HC.out BW.out) (kk : Int) (by omega) hltz
          rw [show ((kk : Int)).toNat = kk from by omega] at hx0
          have HC0 := Aside0.mk hC0
          clear hC0 hl0
          rw [hlen] at hx0
          clear hlen
          obtain ⟨wo, hwo⟩ : ∃ wo, wo = wr := ⟨wr, rfl⟩
          subst hwo
          go_wp2
          go_loopg [24] xs.length (fun gi v24 wi => ∃ jj : Nat, jj ≤ xs.length ∧ xs.length - jj ≤ gi ∧ v24 = .int .i64 jj ∧ Aside0 (Below wo.heap.size wo wi) ∧ Aside0 (inn xs kk xs.length 0 = inn xs kk (xs.length - jj) jj))
          case atStart => exact ⟨0, Nat.zero_le _, by omega, rfl, ⟨Below.refl _ _⟩, ⟨rfl⟩⟩
          case round =>
            obtain ⟨jj, hjj, hgj, rfl, BI, D⟩ := hrel
            by_cases hjt : jj < xs.length
            · have hjz : (jj : Int) < (xs.length : Int) := by omega
              have hmi := cell_below hm BI.out
              have hlen := HL.out (kk : Int) (by omega) hltz
              have hlen2 := HL.out (jj : Int) (by omega) hjz
              obtain ⟨ad0, rfl, hy0, hy1⟩ := at_T25 (Kd.C_below HC0.out BI.out) (jj : Int) (by omega) (by omega)
              obtain ⟨ad', A1, c1, e1, hz0, hl1, hC1⟩ := at_L5 (Kd.C_below HC.out (BW.out.trans (BI.out.mono BW.out.size))) (jj : Int) (by omega) hjz
              obtain rfl : ad = ad' := Option.some.inj e1
              clear e1
              obtain ⟨ad1, rfl, ht0, ht1⟩ := at_T25 hC1 (kk : Int) (by omega) (by omega)
              rw [hlen2] at hz0
              rw [show ((jj : Int)).toNat = jj from by omega] at hy0 hy1 hz0
              rw [show ((kk : Int)).toNat = kk from by omega] at ht0 ht1
              have D2 := D.out
              rw [show xs.length - jj = (xs.length - jj - 1) + 1 from by omega] at D2
              simp only [inn] at D2
              have ea : at2 xs (jj : Int) (kk : Int) = rd_T25 (rd_L5 xs (jj : Int)) (kk : Int) := rfl
              have eb : at2 xs (kk : Int) (jj : Int) = rd_T25 (rd_L5 xs (kk : Int)) (jj : Int) := rfl
              rw [ea, eb] at D2
              clear ea eb hlen hlen2 hC1 hl1 D
              generalize rd_T25 (rd_L5 xs (jj : Int)) (kk : Int) = x1 at ht0 ht1 D2
              generalize rd_T25 (rd_L5 xs (kk : Int)) (jj : Int) = x0 at hy0 hy1 D2
              have H3 := Aside0.mk D2
              clear D2
              have HW := Aside0.mk (Below.refl wr.heap.size wr)
              go_wp2_with (first
                | ((with_reducible refine gate_dst (N := 6) rfl ?_); refine box_event ?hg (N := 6) ?hd (cs := #[.int .i64 0, .int .i64 0]) (t := 25) ?hr ?_; (case hd => rfl); (case hg => rfl); (case hr => first | (go_simp; done) | (go_simp; rfl)); intro gb hg2 w2 hbox hb; have BK := Aside0.mk hbox; have HB2 := Aside0.mk hb; have hcz0 : w2.cell? ⟨gb, 0, none⟩ = some (.int .i64 0) := (blk_cell BK.out 0).trans rfl; have hcz1 : w2.cell? ⟨gb, 1, none⟩ = some (.int .i64 0) := (blk_cell BK.out 1).trans rfl; have hfz0 := blk_frozen BK.out 0; have hfz1 := blk_frozen BK.out 1; have HGB := Aside0.mk hg2; clear hbox hb hg2)
                | ((with_reducible refine gate_store (t := 25) (p := 6) rfl ?_); refine store_event (t := 25) (p := 6) (v := ?vo_) (w1 := ((w2.setCell ⟨gb, 0, none⟩ (.int .i64 x0.f0)).setCell ⟨gb, 1, none⟩ (.int .i64 x0.f1))) ?hg ?ho ?hn ?hr ?_; (case ho => rfl); (case hg => rfl); (case hn => rfl); (case hr => first | (go_simp; done) | (go_simp; rfl)); intro w3 hw3))
              have HB3 : Below wr.heap.size wr w3 := by rw [hw3]; exact below_set (below_set HB2.out (by rw [HGB.out]; exact Nat.le_refl _)) (by rw [HGB.out]; exact Nat.le_refl _)
              have BK3 : w3.heap[gb]? = some (.cells #[.int .i64 x0.f0, .int .i64 x0.f1] 25 (0, 0)) := by
                rw [hw3]
                refine blk_put (cs := #[.int .i64 x0.f0, .int .i64 0]) ?_ 1 _ rfl
                refine blk_put (cs := #[.int .i64 0, .int .i64 0]) ?_ 0 _ rfl
                exact BK.out
              have hb0 : w3.cell? ⟨gb, 0, none⟩ = some (.int .i64 x0.f0) := (blk_cell BK3 0).trans rfl
              have hb1' : w3.cell? ⟨gb, 1, none⟩ = some (.int .i64 x0.f1) := (blk_cell BK3 1).trans rfl
              clear hw3 hcz0 hcz1 hfz0 hfz1 BK HB2 HGB BK3
              replace hmi := pw_cell_below HB3 hmi
              replace hz0 := pw_cell_below HB3 hz0
              replace ht0 := pw_cell_below HB3 ht0
              replace ht1 := pw_cell_below HB3 ht1
              have HX := Aside0.mk (BI.out.trans (HB3.mono BI.out.size))
              clear HB3 BI HW
              by_cases p0 : x1.f0 = x0.f0
              · by_cases p1 : x1.f1 = x0.f1
                · have hdf : differ x1 x0 = false := by simp [differ, p0, p1]
                  rw [hdf, if_neg (by simp)] at H3
                  clear hdf
                  go_quiet (fail)
                  go_wp2
                  go_roundg (xs.length - (jj + 1))
                  case measure => omega
                  case rel =>
                    refine ⟨jj + 1, by omega, by omega, by go_num, ⟨pw_below_drewN HX.out _⟩, ⟨?_⟩⟩
                    rw [H3.out]
                    congr 1
                · have hdf : differ x1 x0 = true := by simp [differ, p1]
                  rw [hdf, if_pos rfl] at H3
                  clear hdf
                  go_quiet (fail)
                  go_wp2
                  go_ret
                  refine ⟨?_, pw_below_drewN (HG.out.trans ((BW.out.trans (HX.out.mono BW.out.size)).mono HG.out.size)) _⟩
                  rw [H2.out, H3.out, if_neg (by simp)]
                  rfl
              · have hdf : differ x1 x0 = true := by simp [differ, p0]
                rw [hdf, if_pos rfl] at H3
                clear hdf
                go_quiet (fail)
                go_wp2
                go_ret
                refine ⟨?_, pw_below_drewN (HG.out.trans ((BW.out.trans (HX.out.mono BW.out.size)).mono HG.out.size)) _⟩
                rw [H2.out, H3.out, if_neg (by simp)]
                rfl
            · have hjz : ¬ (jj : Int) < (xs.length : Int) := by omega
              have : jj = xs.length := by omega
              subst this
              have D2 := D.out
              rw [Nat.sub_self] at D2
              have H2' := H2.out
              rw [D2] at H2'
              simp only [inn, if_pos] at H2'
              go_wp2
              go_roundg (xs.length - (kk + 1))
              case measure => omega
              case rel =>
                refine ⟨kk + 1, by omega, by omega, by go_num, ⟨BW.out.trans (BI.out.mono BW.out.size)⟩, ⟨?_⟩⟩
                rw [H2']
                congr 1
        · have hltz : ¬ (kk : Int) < (xs.length : Int) := by omega
          have : kk = xs.length := by omega
          subst this
          go_wp2
          go_ret
          refine ⟨?_, HG.out.trans (BW.out.mono HG.out.size)⟩
          rw [B.out, Nat.sub_self]
          rfl

end Wide
namespace WideT
open Go.Proofs.YtjdkhllkncomaaaDoor.M
open Go.Proofs.YtjdkhllkncomaaaDoor.Wide (vm validMatrix_calls cell_lt)
def impl_ValidMatrix.f (l0 : List (List S25)) : Option Bool := some (vm l0)
theorem impl_ValidMatrix.calls (A0 : Option Addr) (c0 : Nat) (l0 : List (List S25)) (r : Bool) (w : World) (hr0 : Kd.C (Kd.slice 25 k25) w A0 l0.length l0) (_hc0 : l0.length ≤ c0) (h : impl_ValidMatrix.f l0 = some r) :
    Calls Tryd.prog 69 #[.slice A0 l0.length c0] w fun e w' => e = .returned (.bool r) ∧ Below w.heap.size w w' := by
  obtain rfl := Option.some.inj h
  exact validMatrix_calls A0 c0 l0 w hr0

/-- strings.Join, where the texts together are not too long. -/
def strings_Join.f (l0 : List ByteArray) (a1 : ByteArray) : Option ByteArray :=
  if 0 < l0.length ∧ l0.length ≤ 140737488355328 ∧ (Lib.join (l0.map (·.data.toList)) a1.data.toList).length ≤ 140737488355328 then some ⟨(Lib.join (l0.map (·.data.toList)) a1.data.toList).toArray⟩ else none
theorem strings_Join.calls (A0 : Option Addr) (c0 : Nat) (l0 : List ByteArray) (a1 r : ByteArray) (w : World) (hr0 : Kd.C Kd.string w A0 l0.length l0) (hc0 : l0.length ≤ c0) (h : strings_Join.f l0 a1 = some r) (_hT : TabT w) :
    Calls Tryd.prog 141 #[.slice A0 l0.length c0, .string a1] w fun e w' => e = .returned (.string r) ∧ Below w.heap.size w w' := by
  unfold strings_Join.f at h
  split at h
  · rename_i hc
    obtain ⟨h0, h1, h2⟩ := hc
    obtain rfl := Option.some.inj h
    have hr := Kd.reads_of_C (d := ByteArray.empty) hr0
    obtain ⟨ad, rfl, hcell⟩ := hr.2.2 h0
    obtain ⟨b, o, sp⟩ := ad
    have hz := hcell 0 h0
    have hsp : sp = none := by
      cases sp with
      | none => rfl
      | some x =>
        exfalso
        rw [Addr.add_zero'] at hz
        unfold World.cell? at hz
        simp at hz
        split at hz <;> simp_all
    subst hsp
    have hlt : b < w.heap.size := cell_lt (b := b) (o := o) (by rw [Addr.add_zero'] at hz; exact hz)
    refine (Tryd.strings_Join b o c0 l0 a1 w (fun j x hx => ?_) hlt h1 hc0 h2).mono fun e w' he => he
    obtain ⟨hj, e⟩ := List.getElem?_eq_some_iff.1 hx
    have := hcell j hj
    rw [List.getD_eq_getElem?_getD, hx] at this
    rw [Addr.add_lit] at this
    exact this
  · cases h

end WideT
end Go.Proofs.YtjdkhllkncomaaaDoor
