/-
  Functions of Go's library, and the program's reader of numbers, in the printed form (a Lean function and its contract), given what the library's variables hold (TabT).
-/
import Derived.Test.YtjdkhllkncomaaaDoorShelfS
import Derived.Test.YtjdkhllkncomaaaDoorParse
import Derived.Lib.SmallJoins
import Derived.Lib.AppendIntMem
import Derived.Lib.ItoaLen
import Derived.Lib.AtoiErrMem
import Derived.WalkKit
import Derived.WalkSmall
import Derived.BigCall
namespace Go.Proofs.YtjdkhllkncomaaaDoor
open Go.RowKit
namespace Wide

/-- A literal's length. -/
theorem szL (a : Array UInt8) : (⟨a⟩ : ByteArray).size = a.size := rfl

/-- A cell that holds an interface value. -/
def IfaceAt (w : World) (g : Nat) : Prop := ∃ ev, w.cell? ⟨g, 0, none⟩ = some ev ∧ (ev = .nilIface ∨ ∃ te pe, ev = .iface te pe)

/-- What the library's variables hold: the table of powers of ten; some number; two errors. -/
def TabT (w : World) : Prop :=
  Lib.TabIs Tryd.prog w "internal/strconv.uint64pow10" .u64 Lib.pow10Tab ∧ (∃ m, w.cell? ⟨0, 0, none⟩ = some (.int .i64 m)) ∧ IfaceAt w 1 ∧ IfaceAt w 2

theorem cell_lt {w : World} {b o : Nat} {v : Value} (h : w.cell? ⟨b, o, none⟩ = some v) : b < w.heap.size := World.block_lt_of_cell? w ⟨b, o, none⟩ h

theorem cell_below {w w' : World} {b o : Nat} {v : Value} (h : w.cell? ⟨b, o, none⟩ = some v) (hb : Below w.heap.size w w') : w'.cell? ⟨b, o, none⟩ = some v := by
  rw [hb.cell (p := ⟨b, o, none⟩) (cell_lt h)]; exact h

theorem tabT_below {w w' : World} (h : TabT w) (hb : Below w.heap.size w w') : TabT w' := by
  obtain ⟨h1, ⟨m, h2⟩, ⟨e3, h3, k3⟩, ⟨e4, h4, k4⟩⟩ := h
  exact ⟨Joins.tab_stays (g := 3) (by kernel_rfl) h1 hb (Nat.le_refl _), ⟨m, cell_below h2 hb⟩, ⟨e3, cell_below h3 hb, k3⟩, ⟨e4, cell_below h4 hb, k4⟩⟩

def strconv_FormatInt.f (a0 a1 : Int) : Option ByteArray :=
  if a1 = 10 ∧ -9223372036854775808 ≤ a0 ∧ a0 ≤ 9223372036854775807 then some ⟨(Lib.itoa a0).toArray⟩ else none

theorem strconv_FormatInt.calls (a0 a1 : Int) (r : ByteArray) (w : World) (h : strconv_FormatInt.f a0 a1 = some r) (hT : TabT w) :
    Calls Tryd.prog 100 #[.int .i64 a0, .int .i64 a1] w fun e w' => e = .returned (.string r) ∧ Below w.heap.size w w' := by
  unfold strconv_FormatInt.f at h
  split at h
  · rename_i hc
    obtain ⟨rfl, h0, h1⟩ := hc
    obtain rfl := Option.some.inj h
    refine (Tryd.strconv_FormatInt_10 a0 h0 h1 w hT.1).mono ?_
    rintro e w' ⟨rfl, k, os, rfl⟩
    exact ⟨rfl, Lib.below_grow _ _ (Nat.le_refl _) _ _⟩
  · cases h

def strings_Cut.f (a0 a1 : ByteArray) : Option (ByteArray × ByteArray × Bool) :=
  if a0.size < 4294967281 then some (⟨(Lib.cut a0.data.toList a1.data.toList).1.toArray⟩, ⟨(Lib.cut a0.data.toList a1.data.toList).2.1.toArray⟩, (Lib.cut a0.data.toList a1.data.toList).2.2) else none

theorem strings_Cut.calls (a0 a1 : ByteArray) (r1 r2 : ByteArray) (r3 : Bool) (w : World) (h : strings_Cut.f a0 a1 = some (r1, r2, r3)) (hT : TabT w) :
    Calls Tryd.prog 84 #[.string a0, .string a1] w fun e w' => e = .returned (.tuple #[.string r1, .string r2, .bool r3]) ∧ Below w.heap.size w w' := by
  unfold strings_Cut.f at h
  split at h
  · rename_i hc
    obtain ⟨m, hm⟩ := hT.2.1
    simp only [Option.some.injEq, Prod.mk.injEq] at h
    obtain ⟨rfl, rfl, rfl⟩ := h
    refine (Tryd.strings_Cut a0 a1 m w hc hm).mono ?_
    rintro e w' ⟨rfl, n, rfl⟩
    exact ⟨rfl, below_drewN (Below.refl _ _) _⟩
  · cases h

theorem parse_ok (s : ByteArray) (hlim : s.size ≤ 281474976710656) (v : Int) (h : Lib.parseIntB 64 s.data.toList = .ok v) (w : World) :
    Calls Tryd.prog 89 #[.string s, .int .i64 10, .int .i64 64] w fun e w' => e = .returned (.tuple #[.int .i64 v, .nilIface]) ∧ Below w.heap.size w w' := by
  refine (Tryd.strconv_ParseInt_10_at64_ok s (by omega) v h w).mono ?_
  rintro e w' ⟨rfl, hw⟩
  refine ⟨rfl, ?_⟩
  rcases hw with rfl | ⟨t, rfl⟩
  · exact Below.refl _ _
  · exact Lib.bytesWorld_below _ _ _

/-- strconv.ParseInt where it fails: some number, some error. -/
theorem parse_bad (s : ByteArray) (hlim : s.size ≤ 281474976710656) (h : ∀ v, Lib.parseIntB 64 s.data.toList ≠ .ok v) (w : World) (hT : TabT w) :
    Calls Tryd.prog 89 #[.string s, .int .i64 10, .int .i64 64] w fun e w' => ∃ p, e = .returned (.tuple #[.int .i64 (numN s.data.toList), .iface 194 (.pointer (some p))]) ∧ Below w.heap.size w w' := by
  obtain ⟨_, _, ⟨e3, h3, k3⟩, ⟨e4, h4, k4⟩⟩ := hT
  cases hp : Lib.parseIntB 64 s.data.toList with
  | ok v => exact absurd hp (h v)
  | «syntax» =>
    have hn : numN s.data.toList = 0 := by unfold numN; rw [hp]
    refine (Tryd.strconv_ParseInt_10_at64_syntax s hlim hp e3 w h3 k3).mono ?_
    rintro e w' ⟨N, rfl, -, -, hb⟩
    exact ⟨_, by rw [hn], hb⟩
  | range =>
    have hn : numN s.data.toList = Lib.intSat 64 s.data.toList := by unfold numN; rw [hp]
    refine (Tryd.strconv_ParseInt_10_at64_range s hlim hp e4 w h4 k4).mono ?_
    rintro e w' ⟨N, rfl, -, -, hb⟩
    exact ⟨_, by rw [hn], hb⟩

theorem parse_bounds (l : List UInt8) (v : Int) (h : Lib.parseIntB 64 l = .ok v) : -9223372036854775808 ≤ v ∧ v ≤ 9223372036854775807 := by
  have := Lib.parseIntB_bounds h
  simp at this
  omega

set_option maxHeartbeats 400000 in
theorem decimal_calls (v : Int) (w : World) (h0 : -9223372036854775808 ≤ v) (h1 : v ≤ 9223372036854775807) (hT : TabT w) :
    Calls Tryd.prog 58 #[.int .i64 v] w fun e w' => e = .returned (.string ⟨(Lib.itoa v).toArray⟩) ∧ Below w.heap.size w w' := by
  have hf : strconv_FormatInt.f v 10 = some ⟨(Lib.itoa v).toArray⟩ := by unfold strconv_FormatInt.f; rw [if_pos ⟨rfl, h0, h1⟩]
  have H := Lib.hid hf
  clear hf
  go_enter Tryd.func58, Tryd.ntmps58
  go_wp2_with (go_at_call 100; refine (strconv_FormatInt.calls v 10 _ _ H.out hT).mono ?_; rintro e w' ⟨rfl, hb⟩)
  go_ret
  exact ⟨rfl, hb⟩

/-- The program's reader of numbers. -/
def impl_number.f (a0 : ByteArray) : Option (Int × Bool) := if a0.size ≤ 281474976710656 then some (numN a0.data.toList, numB a0.data.toList) else none

theorem lit_eq (l : List UInt8) (s : ByteArray) : (l == s.toList) = decide (l = s.data.toList) := by
  rw [ByteArray.toList_eq, Bool.eq_iff_iff]
  simp

set_option maxHeartbeats 1000000 in
theorem number_ok (s : ByteArray) (hlim : s.size ≤ 281474976710656) (v : Int) (h : Lib.parseIntB 64 s.data.toList = .ok v) (w : World) (hT : TabT w) :
    Calls Tryd.prog 85 #[.string s] w fun e w' => e = .returned (.tuple #[.int .i64 v, .bool (Lib.itoa v == s.toList)]) ∧ Below w.heap.size w w' := by
  have hb := parse_bounds _ _ h
  have H := Lib.hid h
  clear h
  go_enter Tryd.func85, Tryd.ntmps85
  go_wp2_with (first | (go_at_call 89; refine (parse_ok s hlim v H.out _).mono ?_; rintro e w1 ⟨rfl, hb1⟩) | (go_at_call 58; refine (decimal_calls v _ hb.1 hb.2 (tabT_below hT hb1)).mono ?_; rintro e w2 ⟨rfl, hb2⟩))
  go_ret2
  exact ⟨rfl, hb1.trans (hb2.mono hb1.size)⟩

set_option maxHeartbeats 1000000 in
theorem number_bad (s : ByteArray) (hlim : s.size ≤ 281474976710656) (h : ∀ v, Lib.parseIntB 64 s.data.toList ≠ .ok v) (w : World) (hT : TabT w) :
    Calls Tryd.prog 85 #[.string s] w fun e w' => e = .returned (.tuple #[.int .i64 (numN s.data.toList), .bool false]) ∧ Below w.heap.size w w' := by
  have H := Lib.hid h
  clear h
  go_enter Tryd.func85, Tryd.ntmps85
  go_wp2_with (go_at_call 89; refine (parse_bad s hlim H.out _ hT).mono ?_; rintro e w1 ⟨p, rfl, hb1⟩)
  go_ret2
  exact ⟨rfl, hb1⟩

theorem impl_number.calls (a0 : ByteArray) (r1 : Int) (r2 : Bool) (w : World) (h : impl_number.f a0 = some (r1, r2)) (hT : TabT w) :
    Calls Tryd.prog 85 #[.string a0] w fun e w' => e = .returned (.tuple #[.int .i64 r1, .bool r2]) ∧ Below w.heap.size w w' := by
  unfold impl_number.f at h
  split at h
  · rename_i hc
    simp only [Option.some.injEq, Prod.mk.injEq] at h
    obtain ⟨rfl, rfl⟩ := h
    cases hp : Lib.parseIntB 64 a0.data.toList with
    | ok v =>
      have e1 : numN a0.data.toList = v := by unfold numN; rw [hp]
      have e2 : numB a0.data.toList = decide (Lib.itoa v = a0.data.toList) := by unfold numB; rw [hp]
      rw [e1, e2, ← lit_eq]
      exact number_ok a0 hc v hp w hT
    | «syntax» =>
      have e2 : numB a0.data.toList = false := by unfold numB; rw [hp]
      rw [e2]
      exact number_bad a0 hc (fun v => by rw [hp]; exact fun h => by cases h) w hT
    | range =>
      have e2 : numB a0.data.toList = false := by unfold numB; rw [hp]
      rw [e2]
      exact number_bad a0 hc (fun v => by rw [hp]; exact fun h => by cases h) w hT
  · cases h


end Wide
end Go.Proofs.YtjdkhllkncomaaaDoor
