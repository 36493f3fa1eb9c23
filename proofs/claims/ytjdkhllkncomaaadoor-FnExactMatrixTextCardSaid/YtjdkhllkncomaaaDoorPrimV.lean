/-
  More of Go's library in the printed form: strings.Split; strconv.ParseInt where the error is not looked at.
-/
import Derived.Test.YtjdkhllkncomaaaDoorPrimS
import Derived.Test.YtjdkhllkncomaaaDoorWWords
import Derived.Lib.SplitLaws
namespace Go.Proofs.YtjdkhllkncomaaaDoor
open Go.RowKit Go.Proofs.YtjdkhllkncomaaaDoorW.PrintWords
namespace Wide

def strconv_ParseInt.f (s : ByteArray) (b z : Int) : Option (Int × Int) :=
  if b = 10 ∧ z = 64 ∧ s.size ≤ 281474976710656 then some (numN s.data.toList, 0) else none

theorem strconv_ParseInt.calls (s : ByteArray) (b z r1 r2 : Int) (w : World) (h : strconv_ParseInt.f s b z = some (r1, r2)) (hT : TabT w) :
    Calls Tryd.prog 89 #[.string s, .int .i64 b, .int .i64 z] w fun e w' => ∃ v, e = .returned (.tuple #[.int .i64 r1, v]) ∧ Below w.heap.size w w' := by
  unfold strconv_ParseInt.f at h
  split at h
  · rename_i hc
    obtain ⟨rfl, rfl, hs⟩ := hc
    simp only [Option.some.injEq, Prod.mk.injEq] at h
    obtain ⟨rfl, -⟩ := h
    cases hp : Lib.parseIntB 64 s.data.toList with
    | ok v =>
      have e1 : numN s.data.toList = v := by unfold numN; rw [hp]
      rw [e1]
      refine (parse_ok s hs v hp w).mono ?_
      rintro e w' ⟨rfl, hb⟩
      exact ⟨_, rfl, hb⟩
    | «syntax» =>
      refine (parse_bad s hs (by rw [hp]; intro v hv; cases hv) w hT).mono ?_
      rintro e w' ⟨p, rfl, hb⟩
      exact ⟨_, rfl, hb⟩
    | range =>
      refine (parse_bad s hs (by rw [hp]; intro v hv; cases hv) w hT).mono ?_
      rintro e w' ⟨p, rfl, hb⟩
      exact ⟨_, rfl, hb⟩
  · cases h

def strings_Split.f (a0 a1 : ByteArray) : Option (List ByteArray) :=
  if a0.size < 4294967281 ∧ 1 ≤ a1.size then some (Lib.splitB a1 0 (Lib.countB a0 a1) a0) else none

theorem strings_Split.calls (a0 a1 : ByteArray) (r : List ByteArray) (w : World) (h : strings_Split.f a0 a1 = some r) (hT : TabT w) :
    Calls Tryd.prog 88 #[.string a0, .string a1] w fun e w' => ∃ v0_, e = .returned v0_ ∧ Kd.R Kd.string 9 w' w.heap.size (fun _ => True) v0_ r ∧ Below w.heap.size w w' := by
  unfold strings_Split.f at h
  split at h
  · rename_i hc
    obtain ⟨hs, h1⟩ := hc
    obtain ⟨m, hm⟩ := hT.2.1
    obtain rfl := Option.some.inj h
    refine (Tryd.strings_Split a0 a1 m w hs hm h1).mono ?_
    rintro e w' ⟨rfl, rfl⟩
    have hlen := Lib.splitB_all a1 h1 0 _ a0 rfl
    have hle := Lib.countB_le a1 h1 _ a0 (Nat.le_refl _)
    refine ⟨_, rfl, ?_, below_alloc (Below.refl _ _) _⟩
    refine Kd.R_of_own ?_ (fun _ _ => trivial)
    have hml : Lib.countB a0 a1 + 1 ≤ maxLen := by simp only [maxLen]; omega
    have := World.ownsRow_lit (base := w.heap.size) (e := 9) (size := 1) w ((Lib.splitB a1 0 (Lib.countB a0 a1) a0).map Value.string).toArray (Lib.countB a0 a1 + 1) (Nat.le_refl _) hml (by simp [hlen])
    rw [hlen]
    simpa [encs] using this
  · cases h

end Wide
end Go.Proofs.YtjdkhllkncomaaaDoor
