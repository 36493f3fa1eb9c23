/-
  A row of texts that is read, and a variable of numbers that is stored into; strings.CutPrefix in the printed form.
-/
import Derived.Test.YtjdkhllkncomaaaDoorPrimV
namespace Go.Proofs.YtjdkhllkncomaaaDoor
open Go.RowKit Go.Proofs.YtjdkhllkncomaaaDoorW.PrintWords
namespace Wide

/-- A cell that holds no text. -/
def noStr : Value → Bool
  | .string _ => false
  | _ => true

/-- A row of texts that is read is none of a variable's cells, where these hold no text. -/
theorem C_far_box {w : World} {A : Option Addr} {n : Nat} {xs : List ByteArray} {g t : Nat} {cs : Array Value} (h : Kd.C Kd.string w A n xs) (hb : w.heap[g]? = some (.cells cs t (0, 0))) (hcs : cs.toList.all noStr = true) (o : Nat) (u : Value) : Kd.C Kd.string (w.setCell ⟨g, o, none⟩ u) A n xs := by
  refine Kd.C_keep ByteArray.empty h ((KeepBut.refl w g none).set_ o u) ?_
  rintro ad rfl hn e
  have hr := Kd.reads_of_C (d := ByteArray.empty) h
  obtain ⟨ad', e', hc⟩ := hr.2.2 hn
  obtain rfl := Option.some.inj e'
  have h0 := hc 0 hn
  have hnot : ∀ (i : Nat) (x : Value), cs[i]? = some x → noStr x = true := fun i x hx => List.all_eq_true.1 hcs x (Array.mem_toList_iff.2 (Array.mem_of_getElem? hx))
  have key : ∀ s : ByteArray, w.cell? (ad.add 0) ≠ some (.string s) := by
    intro s hs
    have hbl : (ad.add 0).block = g := by rw [add_block]; exact e
    unfold World.cell? at hs
    rw [hbl, hb] at hs
    simp only at hs
    split at hs
    · cases hs
    have := hnot _ _ hs
    simp [noStr] at this
  exact key _ h0

def strings_CutPrefix.f (a0 a1 : ByteArray) : Option (ByteArray × Bool) := some (⟨(Lib.trimPrefix a0.data.toList a1.data.toList).toArray⟩, Lib.hasPrefix a0.data.toList a1.data.toList)

theorem strings_CutPrefix.calls (a0 a1 : ByteArray) (r1 : ByteArray) (r2 : Bool) (w : World) (h : strings_CutPrefix.f a0 a1 = some (r1, r2)) (_hT : TabT w) :
    Calls Tryd.prog 92 #[.string a0, .string a1] w fun e w' => e = .returned (.tuple #[.string r1, .bool r2]) ∧ Below w.heap.size w w' := by
  unfold strings_CutPrefix.f at h
  simp only [Option.some.injEq, Prod.mk.injEq] at h
  obtain ⟨rfl, rfl⟩ := h
  refine (Tryd.strings_CutPrefix a0 a1 w).mono ?_
  rintro e w' ⟨rfl, rfl⟩
  exact ⟨rfl, Below.refl _ _⟩

end Wide
end Go.Proofs.YtjdkhllkncomaaaDoor
