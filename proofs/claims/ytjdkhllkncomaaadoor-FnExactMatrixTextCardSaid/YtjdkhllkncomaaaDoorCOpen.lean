/-
  A slice that came in, opened as a row of records that is read: for rows whose parameters hold slices of records, or slices of these.
-/
import Derived.Test.YtjdkhllkncomaaaDoorWWords
import Derived.Test.YtjdkhllkncomaaaDoorProg
namespace Go.Proofs.YtjdkhllkncomaaaDoor
open Go.RowKit Go.Proofs.YtjdkhllkncomaaaDoorW.PrintWords
namespace COpen
variable {H : Type} {enc : TypeId × Value → H} {P : Program} {w : World} {base : Nat} {sp : Nat → Bool} {held : Bool}

theorem add_add (ad : Addr) (i j : Nat) : (ad.add i).add j = ad.add (i + j) := by
  unfold Addr.add
  by_cases h1 : i = 0 <;> by_cases h2 : j = 0 <;> simp [h1, h2, Nat.add_assoc]

/-- A slice, opened. -/
theorem of_trod {α : Type} (d : Kd α) {t e : TypeId} {fuel : Nat} {cs : List Value} {x : DataW H × List MemPlace} (ht : P.underlying t = some (.slice e)) (hsz : P.cellsOf e = d.sz)
    (hE : ∀ (n : Nat) (c : List Value) (y : DataW H × List MemPlace), DataW.trod enc P w base sp held n e c = some y → c.length = d.sz → ∃ a : α, d.K w a c) (h : DataW.trod enc P w base sp held fuel t cs = some x) :
    ∃ (A : Option Addr) (cap : Nat) (l : List α), cs = [.slice A l.length cap] ∧ l.length ≤ cap ∧ Kd.C d w A l.length l := by
  rcases DataW.trod_slice ht h with ⟨rfl, _⟩ | ⟨a, len, cap, elems, rest, n, _, rfl, _, _, hl, hcap, hlen, hel, _⟩
  · exact ⟨none, 0, [], rfl, Nat.le_refl _, Kd.C_nil d w⟩
  · have H : ∀ i : Fin len, ∃ a' : α, ∃ c : List Value, c.length = d.sz ∧ d.K w a' c ∧ ∀ j u, c[j]? = some u → w.cell? (a.add (i.1 * d.sz + j)) = some u := by
      intro i
      have hi := hel i.1 i.2
      rw [hsz] at hi
      have hs : ∃ y, elems[i.1]? = some y := ⟨elems[i.1]'(by rw [hlen]; exact i.2), List.getElem?_eq_getElem _⟩
      obtain ⟨y, hy⟩ := hs
      rw [hy, Option.bind_eq_some_iff] at hi
      obtain ⟨c, hc, hy2⟩ := hi
      have hcc := World.cells?_some hc
      obtain ⟨a', ha'⟩ := hE _ _ _ hy2 hcc.2.1
      refine ⟨a', c, hcc.2.1, ha', fun j u hu => ?_⟩
      have hj : j < d.sz := by have := (List.getElem?_eq_some_iff.1 hu).1; have := hcc.2.1; omega
      have := hcc.2.2 j hj
      rw [add_add] at this
      rw [this, hu]
    refine ⟨some a, cap, List.ofFn fun i : Fin len => Classical.choose (H i), by rw [List.length_ofFn], by rw [List.length_ofFn]; exact hl, ?_⟩
    refine ⟨rfl, by rw [List.length_ofFn]; simp [maxLen] at hcap; omega, fun _ => ⟨a, rfl, fun j p hp => ?_⟩⟩
    obtain ⟨hj, rfl⟩ := List.getElem?_eq_some_iff.1 hp
    rw [List.length_ofFn] at hj
    rw [List.getElem_ofFn]
    exact Classical.choose_spec (H ⟨j, hj⟩)

end COpen
end Go.Proofs.YtjdkhllkncomaaaDoor
