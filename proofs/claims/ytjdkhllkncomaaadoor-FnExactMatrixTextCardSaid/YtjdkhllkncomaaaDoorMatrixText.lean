/-
  The program's MatrixText returns what the reference's returns, for all arguments: the law FnExactMatrixText answers true at every list of lists of fractions. Conditions: none but the row's own (the listed tables of Go's library read as their initialisers lay them, which the card ties to the program's text).
-/
import Derived.Test.YtjdkhllkncomaaaDoorBaseT
import Derived.Test.YtjdkhllkncomaaaDoorMMatText
import Derived.Test.YtjdkhllkncomaaaDoorCOpen
namespace Go.Proofs.YtjdkhllkncomaaaDoor.fnExactMatrixText
open Go.ChangeShapes Go.WideShapes Go.ChangeAt Go.RowKit Go.Joins WideBase Go.Proofs.YtjdkhllkncomaaaDoorW.PrintWords

theorem rowmax {A : Option Addr} {w : World} {l : List (List M.S23)} (h : Kd.C (Kd.slice 23 M.k23) w A l.length l) : ∀ r ∈ l, r.length ≤ 9223372036854775807 := by
  intro r hr
  obtain ⟨j, hj, rfl⟩ := List.getElem_of_mem hr
  obtain ⟨ad, A0, c0, _, _, _, hC⟩ := M.at_L2 h (j : Int) (by omega) (by omega)
  have := Kd.C_max hC
  rwa [M.rdL2_at l j hj] at this

theorem c2 : Tryd.prog.cellsOf 2 = 1 := by kernel_rfl

section
variable {H : Type} {enc : TypeId × Value → H} {W W' : World} {base : Nat} {v0 : Value} {d0 : DataW H} {p0 : List MemPlace}

theorem fin (hW' : DataW.Whole enc Tryd.prog Tryd.f7.params.toList Rows.fnExactMatrixTextSpec.vars false W [v0] [d0] [] (p0)) (h0 : DataW.Trod enc Tryd.prog W 0 (fun _ => true) true 48 v0 d0 p0) (bel : Below W.heap.size W W') :
    Rows.fnExactMatrixTextSpec.post enc Tryd.prog Tryd.f7 false true false false W #[v0] (.bool true) W' := by
  have lt0 : ∀ x ∈ p0, x.block < W.heap.size := by obtain ⟨m, hm⟩ := h0; exact DataW.trod_lt m _ _ _ hm
  exact ⟨_, _, _, [], _, [], hW', trodAll_mk1 (shut_bool Tryd.underlying4 _), trodAll_mk1 (Below.trod laidOut (by kernel_rfl) (of_decide_eq_true (by kernel_rfl)) h0 bel lt0), rfl, bel.frame _, fun h => by cases h⟩

set_option maxRecDepth 100000 in
theorem opened0 (hv0 : Value.okWide Tryd.prog W .any base 48 v0) (h0 : DataW.Trod enc Tryd.prog W 0 (fun _ => true) true 48 v0 d0 p0) : ∃ (A : Option Addr) (c : Nat) (l : List (List M.S23)), v0 = .slice A l.length c ∧ l.length ≤ c ∧ Kd.C (Kd.slice 23 M.k23) W A l.length l := by
  obtain ⟨A0, n0, c0, rfl⟩ := okWide_slice Tryd.underlying48 hv0
  clear hv0
  obtain ⟨fuel, hf⟩ := h0
  have key := COpen.of_trod (Kd.slice 23 M.k23) Tryd.underlying48 (by kernel_rfl) (fun n cs y hy _ => by
    have key2 := COpen.of_trod M.k23 Tryd.underlying55 (by kernel_rfl) (fun n cs y hy hlc => by
      obtain ⟨y0, y1, n', _, _, hy0, hy1⟩ := trod_struct2 Tryd.underlying23 hy
      have hl2 : cs.length = 2 := hlc
      match cs, hl2 with
      | [a, b], _ =>
        simp only [c2, List.drop_zero, List.take_succ_cons, List.take_zero, List.drop_succ_cons] at hy0 hy1
        obtain ⟨p, e0, _, _⟩ := DataW.trod_int Tryd.underlying2 hy0
        obtain ⟨q, e1, _, _⟩ := DataW.trod_int Tryd.underlying2 hy1
        simp at e0 e1
        subst e0 e1
        exact ⟨⟨p, q⟩, M.k23_mk W ⟨p, q⟩⟩) hy
    obtain ⟨A, c, l, rfl, hl, hC⟩ := key2
    exact ⟨l, A, c, rfl, hl, hC⟩) hf
  obtain ⟨A, c, l, e, hl, hC⟩ := key
  exact ⟨A, c, l, by simpa [Value.cells] using e, hl, hC⟩

end

set_option maxRecDepth 100000 in
theorem lifted (os : Os) (started : os.Started) (H : Type) (enc : TypeId × Value → H) :
    ReturnsInHanded {} Tryd.checked os 7 .any (fun w args => (Rows.fnExactMatrixTextSpec.pre enc Tryd.prog Tryd.f7 [] false w args ∧ laidMetH Tryd.prog laid3 w) ∧ sizedMet enc Tryd.prog Tryd.f7 (OpenSpec.ofChange Rows.fnExactMatrixTextSpec) false w args)
      (Rows.fnExactMatrixTextSpec.post enc Tryd.prog Tryd.f7 false true false false) := by
  refine returnsInHanded_of_change_and (C := Tryd.checked) (X := fun w _ => laidMetH Tryd.prog laid3 w) (fun _ _ _ hh h => h.of_heap hh) own started (by kernel_rfl) Tryd.func7
    (ChangeSpec.witness_shaped (enc := enc) (C := Tryd.checked) (os := os) (X := fun w _ => laidMetH Tryd.prog laid3 w) false (World.doorLaid Tryd.prog 72 os) #[.slice none 0 0] 8 rfl (World.shaped_of_RefB (by kernel_rfl) (by kernel_rfl)) (by kernel_rfl) (by kernel_rfl) (by kernel_rfl) (door_met3 os _)) ?_
  intro W base args ds gs before hval0 hW _ hsz0 hL _
  clear hsz0
  have hval : ∀ (j : Nat) t v, Tryd.f7.params[j]? = some t → args[j]? = some v → Value.okWide Tryd.prog W .any base t v := hval0
  have hW' := hW
  obtain ⟨p, q, hA0, hV, rfl, hfz, hnd⟩ := hW
  have hA : DataW.TrodAll enc Tryd.prog W 0 (fun _ => true) true Tryd.f7.params.toList args.toList ds p := hA0
  rw [Tryd.params7] at hA hval
  obtain ⟨v0, d0, rfl, rfl, h0⟩ := trodAll_one hA
  obtain ⟨rfl, rfl⟩ := trodVars_none hV
  have hT := tabT_of_laid3 hL
  clear hA0 hval0 hL hA hfz hnd
  simp only [List.append_nil] at hW'
  have o0 := opened0 (hval 0 48 v0 rfl rfl) h0
  have hfin := fun W' bel => fin (W' := W') hW' h0 bel
  clear hW' hval h0
  obtain ⟨A, c, l, rfl, hc0, hC0⟩ := o0
  refine (M.laws_FnExactMatrixText.calls 1000003000 A c l true W hC0 hc0 (M.MatrixText_pure l (Kd.C_max hC0) (rowmax hC0)) hT).mono fun e W' ⟨he, bel⟩ => ?_
  subst he
  exact ⟨_, rfl, hfin W' bel⟩

theorem said : Rows.FnExactMatrixTextSaid :=
  OpenClaim.holds_of_wide 7 Tryd.f7 rfl rfl rfl rfl rfl rfl rfl ⟨rfl, rfl, rfl, rfl, rfl⟩ rfl rfl rfl rfl rfl (by kernel_rfl) Tryd.func7 (by kernel_rfl)
    (of_decide_eq_true (by kernel_rfl)) (by unfold Func.isWrapper; first | (rw [if_pos (by decide +kernel)]; kernel_rfl) | (rw [if_neg (by decide +kernel)]; exact ⟨rfl, rfl⟩))
    (fun os started H enc _ => lifted os started H enc)

theorem plain (f : FuncId) (fn : Func) (hf : Tryd.pinned.checked.prog.funcNamed "loop.example/g01169/laws.FnExactMatrixText" = some f) (hfn : Tryd.pinned.checked.prog.funcs[f]? = some fn) :
    true = Tryd.pinned.checked.prog.looks [] ∧ ∀ (j : Nat) t, fn.params[j]? = some t → Tryd.pinned.checked.prog.wantsStandIn t = false := by
  obtain rfl : f = 7 := Option.some.inj ((show Tryd.prog.funcNamed "loop.example/g01169/laws.FnExactMatrixText" = some 7 by kernel_rfl).symm.trans hf) |>.symm
  obtain rfl : fn = Tryd.f7 := (Option.some.inj (Tryd.func7.symm.trans hfn)).symm
  refine ⟨by kernel_rfl, fun j t ht => ?_⟩
  rw [Tryd.params7] at ht
  obtain rfl : t = 48 := by simpa using Array.mem_of_getElem? ht
  exact (show Tryd.prog.wantsStandIn 48 = false by kernel_rfl)

theorem card : Rows.FnExactMatrixTextCardSaid :=
  Claim7.holds_tied_plain_at .later [] _ _ _ _ said (fun _ h => by cases h) (by kernel_rfl) (fun _ h => by cases h) fnExactMatrixText_row_tie rfl ⟨rfl, rfl⟩ (by kernel_rfl) rfl plain (by kernel_rfl)
end Go.Proofs.YtjdkhllkncomaaaDoor.fnExactMatrixText
namespace Go.Proofs.YtjdkhllkncomaaaDoor
/-- The claim. -/
theorem fnExactMatrixText_holds : Rows.FnExactMatrixTextCardSaid := fnExactMatrixText.card
#print axioms fnExactMatrixText_holds
end Go.Proofs.YtjdkhllkncomaaaDoor
