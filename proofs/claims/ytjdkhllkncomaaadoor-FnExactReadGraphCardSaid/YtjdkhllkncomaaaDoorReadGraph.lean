/-
  The program's ReadGraph returns what the reference's returns, for all arguments: the law FnExactReadGraph answers true at every text. Conditions: none but the row's own (the listed tables and errors of Go's library read as their initialisers lay them, which the card ties to the program's text).
-/
import Derived.Test.YtjdkhllkncomaaaDoorBaseV
import Derived.Test.YtjdkhllkncomaaaDoorGRead
namespace Go.Proofs.YtjdkhllkncomaaaDoor.fnExactReadGraph
open Go.ChangeShapes Go.WideShapes Go.ChangeAt Go.RowKit Go.Joins WideBase

section
variable {H : Type} {enc : TypeId × Value → H} {W W' : World} {base : Nat} {v0 : Value} {d0 : DataW H} {p0 : List MemPlace}

theorem fin (hW' : DataW.Whole enc Tryd.prog Tryd.f12.params.toList Rows.fnExactReadGraphSpec.vars false W [v0] [d0] [] (p0)) (h0 : DataW.Trod enc Tryd.prog W 0 (fun _ => true) true 9 v0 d0 p0) (bel : Below W.heap.size W W') :
    Rows.fnExactReadGraphSpec.post enc Tryd.prog Tryd.f12 false true false false W #[v0] (.bool true) W' := by
  have lt0 : ∀ x ∈ p0, x.block < W.heap.size := by obtain ⟨m, hm⟩ := h0; exact DataW.trod_lt m _ _ _ hm
  exact ⟨_, _, _, [], _, [], hW', trodAll_mk1 (shut_bool Tryd.underlying4 _), trodAll_mk1 (Below.trod laidOut (by kernel_rfl) (of_decide_eq_true (by kernel_rfl)) h0 bel lt0), rfl, bel.frame _, fun h => by cases h⟩

set_option maxRecDepth 100000 in
theorem opened0 (hv0 : Value.okWide Tryd.prog W .any base 9 v0) (h0 : DataW.Trod enc Tryd.prog W 0 (fun _ => true) true 9 v0 d0 p0) : ∃ a0 : ByteArray, v0 = .string a0 := by
  obtain ⟨a0, rfl, _, _, _⟩ := Go.ChangeMaps.open_string Tryd.underlying9 hv0 h0
  exact ⟨a0, rfl⟩

end

set_option maxRecDepth 100000 in
theorem lifted (os : Os) (started : os.Started) (H : Type) (enc : TypeId × Value → H) (F : Stop.Interp) :
    ReturnsInHanded {} Tryd.checked os 12 .any ((OpenSpec.ofChange Rows.fnExactReadGraphSpec).preRow enc Tryd.prog Tryd.f12 Rows.fnExactReadGraphRow.domain false Rows.fnExactReadGraphRow.laid) (((OpenSpec.ofChange Rows.fnExactReadGraphSpec).at F).post enc Tryd.prog Tryd.f12 false true false false) := by
  have hx : ∃ places, DataW.whole enc Tryd.prog ((World.laidAll Tryd.prog os laid7).forCall (fun _ _ => 0) ⟨#[], #[.string ByteArray.empty], []⟩).memory Tryd.f12.params.toList Rows.fnExactReadGraphSpec.vars false [.string ByteArray.empty] 8 = some ([.lit (.string [])], [], places) := ⟨[], by kernel_rfl⟩
  obtain ⟨places, hx⟩ := hx
  refine returnsInHanded_of_row (C := Tryd.checked) (s := OpenSpec.ofChange Rows.fnExactReadGraphSpec) own started (by kernel_rfl) Tryd.func12
    (witness_row_shaped (enc := enc) (C := Tryd.checked) false (World.laidAll Tryd.prog os laid7) #[.string ByteArray.empty] (World.laidAll_os _ _ _) (World.shaped_of_ZipB (by kernel_rfl) (by kernel_rfl)) (by kernel_rfl)
      (OpenSpec.preRow_of_cond 8 hx (by kernel_rfl) (fun k hk => by cases hk) (by kernel_rfl) (door_met7 os _))) ?_
  intro W base args ds gs before hval0 hW _ _ hsz0 hL hsh _
  clear hsz0
  have hval : ∀ (j : Nat) t v, Tryd.f12.params[j]? = some t → args[j]? = some v → Value.okWide Tryd.prog W .any base t v := hval0
  have hW' := hW
  obtain ⟨p, q, hA0, hV, rfl, hfz, hnd⟩ := hW
  have hA : DataW.TrodAll enc Tryd.prog W 0 (fun _ => true) true Tryd.f12.params.toList args.toList ds p := hA0
  rw [Tryd.params12] at hA hval
  obtain ⟨v0, d0, rfl, rfl, h0⟩ := trodAll_one hA
  obtain ⟨rfl, rfl⟩ := trodVars_none hV
  have hT := tabT_of_laid7 hL hsh
  clear hA0 hval0 hL hA hfz hnd
  simp only [List.append_nil] at hW'
  have o0 := opened0 (hval 0 9 v0 rfl rfl) h0
  have hfin := fun W' bel => fin (W' := W') hW' h0 bel
  clear hW' hval h0
  obtain ⟨a0, rfl⟩ := o0
  refine (G.laws_FnExactReadGraph.calls 1000000300 a0 true W (G.ReadGraph_pure a0) hT).mono fun e W' ⟨he, bel⟩ => ?_
  subst he
  exact ⟨_, rfl, hfin W' bel⟩

theorem said : Rows.FnExactReadGraphSaid :=
  OpenClaim.holds_of_cond 12 Tryd.f12 rfl rfl rfl rfl rfl rfl rfl ⟨rfl, rfl, rfl, rfl, rfl⟩ rfl rfl rfl rfl rfl (by kernel_rfl) Tryd.func12 (by kernel_rfl)
    (of_decide_eq_true (by kernel_rfl)) (by unfold Func.isWrapper; first | (rw [if_pos (by decide +kernel)]; kernel_rfl) | (rw [if_neg (by decide +kernel)]; exact ⟨rfl, rfl⟩))
    (fun os started H enc _ F => by rw [OpenClaim.pre_eq_preRow]; exact lifted os started H enc F)

theorem plain (f : FuncId) (fn : Func) (hf : Tryd.pinned.checked.prog.funcNamed "loop.example/g01169/laws.FnExactReadGraph" = some f) (hfn : Tryd.pinned.checked.prog.funcs[f]? = some fn) :
    true = Tryd.pinned.checked.prog.looks [] ∧ ∀ (j : Nat) t, fn.params[j]? = some t → Tryd.pinned.checked.prog.wantsStandIn t = false := by
  obtain rfl : f = 12 := Option.some.inj ((show Tryd.prog.funcNamed "loop.example/g01169/laws.FnExactReadGraph" = some 12 by kernel_rfl).symm.trans hf) |>.symm
  obtain rfl : fn = Tryd.f12 := (Option.some.inj (Tryd.func12.symm.trans hfn)).symm
  refine ⟨by kernel_rfl, fun j t ht => ?_⟩
  rw [Tryd.params12] at ht
  obtain rfl : t = 9 := by simpa using Array.mem_of_getElem? ht
  exact (show Tryd.prog.wantsStandIn 9 = false by kernel_rfl)

theorem card : Rows.FnExactReadGraphCardSaid :=
  Claim7.holds_tied_plain_at .later [] _ _ _ _ said (fun _ h => by cases h) (by kernel_rfl) (fun _ h => by cases h) fnExactReadGraph_row_tie rfl ⟨rfl, rfl⟩ (by kernel_rfl) rfl plain (by kernel_rfl)
end Go.Proofs.YtjdkhllkncomaaaDoor.fnExactReadGraph
namespace Go.Proofs.YtjdkhllkncomaaaDoor
/-- The claim. -/
theorem fnExactReadGraph_holds : Rows.FnExactReadGraphCardSaid := fnExactReadGraph.card
#print axioms fnExactReadGraph_holds
end Go.Proofs.YtjdkhllkncomaaaDoor
