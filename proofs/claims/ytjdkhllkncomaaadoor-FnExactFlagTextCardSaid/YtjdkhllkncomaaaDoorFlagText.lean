/-
  The program's FlagText returns what the reference's returns, for all arguments: the law FnExactFlagText answers true at every flag. Conditions: none but the row's own (the listed tables of Go's library read as their initialisers lay them, which the card ties to the program's text).
-/
import Derived.Test.YtjdkhllkncomaaaDoorBase
import Derived.Test.YtjdkhllkncomaaaDoorRFlagLaw
namespace Go.Proofs.YtjdkhllkncomaaaDoor.fnExactFlagText
open Go.ChangeShapes Go.WideShapes Go.ChangeAt Go.RowKit Go.Joins

theorem c2 : Tryd.prog.cellsOf 2 = 1 := by kernel_rfl
theorem c36 : Tryd.prog.cellsOf 36 = 2 := by kernel_rfl
theorem c34 : Tryd.prog.cellsOf 34 = 1 := by kernel_rfl
theorem c42 : Tryd.prog.cellsOf 42 = 3 := by kernel_rfl

section
variable {H : Type} {enc : TypeId × Value → H} {W W' : World} {base : Nat} {v0 : Value} {d0 : DataW H} {p0 : List MemPlace}

theorem fin (hW' : DataW.Whole enc Tryd.prog Tryd.f6.params.toList Rows.fnExactFlagTextSpec.vars false W [v0] [d0] [] (p0)) (h0 : DataW.Trod enc Tryd.prog W 0 (fun _ => true) true 42 v0 d0 p0) (bel : Below W.heap.size W W') :
    Rows.fnExactFlagTextSpec.post enc Tryd.prog Tryd.f6 false true false false W #[v0] (.bool true) W' := by
  have lt0 : ∀ x ∈ p0, x.block < W.heap.size := by obtain ⟨m, hm⟩ := h0; exact DataW.trod_lt m _ _ _ hm
  exact ⟨_, _, _, [], _, [], hW', trodAll_mk1 (shut_bool Tryd.underlying4 _), trodAll_mk1 (Below.trod laidOut (by kernel_rfl) (of_decide_eq_true (by kernel_rfl)) h0 bel lt0), rfl, bel.frame _, fun h => by cases h⟩

set_option maxRecDepth 100000 in
theorem opened0 (hv0 : Value.okWide Tryd.prog W .any base 42 v0) (h0 : DataW.Trod enc Tryd.prog W 0 (fun _ => true) true 42 v0 d0 p0) : ∃ a0 a1 a2 : Int, v0 = .agg #[.int .i64 a0, .int .i64 a1, .int .u32 a2] ∧ 0 ≤ a2 ∧ a2 < 4294967296 := by
  obtain ⟨cs, rfl, hsz⟩ := okWide_struct Tryd.underlying42 hv0
  obtain ⟨c0, c1, c2_, rfl⟩ := array3 (hsz.trans c42)
  obtain ⟨fuel, hf⟩ := h0
  obtain ⟨y0, y1, n, _, _, hy0, hy1⟩ := trod_struct2 Tryd.underlying42 hf
  simp only [Value.cells, List.drop_zero, c2, c36] at hy0 hy1
  obtain ⟨z0, z1, m, _, _, hz0, hz1⟩ := trod_struct2 Tryd.underlying36 hy1
  simp only [c2, c34] at hz0 hz1
  obtain ⟨a0, e0, rfl, w0⟩ := DataW.trod_int Tryd.underlying2 hy0
  obtain ⟨a1, e1, rfl, w1⟩ := DataW.trod_int Tryd.underlying2 hz0
  obtain ⟨a2, e2, rfl, w2⟩ := DataW.trod_int Tryd.underlying34 hz1
  simp at e0 e1 e2
  subst e0 e1 e2
  have hb := bounds_u32 w2
  exact ⟨a0, a1, a2, rfl, hb.1, by omega⟩

end

set_option maxRecDepth 100000 in
theorem lifted (os : Os) (started : os.Started) (H : Type) (enc : TypeId × Value → H) :
    ReturnsInHanded {} Tryd.checked os 6 .any (fun w args => (Rows.fnExactFlagTextSpec.pre enc Tryd.prog Tryd.f6 [] false w args ∧ laidMetH Tryd.prog laid3 w) ∧ sizedMet enc Tryd.prog Tryd.f6 (OpenSpec.ofChange Rows.fnExactFlagTextSpec) false w args)
      (Rows.fnExactFlagTextSpec.post enc Tryd.prog Tryd.f6 false true false false) := by
  refine returnsInHanded_of_change_and (C := Tryd.checked) (X := fun w _ => laidMetH Tryd.prog laid3 w) (fun _ _ _ hh h => h.of_heap hh) own started (by kernel_rfl) Tryd.func6
    (ChangeSpec.witness_shaped (enc := enc) (C := Tryd.checked) (os := os) (X := fun w _ => laidMetH Tryd.prog laid3 w) false (World.doorLaid Tryd.prog 72 os) #[.agg #[.int .i64 0, .int .i64 0, .int .u32 0]] 8 rfl (World.shaped_of_RefB (by kernel_rfl) (by kernel_rfl)) (by kernel_rfl) (by kernel_rfl) (by kernel_rfl) (door_met os _)) ?_
  intro W base args ds gs before hval0 hW _ hsz0 hL _
  clear hsz0
  have hval : ∀ (j : Nat) t v, Tryd.f6.params[j]? = some t → args[j]? = some v → Value.okWide Tryd.prog W .any base t v := hval0
  have hW' := hW
  obtain ⟨p, q, hA0, hV, rfl, hfz, hnd⟩ := hW
  have hA : DataW.TrodAll enc Tryd.prog W 0 (fun _ => true) true Tryd.f6.params.toList args.toList ds p := hA0
  rw [Tryd.params6] at hA hval
  obtain ⟨v0, d0, rfl, rfl, h0⟩ := trodAll_one hA
  obtain ⟨rfl, rfl⟩ := trodVars_none hV
  have hT := tabT_of_laid hL
  clear hA0 hval0 hL hA hfz hnd
  simp only [List.append_nil] at hW'
  have o0 := opened0 (hval 0 42 v0 rfl rfl) h0
  have hfin := fun W' bel => fin (W' := W') hW' h0 bel
  clear hW' hval h0
  obtain ⟨a0, a1, a2, rfl, b0, b1⟩ := o0
  refine (R.laws_FnExactFlagText.calls 100 a0 a1 a2 true W (R.FlagText_pure a0 a1 a2 b0 b1) hT).mono fun e W' ⟨he, bel⟩ => ?_
  subst he
  exact ⟨_, rfl, hfin W' bel⟩

theorem said : Rows.FnExactFlagTextSaid :=
  OpenClaim.holds_of_wide 6 Tryd.f6 rfl rfl rfl rfl rfl rfl rfl ⟨rfl, rfl, rfl, rfl, rfl⟩ rfl rfl rfl rfl rfl (by kernel_rfl) Tryd.func6 (by kernel_rfl)
    (of_decide_eq_true (by kernel_rfl)) (by unfold Func.isWrapper; first | (rw [if_pos (by decide +kernel)]; kernel_rfl) | (rw [if_neg (by decide +kernel)]; exact ⟨rfl, rfl⟩))
    (fun os started H enc _ => lifted os started H enc)

theorem plain (f : FuncId) (fn : Func) (hf : Tryd.pinned.checked.prog.funcNamed "loop.example/g01169/laws.FnExactFlagText" = some f) (hfn : Tryd.pinned.checked.prog.funcs[f]? = some fn) :
    true = Tryd.pinned.checked.prog.looks [] ∧ ∀ (j : Nat) t, fn.params[j]? = some t → Tryd.pinned.checked.prog.wantsStandIn t = false := by
  obtain rfl : f = 6 := Option.some.inj ((show Tryd.prog.funcNamed "loop.example/g01169/laws.FnExactFlagText" = some 6 by kernel_rfl).symm.trans hf) |>.symm
  obtain rfl : fn = Tryd.f6 := (Option.some.inj (Tryd.func6.symm.trans hfn)).symm
  refine ⟨by kernel_rfl, fun j t ht => ?_⟩
  rw [Tryd.params6] at ht
  obtain rfl : t = 42 := by simpa using Array.mem_of_getElem? ht
  exact (show Tryd.prog.wantsStandIn 42 = false by kernel_rfl)

theorem card : Rows.FnExactFlagTextCardSaid :=
  Claim7.holds_tied_plain_at .later [] _ _ _ _ said (fun _ h => by cases h) (by kernel_rfl) (fun _ h => by cases h) fnExactFlagText_row_tie rfl ⟨rfl, rfl⟩ (by kernel_rfl) rfl plain (by kernel_rfl)
end Go.Proofs.YtjdkhllkncomaaaDoor.fnExactFlagText
namespace Go.Proofs.YtjdkhllkncomaaaDoor
/-- The claim. -/
theorem fnExactFlagText_holds : Rows.FnExactFlagTextCardSaid := fnExactFlagText.card
#print axioms fnExactFlagText_holds
end Go.Proofs.YtjdkhllkncomaaaDoor
