/-
  'FnExactShapeOf' returns true at every input and leaves its arguments as they were. Conditions: none.
-/
import Derived.Test.YtcgfhchmpoaiiaaRows
import Derived.Test.YtcgfhchmpoaiiaaOpen
import Derived.Test.YtcgfhchmpoaiiaaCShapeLaws3
import Derived.WalkKit
import Derived.ProofKit
import Derived.OpenShut
import Derived.ShutString
import Derived.ChangeOld
import Derived.Below
namespace Go.Proofs.Ytcgfhchmpoaiiaa.fnExactShapeOfDone
open Go.Vc Go.ChangeShapes Go.WideShapes Go.ChangeAt Go.RowKit
open Go.ChangeMaps (open_string shut_string)
set_option linter.unusedVariables false

def codes : List Nat := [104, 97, 114, 110, 101, 115, 115, 32, 57, 102, 57, 101, 53, 52, 101, 56, 55, 50, 98, 102, 50, 97, 55, 57, 101, 101, 102, 57, 49, 50, 56, 102, 50, 49, 97, 48, 55, 52, 51, 56, 50, 51, 97, 98, 57, 53, 57, 54, 98, 99, 51, 54, 53, 98, 50, 57, 51, 50, 49, 98, 52, 51, 101, 49, 55, 48, 99, 50, 52, 52, 102, 102, 32, 99, 117, 116, 32, 97, 116, 32, 108, 111, 111, 112, 46, 101, 120, 97, 109, 112, 108, 101, 47, 114, 101, 115, 111, 117, 114, 99, 101, 115, 116, 111, 114, 101, 47, 108, 97, 119, 115, 46, 70, 110, 69, 120, 97, 99, 116, 86, 97, 108, 105, 100, 83, 104, 97, 112, 101, 32, 108, 111, 111, 112, 46, 101, 120, 97, 109, 112, 108, 101, 47, 114, 101, 115, 111, 117, 114, 99, 101, 115, 116, 111, 114, 101, 47, 108, 97, 119, 115, 46, 70, 110, 86, 97, 108, 105, 100, 83, 104, 97, 112, 101, 32, 108, 111, 111, 112, 46, 101, 120, 97, 109, 112, 108, 101, 47, 114, 101, 115, 111, 117, 114, 99, 101, 115, 116, 111, 114, 101, 47, 108, 97, 119, 115, 46, 70, 110, 70, 105, 116, 115, 83, 104, 97, 112, 101, 78, 101, 101, 100, 115, 32, 108, 111, 111, 112, 46, 101, 120, 97, 109, 112, 108, 101, 47, 114, 101, 115, 111, 117, 114, 99, 101, 115, 116, 111, 114, 101, 47, 108, 97, 119, 115, 46, 70, 110, 69, 120, 97, 99, 116, 83, 104, 97, 112, 101, 79, 102, 32, 108, 111, 111, 112, 46, 101, 120, 97, 109, 112, 108, 101, 47, 114, 101, 115, 111, 117, 114, 99, 101, 115, 116, 111, 114, 101, 47, 108, 97, 119, 115, 46, 70, 110, 83, 104, 97, 112, 101, 79, 102]
theorem iniS : Try.prog.initOrder = String.ofList (codes.map Char.ofNat) := by
  conv => lhs; whnf
  kernel_rfl
theorem ini : Try.prog.initOrder.toList = codes.map Char.ofNat := (congrArg String.toList iniS).trans String.toList_ofList
theorem may : Try.prog.mayEnter = true := by
  have key : ∀ s : String, s.toList = codes.map Char.ofNat → Program.mayEnter { Try.prog with initOrder := s } = true := by
    intro s h
    unfold Program.mayEnter
    simp only [h]
    kernel_rfl
  exact key _ ini
theorem made : (Try.prog.make == some Rows.fnExactShapeOfRow.make) = true := by
  have key : ∀ s : String, s.toList = codes.map Char.ofNat → (Program.make { Try.prog with initOrder := s } == some Rows.fnExactShapeOfRow.make) = true := by
    intro s h
    unfold Program.make Program.headLifts
    simp only [h]
    kernel_rfl
  exact key _ ini
theorem finals : (Rows.fnExactShapeOfRow.lifted == Try.prog.liftsFinal) = true := by
  have key : ∀ s : String, s.toList = codes.map Char.ofNat → (Rows.fnExactShapeOfRow.lifted == Program.liftsFinal { Try.prog with initOrder := s }) = true := by
    intro s h
    unfold Program.liftsFinal Program.headLifts
    simp only [h]
    kernel_rfl
  exact key _ ini
theorem own : ownKnob Try.prog.godebug = none := by kernel_rfl
theorem laidOut : laidOutB Try.prog = true := by kernel_rfl

set_option maxRecDepth 100000 in
theorem lifted (os : Os) (started : os.Started) (H : Type) (enc : TypeId × Value → H) :
    ReturnsInHanded {} Try.checked os 6 .any (Rows.fnExactShapeOfSpec.pre6 enc Try.prog Try.f6 Rows.fnExactShapeOfRow.domain false) (Rows.fnExactShapeOfSpec.post enc Try.prog Try.f6 false true false false) := by
  refine returnsInHanded_of_change (C := Try.checked) own started (by kernel_rfl) Try.func6
    (ChangeSpec.witness6 (enc := enc) (C := Try.checked) false ⟨#[], #[.agg #[.int .i64 0, .int .i64 0, .string ByteArray.empty, .slice none 0 0, .slice none 0 0]], []⟩ 8 (by kernel_rfl) (by kernel_rfl) (by kernel_rfl) (by kernel_rfl)) ?_
  intro W base args ds gs before hval0 hW hcnd _
  have hval : ∀ (j : Nat) t v, Try.f6.params[j]? = some t → args[j]? = some v → Value.okWide Try.prog W .any base t v := hval0
  have hW' := hW
  obtain ⟨p, q, hA0, hV, rfl, hfz, hnd⟩ := hW
  have hA : DataW.TrodAll enc Try.prog W 0 (fun _ => true) true Try.f6.params.toList args.toList ds p := hA0
  rw [show Try.f6.params.toList = [46] from rfl] at hA
  obtain ⟨v0, vs0, d0, ds0, p0, q0, hargs, rfl, rfl, h0, r0⟩ := trodAll_cons hA
  obtain ⟨rfl, rfl, rfl⟩ := trodAll_nil r0
  obtain rfl : args = #[v0] := by cases args; simp_all
  obtain ⟨rfl, rfl⟩ := trodVars_none hV
  have k0 := h0
  have lt0 : ∀ x ∈ p0, x.block < W.heap.size := by obtain ⟨m, hm⟩ := k0; exact DataW.trod_lt m _ _ _ hm
  obtain ⟨cs0, hcs0⟩ := okWide_struct Try.underlying46 (hval 0 46 v0 rfl rfl)
  obtain ⟨c0, n0, rfl, b0⟩ := read_node hcs0 h0
  clear hA0 hval0
  refine ((c_laws_FnExactShapeOf b0).calls (by kernel_rfl)).mono fun e W' ⟨v, he, hv, bel⟩ => ?_
  subst he hv
  exact ⟨_, rfl, _, _, _, [], _, [], hW', trodAll_mk1 (shut_bool Try.underlying4 _), (trodAll_cons_mk (Below.trod laidOut (by kernel_rfl) (of_decide_eq_true (by kernel_rfl)) k0 bel lt0) trodAll_mk0), rfl, bel.frame _, fun h => by cases h⟩

theorem facts : joinedFacts Try.prog 6 Try.f6 Rows.fnExactShapeOfSpec Rows.fnExactShapeOfRow = true := by
  unfold joinedFacts
  simp only [Bool.and_eq_true]
  repeat' (with_reducible refine And.intro ?_ ?_)
  all_goals first | with_reducible exact may | with_reducible exact made | with_reducible exact finals | (as_aux_lemma => kernel_rfl)

theorem over : Rows.fnExactShapeOfRow.holds Try.pinned (OpenSpec.ofChange Rows.fnExactShapeOfSpec) :=
  OpenClaim.holds_of_wide 6 Try.f6 rfl rfl rfl rfl rfl rfl rfl ⟨rfl, rfl, rfl, rfl, rfl⟩ rfl rfl rfl rfl rfl (by as_aux_lemma => kernel_rfl) Try.func6 facts
    (of_decide_eq_true (by kernel_rfl)) (by unfold Func.isWrapper; first | (rw [if_pos (by decide +kernel)]; kernel_rfl) | (rw [if_neg (by decide +kernel)]; exact ⟨rfl, rfl⟩))
    (fun os started H enc _ => lifted os started H enc)

theorem fnExactShapeOf_holds : Rows.FnExactShapeOfSaid := over
#print axioms fnExactShapeOf_holds
end Go.Proofs.Ytcgfhchmpoaiiaa.fnExactShapeOfDone
