/-
  'FnValidStore' returns true at every input and leaves its arguments as they were. Conditions: none.
-/
import Derived.Test.YtiohmpihadcpaaaRows
import Derived.Test.YtiohmpihadcpaaaOpen
import Derived.Test.YtiohmpihadcpaaaCStoreLaws2
import Derived.WalkKit
import Derived.ProofKit
import Derived.OpenShut
import Derived.ShutString
import Derived.ChangeOld
import Derived.Below
namespace Go.Proofs.Ytiohmpihadcpaaa.fnValidStoreDone
open Go.Vc Go.ChangeShapes Go.WideShapes Go.ChangeAt Go.RowKit
open Go.ChangeMaps (open_string shut_string)
set_option linter.unusedVariables false

def codes : List Nat := [104, 97, 114, 110, 101, 115, 115, 32, 99, 56, 56, 97, 53, 100, 51, 55, 53, 54, 48, 57, 55, 99, 56, 49, 55, 57, 97, 56, 50, 98, 53, 50, 55, 51, 55, 51, 100, 48, 102, 97, 55, 53, 53, 55, 57, 102, 102, 54, 97, 50, 57, 57, 50, 51, 55, 54, 56, 97, 51, 101, 99, 54, 56, 102, 97, 57, 56, 101, 98, 51, 51, 52, 32, 99, 117, 116, 32, 97, 116, 32, 108, 111, 111, 112, 46, 101, 120, 97, 109, 112, 108, 101, 47, 114, 101, 115, 111, 117, 114, 99, 101, 115, 116, 111, 114, 101, 47, 108, 97, 119, 115, 46, 70, 110, 69, 120, 97, 99, 116, 86, 97, 108, 105, 100, 83, 116, 111, 114, 101, 32, 108, 111, 111, 112, 46, 101, 120, 97, 109, 112, 108, 101, 47, 114, 101, 115, 111, 117, 114, 99, 101, 115, 116, 111, 114, 101, 47, 108, 97, 119, 115, 46, 70, 110, 69, 120, 97, 99, 116, 78, 101, 119, 101, 115, 116, 73, 116, 101, 109, 32, 108, 111, 111, 112, 46, 101, 120, 97, 109, 112, 108, 101, 47, 114, 101, 115, 111, 117, 114, 99, 101, 115, 116, 111, 114, 101, 47, 108, 97, 119, 115, 46, 70, 110, 86, 97, 108, 105, 100, 83, 116, 111, 114, 101, 32, 108, 111, 111, 112, 46, 101, 120, 97, 109, 112, 108, 101, 47, 114, 101, 115, 111, 117, 114, 99, 101, 115, 116, 111, 114, 101, 47, 108, 97, 119, 115, 46, 70, 110, 69, 120, 97, 99, 116, 75, 101, 121, 67, 111, 117, 110, 116]
theorem iniS : Try.prog.initOrder = String.ofList (codes.map Char.ofNat) := by
  conv => lhs; whnf
  kernel_rfl
theorem ini : Try.prog.initOrder.toList = codes.map Char.ofNat := (congrArg String.toList iniS).trans String.toList_ofList
theorem may : Try.prog.mayEnter = true := by
  have key : ∀ s : String, s.toList = codes.map Char.ofNat → Program.mayEnter { Try.prog with initOrder := s } = true := by
    intro s h
    unfold Program.mayEnter
    simp only [h]
    kernel_rfl
  exact key _ ini
theorem made : (Try.prog.make == some Rows.fnValidStoreRow.make) = true := by
  have key : ∀ s : String, s.toList = codes.map Char.ofNat → (Program.make { Try.prog with initOrder := s } == some Rows.fnValidStoreRow.make) = true := by
    intro s h
    unfold Program.make Program.headLifts
    simp only [h]
    kernel_rfl
  exact key _ ini
theorem finals : (Rows.fnValidStoreRow.lifted == Try.prog.liftsFinal) = true := by
  have key : ∀ s : String, s.toList = codes.map Char.ofNat → (Rows.fnValidStoreRow.lifted == Program.liftsFinal { Try.prog with initOrder := s }) = true := by
    intro s h
    unfold Program.liftsFinal Program.headLifts
    simp only [h]
    kernel_rfl
  exact key _ ini
theorem own : ownKnob Try.prog.godebug = none := by kernel_rfl
theorem laidOut : laidOutB Try.prog = true := by kernel_rfl

set_option maxRecDepth 100000 in
theorem lifted (os : Os) (started : os.Started) (H : Type) (enc : TypeId × Value → H) :
    ReturnsInHanded {} Try.checked os 5 .any (Rows.fnValidStoreSpec.pre6 enc Try.prog Try.f5 Rows.fnValidStoreRow.domain false) (Rows.fnValidStoreSpec.post enc Try.prog Try.f5 false true false false) := by
  refine returnsInHanded_of_change (C := Try.checked) own started (by kernel_rfl) Try.func5
    (ChangeSpec.witness6 (enc := enc) (C := Try.checked) false ⟨#[], #[.slice none 0 0], []⟩ 8 (by kernel_rfl) (by kernel_rfl) (by kernel_rfl) (by kernel_rfl)) ?_
  intro W base args ds gs before hval0 hW hcnd _
  have hval : ∀ (j : Nat) t v, Try.f5.params[j]? = some t → args[j]? = some v → Value.okWide Try.prog W .any base t v := hval0
  have hW' := hW
  obtain ⟨p, q, hA0, hV, rfl, hfz, hnd⟩ := hW
  have hA : DataW.TrodAll enc Try.prog W 0 (fun _ => true) true Try.f5.params.toList args.toList ds p := hA0
  rw [show Try.f5.params.toList = [35] from rfl] at hA
  obtain ⟨v0, vs0, d0, ds0, p0, q0, hargs, rfl, rfl, h0, r0⟩ := trodAll_cons hA
  obtain ⟨rfl, rfl, rfl⟩ := trodAll_nil r0
  obtain rfl : args = #[v0] := by cases args; simp_all
  obtain ⟨rfl, rfl⟩ := trodVars_none hV
  have k0 := h0
  have lt0 : ∀ x ∈ p0, x.block < W.heap.size := by obtain ⟨m, hm⟩ := k0; exact DataW.trod_lt m _ _ _ hm
  obtain ⟨a0, l0, c0, e0⟩ := okWide_slice Try.underlying35 (hval 0 35 v0 rfl rfl)
  obtain ⟨s0, x0, rfl, b0, m0⟩ := read_bytes e0 Try.underlying35 Try.underlying5 (by kernel_rfl) h0
  clear hA0 hval0
  refine ((c_laws_FnValidStore b0 m0).calls (by kernel_rfl)).mono fun e W' ⟨v, he, hv, bel⟩ => ?_
  subst he hv
  exact ⟨_, rfl, _, _, _, [], _, [], hW', trodAll_mk1 (shut_bool Try.underlying4 _), (trodAll_cons_mk (Below.trod laidOut (by kernel_rfl) (of_decide_eq_true (by kernel_rfl)) k0 bel lt0) trodAll_mk0), rfl, bel.frame _, fun h => by cases h⟩

theorem facts : joinedFacts Try.prog 5 Try.f5 Rows.fnValidStoreSpec Rows.fnValidStoreRow = true := by
  unfold joinedFacts
  simp only [Bool.and_eq_true]
  repeat' (with_reducible refine And.intro ?_ ?_)
  all_goals first | with_reducible exact may | with_reducible exact made | with_reducible exact finals | (as_aux_lemma => kernel_rfl)

theorem over : Rows.fnValidStoreRow.holds Try.pinned (OpenSpec.ofChange Rows.fnValidStoreSpec) :=
  OpenClaim.holds_of_wide 5 Try.f5 rfl rfl rfl rfl rfl rfl rfl ⟨rfl, rfl, rfl, rfl, rfl⟩ rfl rfl rfl rfl rfl (by as_aux_lemma => kernel_rfl) Try.func5 facts
    (of_decide_eq_true (by kernel_rfl)) (by unfold Func.isWrapper; first | (rw [if_pos (by decide +kernel)]; kernel_rfl) | (rw [if_neg (by decide +kernel)]; exact ⟨rfl, rfl⟩))
    (fun os started H enc _ => lifted os started H enc)

theorem fnValidStore_holds : Rows.FnValidStoreSaid := over
#print axioms fnValidStore_holds
end Go.Proofs.Ytiohmpihadcpaaa.fnValidStoreDone
