/-
  'FnTagsCanonical' returns true at every input and leaves its arguments as they were. Conditions: none.
-/
import Derived.Test.YtpofoikpmafnbaaDoorTie
import Derived.Test.YtpofoikpmafnbaaDoorCards
import Derived.Test.YtpofoikpmafnbaaDoorOpen
import Derived.Test.YtpofoikpmafnbaaDoorCTagsLaws3
import Derived.LaidMore
import Derived.SevenTiedAt
import Derived.Stop.Joined
import Derived.WalkKit
import Derived.ProofKit
import Derived.OpenShut
import Derived.ShutString
import Derived.ChangeOld
import Derived.Below
namespace Go.Proofs.YtpofoikpmafnbaaDoor.fnTagsCanonicalDone
open Go.Vc Go.ChangeShapes Go.WideShapes Go.ChangeAt Go.RowKit
open Go.ChangeMaps (open_string shut_string)
set_option linter.unusedVariables false

def codes : List Nat := [104, 97, 114, 110, 101, 115, 115, 32, 52, 48, 101, 97, 102, 51, 49, 51, 99, 101, 50, 53, 48, 98, 51, 98, 98, 102, 55, 54, 101, 100, 56, 102, 50, 56, 100, 56, 49, 48, 49, 98, 48, 100, 51, 55, 52, 57, 55, 57, 101, 101, 48, 53, 52, 97, 56, 56, 99, 98, 54, 51, 55, 52, 51, 51, 56, 98, 101, 98, 97, 97, 100, 49, 32, 99, 117, 116, 32, 97, 116, 32, 108, 111, 111, 112, 46, 101, 120, 97, 109, 112, 108, 101, 47, 114, 101, 115, 111, 117, 114, 99, 101, 115, 116, 111, 114, 101, 47, 108, 97, 119, 115, 46, 70, 110, 69, 120, 97, 99, 116, 80, 97, 114, 115, 101, 84, 97, 103, 115, 32, 108, 111, 111, 112, 46, 101, 120, 97, 109, 112, 108, 101, 47, 114, 101, 115, 111, 117, 114, 99, 101, 115, 116, 111, 114, 101, 47, 108, 97, 119, 115, 46, 70, 110, 84, 97, 103, 115, 82, 111, 117, 110, 100, 84, 114, 105, 112, 32, 108, 111, 111, 112, 46, 101, 120, 97, 109, 112, 108, 101, 47, 114, 101, 115, 111, 117, 114, 99, 101, 115, 116, 111, 114, 101, 47, 108, 97, 119, 115, 46, 70, 110, 84, 97, 103, 115, 67, 97, 110, 111, 110, 105, 99, 97, 108]
theorem iniS : Tryd.prog.initOrder = String.ofList (codes.map Char.ofNat) := by
  conv => lhs; whnf
  kernel_rfl
theorem ini : Tryd.prog.initOrder.toList = codes.map Char.ofNat := (congrArg String.toList iniS).trans String.toList_ofList
theorem may : Tryd.prog.mayEnter = true := by
  have key : ∀ s : String, s.toList = codes.map Char.ofNat → Program.mayEnter { Tryd.prog with initOrder := s } = true := by
    intro s h
    unfold Program.mayEnter
    simp only [h]
    kernel_rfl
  exact key _ ini
theorem made : (Tryd.prog.make == some Rows.fnTagsCanonicalRow.make) = true := by
  have key : ∀ s : String, s.toList = codes.map Char.ofNat → (Program.make { Tryd.prog with initOrder := s } == some Rows.fnTagsCanonicalRow.make) = true := by
    intro s h
    unfold Program.make Program.headLifts
    simp only [h]
    kernel_rfl
  exact key _ ini
theorem finals : (Rows.fnTagsCanonicalRow.lifted == Tryd.prog.liftsFinal) = true := by
  have key : ∀ s : String, s.toList = codes.map Char.ofNat → (Rows.fnTagsCanonicalRow.lifted == Program.liftsFinal { Tryd.prog with initOrder := s }) = true := by
    intro s h
    unfold Program.liftsFinal Program.headLifts
    simp only [h]
    kernel_rfl
  exact key _ ini
theorem own : ownKnob Tryd.prog.godebug = none := by kernel_rfl
theorem laidOut : laidOutB Tryd.prog = true := by kernel_rfl

/-- The door's own heap, with the pinned table laid. -/
noncomputable def doorW (os : Os) : World := (World.doorLaid Tryd.prog 19 os).setRow ((Tryd.prog.globalNamed "unicode/utf8.first").getD 0) ((Go.Pinned.utf8FirstZ.map fun (n : Nat) => Value.int .u8 (Int.ofNat n)).toArray)
/-- The door's own heap meets the condition. -/
theorem door_met (os : Os) (args : Array Value) : laidMetH Tryd.prog Rows.fnTagsCanonicalRow.laid ((doorW os).forCall (fun _ _ => 0) ⟨#[], args, []⟩).memory :=
  laidMetH_of_parts3 (fuel := 8) (laidMet_of_run' 8 (by kernel_rfl) (by kernel_rfl)) (by kernel_rfl) (by kernel_rfl)

set_option maxRecDepth 100000 in
theorem lifted (os : Os) (started : os.Started) (H : Type) (enc : TypeId × Value → H) :
    ReturnsInHanded {} Tryd.checked os 5 .any (fun w args => (Rows.fnTagsCanonicalSpec.pre enc Tryd.prog Tryd.f5 [] false w args ∧ laidMetH Tryd.prog Rows.fnTagsCanonicalRow.laid w) ∧ sizedMet enc Tryd.prog Tryd.f5 (OpenSpec.ofChange Rows.fnTagsCanonicalSpec) false w args)
      (Rows.fnTagsCanonicalSpec.post enc Tryd.prog Tryd.f5 false true false false) := by
  refine returnsInHanded_of_change_and (C := Tryd.checked) (X := fun w _ => laidMetH Tryd.prog Rows.fnTagsCanonicalRow.laid w) (fun _ _ _ hh h => h.of_heap hh) own started (by kernel_rfl) Tryd.func5
    (ChangeSpec.witness_shaped (enc := enc) (C := Tryd.checked) (os := os) (X := fun w _ => laidMetH Tryd.prog Rows.fnTagsCanonicalRow.laid w) false (doorW os) #[.slice none 0 0] 8 rfl (World.shaped_of_RefB (by kernel_rfl) (by kernel_rfl)) (by kernel_rfl) (by kernel_rfl) (by kernel_rfl) (door_met os _)) ?_
  intro W base args ds gs before hval0 hW _ _ hL _
  have hval : ∀ (j : Nat) t v, Tryd.f5.params[j]? = some t → args[j]? = some v → Value.okWide Tryd.prog W .any base t v := hval0
  have hW' := hW
  obtain ⟨p, q, hA0, hV, rfl, hfz, hnd⟩ := hW
  have hA : DataW.TrodAll enc Tryd.prog W 0 (fun _ => true) true Tryd.f5.params.toList args.toList ds p := hA0
  rw [show Tryd.f5.params.toList = [28] from rfl] at hA
  obtain ⟨v0, vs0, d0, ds0, p0, q0, hargs, rfl, rfl, h0, r0⟩ := trodAll_cons hA
  obtain ⟨rfl, rfl, rfl⟩ := trodAll_nil r0
  obtain rfl : args = #[v0] := by cases args; simp_all
  obtain ⟨rfl, rfl⟩ := trodVars_none hV
  have k0 := h0
  have lt0 : ∀ x ∈ p0, x.block < W.heap.size := by obtain ⟨m, hm⟩ := k0; exact DataW.trod_lt m _ _ _ hm
  obtain ⟨a0, l0, c0, e0⟩ := okWide_slice Tryd.underlying28 (hval 0 28 v0 rfl rfl)
  obtain ⟨s0, x0, rfl, b0, m0⟩ := read_bytes e0 Tryd.underlying28 Tryd.underlying5 (by kernel_rfl) h0
  clear hA0 hval0
  refine ((c_laws_FnTagsCanonical b0 m0).calls (by kernel_rfl)).mono fun e W' ⟨v, he, hv, bel⟩ => ?_
  subst he hv
  exact ⟨_, rfl, _, _, _, [], _, [], hW', trodAll_mk1 (shut_bool Tryd.underlying4 _), (trodAll_cons_mk (Below.trod laidOut (by kernel_rfl) (of_decide_eq_true (by kernel_rfl)) k0 bel lt0) trodAll_mk0), rfl, bel.frame _, fun h => by cases h⟩

theorem facts : joinedFacts Tryd.prog 5 Tryd.f5 Rows.fnTagsCanonicalSpec Rows.fnTagsCanonicalRow = true := by
  unfold joinedFacts
  simp only [Bool.and_eq_true]
  repeat' (with_reducible refine And.intro ?_ ?_)
  all_goals first | with_reducible exact may | with_reducible exact made | with_reducible exact finals | (as_aux_lemma => kernel_rfl)

theorem over : Rows.fnTagsCanonicalRow.holds Tryd.pinned (OpenSpec.ofChange Rows.fnTagsCanonicalSpec) :=
  OpenClaim.holds_of_wide 5 Tryd.f5 rfl rfl rfl rfl rfl rfl rfl ⟨rfl, rfl, rfl, rfl, rfl⟩ rfl rfl rfl rfl rfl (by as_aux_lemma => kernel_rfl) Tryd.func5 facts
    (of_decide_eq_true (by kernel_rfl)) (by unfold Func.isWrapper; first | (rw [if_pos (by decide +kernel)]; kernel_rfl) | (rw [if_neg (by decide +kernel)]; exact ⟨rfl, rfl⟩))
    (fun os started H enc _ => lifted os started H enc)

theorem fnTagsCanonical_holds : Rows.FnTagsCanonicalCardSaid :=
  Claim7.holds_tied_plain_at .later [] Rows.fnTagsCanonicalCard.laidKinds Rows.fnTagsCanonicalCard.laidTests Rows.fnTagsCanonicalCard.stood.harness Rows.fnTagsCanonicalCard.stood.looks
    over (fun _ h => by cases h) (by kernel_rfl) (fun _ h => by cases h) fnTagsCanonical_row_tie rfl ⟨rfl, rfl⟩ (by kernel_rfl) rfl
    (fun f fn hf hfn => by
      obtain rfl : f = 5 := Option.some.inj ((show Tryd.prog.funcNamed Rows.fnTagsCanonicalRow.func = some 5 by kernel_rfl).symm.trans hf) |>.symm
      obtain rfl : fn = Tryd.f5 := (Option.some.inj (Tryd.func5.symm.trans hfn)).symm
      exact ⟨by kernel_rfl, fun j t ht => by
        rw [show Tryd.f5.params = #[28] from rfl] at ht
        have hm : t ∈ [28] := by simpa using Array.mem_of_getElem? ht
        have hall : ([28].all fun u => !Tryd.prog.wantsStandIn u) = true := by kernel_rfl
        exact (show Tryd.prog.wantsStandIn t = false by simpa using List.all_eq_true.1 hall t hm)⟩)
    (by kernel_rfl)
#print axioms fnTagsCanonical_holds
end Go.Proofs.YtpofoikpmafnbaaDoor.fnTagsCanonicalDone
