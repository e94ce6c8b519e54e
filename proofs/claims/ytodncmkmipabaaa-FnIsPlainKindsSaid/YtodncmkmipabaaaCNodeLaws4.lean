/-
  What functions of this seat compute, part 'NodeLaws4': contracts over their readable predicates. Conditions: each theorem's own hypotheses.
-/
import Derived.Test.YtodncmkmipabaaaBase
import Derived.Test.YtodncmkmipabaaaOpen
import Derived.Test.YtodncmkmipabaaaGen
import Derived.Test.YtodncmkmipabaaaCSmall
import Derived.Test.YtodncmkmipabaaaCOrder
import Derived.Test.YtodncmkmipabaaaCNode
import Derived.Test.YtodncmkmipabaaaCNodeText
import Derived.Test.YtodncmkmipabaaaCNodeValid
import Derived.Test.YtodncmkmipabaaaCNodeSpec
import Derived.Test.YtodncmkmipabaaaCHelpS
import Derived.Test.YtodncmkmipabaaaCNodeHelp
import Derived.Test.YtodncmkmipabaaaCNodeHelp2
import Derived.Test.YtodncmkmipabaaaCNodeTop
import Derived.Test.YtodncmkmipabaaaCNodeCopy
import Derived.Test.YtodncmkmipabaaaCNodeAdd
import Derived.Test.YtodncmkmipabaaaCDraw
import Derived.Test.YtodncmkmipabaaaCNodeDraw
import Derived.Test.YtodncmkmipabaaaCNodeDraw2
import Derived.Test.YtodncmkmipabaaaCNodeLaws3
namespace Go.Proofs
open Go Go.Vc Go.RowKit
set_option maxRecDepth 100000
set_option linter.unusedVariables false
--! C:Small C:Order C:Node C:NodeText C:NodeValid C:NodeSpec C:HelpS C:NodeHelp C:NodeHelp2 C:NodeTop C:NodeCopy C:NodeAdd C:Draw C:NodeDraw C:NodeDraw2 C:NodeLaws3
/-! ## Nodes that are plain -/

theorem c_laws_none (w : World) {Φ : Value → World → Prop} (hk : ∀ w', Ext w w' → Φ (NdC.v ⟨0, 0, ⟨#[]⟩, ⟨none, 0, 0⟩, ⟨none, 0, 0⟩⟩) w') : CallR Try.prog 25 [] w Φ := by
  refine fn_laws_none _ _ ?_
  unfold g_laws_none
  refine letW_i fun w1 hw1 => ?_
  have e1 : Ext w w1 := by rw [hw1]; exact (Ext.refl w).alloc _
  have ra : Row w1 w.heap.size (cN zeroN) 30 := by rw [hw1]; exact Row.new w (cN zeroN) _
  exact outNd (d := ⟨0, 0, ⟨#[]⟩, ⟨none, 0, 0⟩, ⟨none, 0, 0⟩⟩) ra fun w' r' c' => hk w' (e1.chg c' (Nat.le_refl _))

def ndE : Nd := .mk 4 0 ⟨#[]⟩ [] []
def ndA : Nd := .mk 4 0 ⟨#[]⟩ [⟨#[97]⟩] [.mk 0 0 ⟨#[]⟩ [] []]

theorem ndE_at (w : World) : NdAt (fun _ => True) w ⟨4, 0, ⟨#[]⟩, ⟨none, 0, 0⟩, ⟨none, 0, 0⟩⟩ ndE :=
  NdAt.mk _ [] [] [] (SlOf.nil cS w) (SlOf.nil cN w) rfl (fun h => absurd rfl h) (fun h => absurd rfl h) ⟨Nat.zero_le _, Nat.zero_le _, Nat.zero_le _, by simp⟩ (fun _ => rfl) (fun i d x h => by simp at h)

theorem ndA_at {w : World} {g h : Nat} (r : Row w g (([⟨#[97]⟩] : List ByteArray).flatMap cS) 9) (q : Row w h (cN ⟨0, 0, ⟨#[]⟩, ⟨none, 0, 0⟩, ⟨none, 0, 0⟩⟩) 30) :
    NdAt (fun _ => True) w ⟨4, 0, ⟨#[]⟩, ⟨some ⟨g, 0, none⟩, 1, 1⟩, ⟨some ⟨h, 0, none⟩, 1, 1⟩⟩ ndA := by
  refine NdAt.mk ⟨4, 0, ⟨#[]⟩, ⟨some ⟨g, 0, none⟩, 1, 1⟩, ⟨some ⟨h, 0, none⟩, 1, 1⟩⟩ [⟨#[97]⟩] [.mk 0 0 ⟨#[]⟩ [] []] [⟨0, 0, ⟨#[]⟩, ⟨none, 0, 0⟩, ⟨none, 0, 0⟩⟩] (Row.slOf r (Nat.le_refl _))
    (Row.slOf (xs := [(⟨0, 0, ⟨#[]⟩, ⟨none, 0, 0⟩, ⟨none, 0, 0⟩⟩ : NdC)]) (c := cN) (by simpa using q) (Nat.le_refl _)) rfl (fun _ _ _ => trivial) (fun _ _ _ => trivial) ⟨Nat.zero_le _, by unfold maxLen; simp, by unfold maxLen; simp, by intro x hx; simp at hx; rw [hx]; unfold maxLen; decide⟩ (fun e => by cases e) (fun i d y h1 h2 => ?_)
  have : i = 0 := by have := (List.getElem?_eq_some_iff.1 h1).1; simp at this; omega
  subst this
  simp at h1 h2
  subst h1 h2
  exact NdAt.mk _ [] [] [] (SlOf.nil cS w) (SlOf.nil cN w) rfl (fun h => absurd rfl h) (fun h => absurd rfl h) ⟨Nat.zero_le _, Nat.zero_le _, Nat.zero_le _, by simp⟩ (fun _ => rfl) (fun i d x h => by simp at h)

theorem ndE_plain : (vNd ndE && pln ndE) = true := by decide
theorem ndA_plain : (vNd ndA && pln ndA) = false := by
  have : pln ndA = false := by rw [pln_eq]; decide
  rw [this, Bool.and_false]

set_option maxHeartbeats 2000000 in
theorem c_laws_FnIsPlainKinds {w : World} {s : Sl} {bs : List UInt8} (hs : Bytes w s bs) (hm : s.cap ≤ maxLen) : CallR Try.prog 9 [.slice s.a s.len s.cap] w (fun v w' => v = .bool true ∧ Ext w w') := by
  refine fn_laws_FnIsPlainKinds _ _ _ ?_
  unfold g_laws_FnIsPlainKinds
  refine br_d (fun _ => ⟨rfl, Ext.refl _⟩) (fun _ => ?_)
  refine c_spec_DrawIsPlain hs fun c n w2 h2 e2 => ⟨_, _, _, _, _, rfl, local5 fun w13 r13 e13 => ?_⟩
  obtain ⟨k0, k1, k2, k3, k4⟩ := Row.nd (c := c) r13
  simp only [exI k0, exI k1, exS k2, exL k3, exL k4]
  have e013 := e2.trans e13
  have h13 := h2.ext e13
  refine (c_impl_IsPlain h13).go fun w20 e20 => ⟨_, rfl, ?_⟩
  simp only [exI (e20.get k0), exI (e20.get k1), exS (e20.get k2), exL (e20.get k3), exL (e20.get k4)]
  refine (c_spec_IsPlain (h13.ext e20)).go fun w28 e28 => ⟨_, rfl, ?_⟩
  have e1328 := e20.trans e28
  have e028 := e013.trans e1328
  have h28 := h13.ext e1328
  refine br_f (by simp) ?_
  simp only [exI (e1328.get k0), exI (e1328.get k1), exS (e1328.get k2), exL (e1328.get k3), exL (e1328.get k4)]
  refine (c_impl_ValidNode h28).go fun w44 e44 => ⟨_, rfl, ?_⟩
  have e1344 := e1328.trans e44
  have e044 := e028.trans e44
  refine br_i (fun g => ?_) (fun g => ?_)
  · simp only [exI (e1344.get k0), exI (e1344.get k1), exS (e1344.get k2), exL (e1344.get k3), exL (e1344.get k4)]
    exact (c_spec_IsPlain (h28.ext e44)).go fun w52 e52 => ⟨_, rfl, by simp, e044.trans e52⟩
  have hv : vNd n = true := notf g
  have last : ∀ w44, Ext w w44 → CallR Try.prog 21 [NdC.v ⟨4, 0, ⟨#[]⟩, ⟨none, 0, 0⟩, ⟨none, 0, 0⟩⟩] w44 (fun r55 w56 => ∃ b57 : Bool, r55 = .bool b57 ∧ br b57 (letW (w56.alloc (.cells #[.string (⟨#[97]⟩ : ByteArray)] 9)) (fun w58 => CallR Try.prog 25 [] w58 (fun r59 w60 => ∃ n61 : Int, ∃ n62 : Int, ∃ s63 : ByteArray, ∃ l64 : Sl, ∃ l65 : Sl, r59 = .agg #[.int .i64 n61, .int .i64 n62, .string s63, .slice l64.a l64.len l64.cap, .slice l65.a l65.len l65.cap] ∧
      letW (w60.alloc (.cells #[.int .i64 n61, .int .i64 n62, .string s63, .slice l64.a l64.len l64.cap, .slice l65.a l65.len l65.cap] 30)) (fun w66 => CallR Try.prog 21 [.agg #[.int .i64 (4 : Int), .int .i64 (0 : Int), .string (⟨#[]⟩ : ByteArray), .slice (some (⟨w56.heap.size, 0, none⟩ : Addr)) 1 1, .slice (some (⟨w60.heap.size, 0, none⟩ : Addr)) 1 1]] w66 (fun r67 w68 => ∃ b69 : Bool, r67 = .bool b69 ∧ (Value.bool (!b69) = .bool true ∧ Ext w w68)))))) (Value.bool false = .bool true ∧ Ext w w56)) := fun w44 e044 => by
    refine (c_impl_IsPlain (ndE_at w44)).go fun w56 e56 => ⟨_, rfl, ?_⟩
    rw [ndE_plain, brT]
    refine letW_i fun w58 hw58 => ?_
    have e58 : Ext w56 w58 := by rw [hw58]; exact (Ext.refl w56).alloc _
    have r58 : Row w58 w56.heap.size (([⟨#[97]⟩] : List ByteArray).flatMap cS) 9 := by rw [hw58]; exact Row.new w56 _ _
    clear hw58
    refine c_laws_none w58 fun w60 e60 => ⟨_, _, _, _, _, rfl, letW_i fun w66 hw66 => ?_⟩
    have e66 : Ext w60 w66 := by rw [hw66]; exact (Ext.refl w60).alloc _
    have q66 : Row w66 w60.heap.size (cN ⟨0, 0, ⟨#[]⟩, ⟨none, 0, 0⟩, ⟨none, 0, 0⟩⟩) 30 := by rw [hw66]; exact Row.new w60 (cN ⟨0, 0, ⟨#[]⟩, ⟨none, 0, 0⟩, ⟨none, 0, 0⟩⟩) _
    clear hw66
    refine (c_impl_IsPlain (ndA_at ((r58.ext e60).ext e66) q66)).go fun w68 e68 => ⟨_, rfl, by rw [ndA_plain]; rfl, ((((e044.trans e56).trans e58).trans e60).trans e66).trans e68⟩
  simp only [exI (e1344.get k0), beqI]
  refine br_d (fun h4 => last w44 e044) (fun h4 => br_i (fun _ => last w44 e044) (fun hp => ?_))
  have hk4 : n.k ≠ 4 := by rw [← h2.out.1]; exact h4
  rw [hv, pln_eq] at hp
  simp [hk4] at hp
end Go.Proofs
