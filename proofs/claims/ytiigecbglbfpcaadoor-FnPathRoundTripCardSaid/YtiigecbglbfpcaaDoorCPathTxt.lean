/-
  What functions of this seat compute, part 'PathTxt': contracts over their readable predicates. Conditions: each theorem's own hypotheses.
-/
import Derived.Test.YtiigecbglbfpcaaDoorBase
import Derived.Test.YtiigecbglbfpcaaDoorOpen
import Derived.Test.YtiigecbglbfpcaaDoorGen
namespace Go.Proofs
open Go Go.Vc Go.RowKit
set_option maxRecDepth 100000
set_option linter.unusedVariables false
--!
/-! ## Texts of pointers -/

theorem c_spec_inRange (n lo hi : Int) (w : World) : CallR Tryd.prog 40 [.int .i64 n, .int .i64 lo, .int .i64 hi] w (fun v w' => v = .bool (decide (lo ≤ n ∧ n ≤ hi)) ∧ Ext w w') := by
  refine fn_spec_inRange _ _ _ _ _ ?_
  unfold g_spec_inRange
  exact br_d (fun h1 => ⟨by simp [h1], Ext.refl _⟩) (fun h1 => ⟨by simp [h1], Ext.refl _⟩)

def isCh (c : UInt8) : Bool := decide (32 ≤ c.toNat ∧ c.toNat ≤ 126)
def okTxt (s : ByteArray) : Bool := s.data.toList.all isCh && decide (s.size ≤ 12)

theorem c_spec_validText (s : ByteArray) (w : World) (hs : s.size ≤ maxLen) : CallR Tryd.prog 35 [.string s] w (fun v w' => v = .bool (okTxt s) ∧ Ext w w') := by
  refine fn_spec_validText _ _ _ ?_
  unfold g_spec_validText
  unfold maxLen at hs
  have hsz := size_eq s
  refine sLoop_list s.data.toList (fun pre _ w' => Ext w w' ∧ pre.all isCh = true) ⟨Ext.refl _, rfl⟩ ?_ ?_
  · intro K pre post c t w1 hx ⟨he, ha⟩ hK _
    have hl := mid_len hx
    have hb := byteAt_mid hx
    have hc := c.toNat_lt
    refine br_dt (by omega) ⟨⟨by omega, by omega⟩, inR_i64 (by rw [hb]; omega) (by rw [hb]; omega), ?_⟩
    rw [hb]
    refine (c_spec_inRange _ _ _ _).go fun w2 e2 => ⟨_, rfl, br_i (fun g => ⟨?_, he.trans e2⟩) (fun g => ⟨inR_i64 (by omega) (by omega), hK _ _ ⟨he.trans e2, ?_⟩⟩)⟩
    · have h1 := of_decide_eq_false (nott g)
      have : isCh c = false := decide_eq_false (by omega)
      simp [okTxt, hx, this]
    · have h1 := of_decide_eq_true (notf g)
      have : isCh c = true := decide_eq_true (by omega)
      simp [ha, this]
  · intro K t w1 ⟨he, ha⟩ _
    refine br_df (by omega) ⟨?_, he⟩
    simp only [okTxt, ha, Bool.true_and]
    congr 2
    rw [eq_iff_iff]; omega

theorem c_impl_isPlainText (s : ByteArray) (w : World) : CallR Tryd.prog 34 [.string s] w (fun v w' => v = .bool (okTxt s) ∧ Ext w w') := by
  refine fn_impl_isPlainText _ _ _ ?_
  unfold g_impl_isPlainText
  have hsz := size_eq s
  refine br_d (fun h1 => ⟨?_, Ext.refl _⟩) (fun h1 => ?_)
  · have : ¬ s.size ≤ 12 := by omega
    simp [okTxt, this]
  refine sLoop_list s.data.toList (fun pre _ w' => Ext w w' ∧ pre.all isCh = true) ⟨Ext.refl _, rfl⟩ ?_ ?_
  · intro K pre post c t w1 hx ⟨he, ha⟩ hK _
    have hl := mid_len hx
    have hb := byteAt_mid hx
    have hc := c.toNat_lt
    have bad : isCh c = false → (Value.bool false = .bool (okTxt s) ∧ Ext w w1) := fun hf => ⟨by simp [okTxt, hx, hf], he⟩
    refine br_dt (by omega) ⟨⟨by omega, by omega⟩, ?_⟩
    rw [hb]
    refine br_d (fun g => bad (decide_eq_false (by omega))) (fun g1 => ⟨⟨by omega, by omega⟩, br_d (fun g => bad (decide_eq_false (by omega))) (fun g2 => ⟨inR_i64 (by omega) (by omega), hK _ _ ⟨he, ?_⟩⟩)⟩)
    have : isCh c = true := decide_eq_true (by omega)
    simp [ha, this]
  · intro K t w1 ⟨he, ha⟩ _
    refine br_df (by omega) ⟨?_, he⟩
    have : s.size ≤ 12 := by omega
    simp [okTxt, ha, this]
end Go.Proofs
