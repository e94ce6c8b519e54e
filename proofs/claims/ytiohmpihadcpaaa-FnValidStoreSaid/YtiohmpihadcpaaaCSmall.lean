/-
  What functions of this seat compute, part 'Small': contracts over their readable predicates. Conditions: each theorem's own hypotheses.
-/
import Derived.Test.YtiohmpihadcpaaaBase
import Derived.Test.YtiohmpihadcpaaaOpen
import Derived.Test.YtiohmpihadcpaaaGen
namespace Go.Proofs
open Go Go.Vc Go.RowKit
set_option maxRecDepth 100000
set_option linter.unusedVariables false
--!
/-! ## Ranges and names -/

theorem c_spec_inRange (n lo hi : Int) (w : World) : CallR Try.prog 41 [.int .i64 n, .int .i64 lo, .int .i64 hi] w (fun v w' => v = .bool (decide (lo ≤ n ∧ n ≤ hi)) ∧ Ext w w') := by
  refine fn_spec_inRange _ _ _ _ _ ?_
  unfold g_spec_inRange
  exact br_d (fun h1 => ⟨by simp [h1], Ext.refl _⟩) (fun h1 => ⟨by simp [h1], Ext.refl _⟩)

def isLet (c : UInt8) : Bool := (97 ≤ c.toNat && c.toNat ≤ 122) || (48 ≤ c.toNat && c.toNat ≤ 57)
def vName (s : ByteArray) : Bool := s.data.toList.all isLet && decide (1 ≤ s.size ∧ s.size ≤ 8)

theorem seqB_nil (s : ByteArray) : seqB s (⟨#[]⟩ : ByteArray) = decide (s.size = 0) := by
  rw [seqB_eq]
  congr 1
  rw [eq_iff_iff]
  constructor
  · rintro rfl; rfl
  · intro h
    cases s
    simp only [ByteArray.size] at h
    congr
    exact Array.eq_empty_of_size_eq_zero h

theorem c_spec_validName (s : ByteArray) (w : World) (hs : s.size ≤ maxLen) : CallR Try.prog 39 [.string s] w (fun v w' => v = .bool (vName s) ∧ Ext w w') := by
  refine fn_spec_validName _ _ _ ?_
  unfold g_spec_validName
  unfold maxLen at hs
  have hsz := size_eq s
  refine sLoop_list s.data.toList (fun pre _ w' => Ext w w' ∧ pre.all isLet = true) ⟨Ext.refl _, rfl⟩ ?_ ?_
  · intro K pre post c t w1 hx ⟨he, ha⟩ hK _
    have hl := mid_len hx
    have hb := byteAt_mid hx
    have hc := c.toNat_lt
    refine br_dt (by omega) ⟨⟨by omega, by omega⟩, inR_i64 (by rw [hb]; omega) (by rw [hb]; omega), ?_⟩
    refine (c_spec_inRange _ _ _ _).go fun w2 e2 => ⟨_, rfl, ?_⟩
    rw [hb]
    refine br_i (fun h1 => ?_) (fun h1 => ?_)
    · refine ⟨⟨by omega, by omega⟩, inR_i64 (by omega) (by omega), ?_⟩
      refine (c_spec_inRange _ _ _ _).go fun w3 e3 => ⟨_, rfl, ?_⟩
      refine br_i (fun h2 => ?_) (fun h2 => ?_)
      · refine ⟨?_, (he.trans e2).trans e3⟩
        have : isLet c = false := by simp [isLet] at *; omega
        simp [vName, hx, this]
      · refine ⟨inR_i64 (by omega) (by omega), hK _ _ ⟨(he.trans e2).trans e3, ?_⟩⟩
        have : isLet c = true := by simp [isLet] at *; omega
        simp [ha, this]
    · refine ⟨inR_i64 (by omega) (by omega), hK _ _ ⟨he.trans e2, ?_⟩⟩
      have : isLet c = true := by simp [isLet] at *; omega
      simp [ha, this]
  · intro K t w1 ⟨he, ha⟩ _
    refine br_df (by omega) ((c_spec_inRange _ _ _ _).go fun w2 e2 => ⟨_, rfl, ?_, he.trans e2⟩)
    simp only [vName, ha, Bool.true_and]
    congr 2
    rw [eq_iff_iff]; omega

theorem c_impl_isName (s : ByteArray) (w : World) : CallR Try.prog 23 [.string s] w (fun v w' => v = .bool (vName s) ∧ Ext w w') := by
  refine fn_impl_isName _ _ _ ?_
  unfold g_impl_isName
  have hsz := size_eq s
  rw [seqB_nil]
  refine br_d (fun h1 => ⟨by simp [vName, h1], Ext.refl _⟩) (fun h1 => br_d (fun h2 => ⟨?_, Ext.refl _⟩) (fun h2 => ?_))
  · have : ¬ s.size ≤ 8 := by omega
    simp [vName, this]
  refine sLoop_list s.data.toList (fun pre _ w' => Ext w w' ∧ pre.all isLet = true) ⟨Ext.refl _, rfl⟩ ?_ ?_
  · intro K pre post c t w1 hx ⟨he, ha⟩ hK _
    have hl := mid_len hx
    have hb := byteAt_mid hx
    have hc := c.toNat_lt
    have no : isLet c = false → ((fun v w' => v = Value.bool (vName s) ∧ Ext w w') (.bool false) w1) := fun hf => ⟨by simp [vName, hx, hf], he⟩
    have yes : isLet c = true → (InR .i64 ((pre.length : Int) + 1) ∧ K ((pre.length : Int) + 1, ()) w1) := fun hf => ⟨inR_i64 (by omega) (by omega), hK _ _ ⟨he, by simp [ha, hf]⟩⟩
    have hb0 : ((0 : Int) ≤ pre.length ∧ (pre.length : Int) < (s.size : Int)) := ⟨by omega, by omega⟩
    refine br_dt (by omega) ⟨hb0, ?_⟩
    rw [hb]
    refine br_d (fun g1 => ⟨hb0, br_d (fun g2 => no ?_) (fun g2 => ⟨hb0, br_d (fun g3 => no ?_) (fun g3 => yes ?_)⟩)⟩) (fun g1 => ⟨hb0, br_d (fun g2 => ⟨hb0, br_d (fun g3 => no ?_) (fun g3 => ⟨hb0, br_d (fun g4 => no ?_) (fun g4 => yes ?_)⟩)⟩) (fun g2 => yes ?_)⟩)
    all_goals (simp [isLet]; omega)
  · intro K t w1 ⟨he, ha⟩ _
    refine br_df (by omega) ⟨?_, he⟩
    have h3 : 1 ≤ s.size ∧ s.size ≤ 8 := by omega
    simp [vName, ha, h3]
end Go.Proofs
