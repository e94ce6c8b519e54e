/-
  What functions of this seat compute, part 'LeaseLaws': contracts over their readable predicates. Conditions: each theorem's own hypotheses.
-/
import Derived.Test.YtcgmjkokkclciaaBase
import Derived.Test.YtcgmjkokkclciaaOpen
import Derived.Test.YtcgmjkokkclciaaGen
import Derived.Test.YtcgmjkokkclciaaCLease
import Derived.Test.YtcgmjkokkclciaaCLease2
import Derived.Test.YtcgmjkokkclciaaCLease3
import Derived.Test.YtcgmjkokkclciaaCLeaseHelp
namespace Go.Proofs
open Go Go.Vc Go.RowKit
set_option maxRecDepth 100000
set_option linter.unusedVariables false
--! C:Lease C:Lease2 C:Lease3 C:LeaseHelp
/-! ## Leases: laws over lists as they come in -/

theorem c_laws_FnExactValidLeases {w : World} {s : Sl} {xs : List Lz} (h : Leases w s xs) (hc : s.cap ≤ maxLen) (hs : ∀ x ∈ xs, x.1.size ≤ maxLen) :
    CallR Try.prog 3 [.slice s.a s.len s.cap] w (fun v w' => v = .bool true ∧ Ext w w') := by
  refine fn_laws_FnExactValidLeases _ _ _ ?_
  unfold g_laws_FnExactValidLeases
  have m1 : xs.length ≤ maxLen := by rw [← h.len]; exact Nat.le_trans h.cap hc
  refine (c_laws_szLeaseS _ h (by omega) (by omega) m1 hs).mono ?_
  rintro _ w1 ⟨hv, e1⟩
  rcases hv with rfl | ⟨rfl, hpos⟩
  · exact ⟨_, rfl, br_dt (by omega) ⟨rfl, e1⟩⟩
  have z1 := sizeL_nonneg xs
  have b1 : xs.length ≤ 1048576 := by omega
  refine ⟨_, rfl, br_df (by omega) (toL (h.ext e1) b1 fun x0 w2 _ h2 _ e2 => ⟨x0, rfl, ?_⟩)⟩
  have e02 := e1.trans e2
  refine (c_spec_validLeases h2 m1 hs |> c_spec_ValidLeases).go fun w3 e3 => ⟨_, rfl, ?_⟩
  have e03 := e02.trans e3
  refine toL (h.ext e03) b1 fun x1 w4 _ h4 _ e4 => ⟨x1, rfl, ?_⟩
  have e04 := e03.trans e4
  refine (c_impl_ValidLeases h4).go fun w5 e5 => ⟨_, rfl, br_f (by simp) ?_⟩
  have e05 := e04.trans e5
  refine toL (h.ext e05) b1 fun x2 w6 _ h6 _ e6 => ⟨x2, rfl, ?_⟩
  have e06 := e05.trans e6
  refine (c_laws_eqLeaseS ((h4.ext e5).ext e6) h6 m1).go fun w7 e7 => ⟨_, rfl, br_f (by simp) ⟨rfl, e06.trans e7⟩⟩

theorem c_laws_FnExactHolderOf {w : World} {s : Sl} {xs : List Lz} (h : Leases w s xs) (hc : s.cap ≤ maxLen) (hs : ∀ x ∈ xs, x.1.size ≤ maxLen) (name : ByteArray) (_ : name.size ≤ maxLen) (now : Int) (_ : (Lit.int .i64 now).wf = true) :
    CallR Try.prog 5 [.slice s.a s.len s.cap, .string name, .int .i64 now] w (fun v w' => v = .bool true ∧ Ext w w') := by
  refine fn_laws_FnExactHolderOf _ _ _ _ _ ?_
  unfold g_laws_FnExactHolderOf
  have m1 : xs.length ≤ maxLen := by rw [← h.len]; exact Nat.le_trans h.cap hc
  refine br_d (fun _ => ⟨rfl, Ext.refl _⟩) (fun _ => ?_)
  refine (c_laws_szLeaseS _ h (by omega) (by omega) m1 hs).mono ?_
  rintro _ w1 ⟨hv, e1⟩
  rcases hv with rfl | ⟨rfl, hpos⟩
  · exact ⟨_, rfl, br_dt (by omega) ⟨rfl, e1⟩⟩
  have z1 := sizeL_nonneg xs
  have b1 : xs.length ≤ 1048576 := by omega
  refine ⟨_, rfl, br_df (by omega) (toL (h.ext e1) b1 fun x0 w2 _ h2 _ e2 => ⟨x0, rfl, ?_⟩)⟩
  have e02 := e1.trans e2
  refine (c_spec_HolderOf name now h2 m1 hs).go fun w3 e3 => ⟨_, rfl, ?_⟩
  have e03 := e02.trans e3
  refine toL (h.ext e03) b1 fun x1 w4 _ h4 _ e4 => ⟨x1, rfl, ?_⟩
  have e04 := e03.trans e4
  refine (c_impl_HolderOf name now h4).go fun w5 e5 => ⟨_, rfl, br_f (by simp) ?_⟩
  have e05 := e04.trans e5
  refine toL (h.ext e05) b1 fun x2 w6 _ h6 _ e6 => ⟨x2, rfl, ?_⟩
  have e06 := e05.trans e6
  refine (c_laws_eqLeaseS ((h4.ext e5).ext e6) h6 m1).go fun w7 e7 => ⟨_, rfl, br_f (by simp) ⟨rfl, e06.trans e7⟩⟩
end Go.Proofs
