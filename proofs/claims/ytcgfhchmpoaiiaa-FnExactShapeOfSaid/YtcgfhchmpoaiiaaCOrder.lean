/-
  What functions of this seat compute, part 'Order': contracts over their readable predicates. Conditions: each theorem's own hypotheses.
-/
import Derived.Test.YtcgfhchmpoaiiaaBase
import Derived.Test.YtcgfhchmpoaiiaaOpen
import Derived.Test.YtcgfhchmpoaiiaaGen
import Derived.Lib.IndexBytes
namespace Go.Proofs
open Go Go.Vc Go.RowKit
set_option maxRecDepth 100000
set_option linter.unusedVariables false
--! M:Derived.Lib.IndexBytes
/-! ## Strings in order -/

theorem bl_irrefl : ∀ x : List UInt8, Op.bytesLess x x = false
  | [] => rfl
  | a :: x => by simp [Op.bytesLess, bl_irrefl x]

theorem bl_total : ∀ x y : List UInt8, Op.bytesLess x y = false → Op.bytesLess y x = false → x = y
  | [], [], _, _ => rfl
  | [], b :: y, h, _ => by simp [Op.bytesLess] at h
  | a :: x, [], _, h => by simp [Op.bytesLess] at h
  | a :: x, b :: y, h, k => by
    simp only [Op.bytesLess, Bool.or_eq_false_iff, Bool.and_eq_false_iff, decide_eq_false_iff_not, beq_eq_false_iff_ne] at h k
    have hab : a = b := UInt8.le_antisymm (UInt8.not_lt.1 k.1) (UInt8.not_lt.1 h.1)
    subst hab
    rw [bl_total x y (h.2.resolve_left (fun e => e rfl)) (k.2.resolve_left (fun e => e rfl))]

theorem bl_asymm : ∀ x y : List UInt8, Op.bytesLess x y = true → Op.bytesLess y x = false
  | _, [], h => by simp [Op.bytesLess] at h
  | [], b :: y, _ => rfl
  | a :: x, b :: y, h => by
    simp only [Op.bytesLess, Bool.or_eq_true, Bool.and_eq_true, decide_eq_true_eq, beq_iff_eq, Bool.or_eq_false_iff, Bool.and_eq_false_iff, decide_eq_false_iff_not, beq_eq_false_iff_ne] at h ⊢
    rcases h with h | ⟨rfl, h⟩
    · exact ⟨fun h' => UInt8.lt_asymm h h', .inl (fun e => by subst e; exact UInt8.lt_irrefl _ h)⟩
    · exact ⟨UInt8.lt_irrefl _, .inr (bl_asymm x y h)⟩

theorem bl_trans : ∀ x y z : List UInt8, Op.bytesLess x y = true → Op.bytesLess y z = true → Op.bytesLess x z = true
  | _, [], _, h, _ => by simp [Op.bytesLess] at h
  | _, _ :: _, [], _, h => by simp [Op.bytesLess] at h
  | [], b :: y, c :: z, _, _ => rfl
  | a :: x, b :: y, c :: z, h, k => by
    simp only [Op.bytesLess, Bool.or_eq_true, Bool.and_eq_true, decide_eq_true_eq, beq_iff_eq] at h k ⊢
    rcases h with h | ⟨rfl, h⟩
    · rcases k with k | ⟨rfl, k⟩
      · exact .inl (UInt8.lt_trans h k)
      · exact .inl h
    · rcases k with k | ⟨rfl, k⟩
      · exact .inl k
      · exact .inr ⟨rfl, bl_trans x y z h k⟩

theorem slt_irrefl (a : ByteArray) : sltB a a = false := bl_irrefl _
theorem slt_total {a b : ByteArray} (h : sltB a b = false) (k : sltB b a = false) : a = b := by
  have := bl_total _ _ h k
  rw [toList_eq, toList_eq] at this
  cases a; cases b
  simp only at this
  congr
  exact Array.ext' this
theorem slt_asymm {a b : ByteArray} (h : sltB a b = true) : sltB b a = false := bl_asymm _ _ h
theorem slt_trans {a b c : ByteArray} (h : sltB a b = true) (k : sltB b c = true) : sltB a c = true := bl_trans _ _ _ h k
theorem sle_not (a b : ByteArray) : (sltB a b || seqB a b) = !(sltB b a) := by
  rw [seqB_eq]
  cases h : sltB a b with
  | true => rw [slt_asymm h]; rfl
  | false =>
    cases k : sltB b a with
    | true =>
      have : a ≠ b := fun e => by subst e; rw [slt_irrefl] at k; cases k
      simp [this]
    | false => simp [slt_total h k]
theorem slt_ne {a b : ByteArray} (h : sltB a b = true) : a ≠ b := fun e => by subst e; rw [slt_irrefl] at h; cases h
end Go.Proofs
