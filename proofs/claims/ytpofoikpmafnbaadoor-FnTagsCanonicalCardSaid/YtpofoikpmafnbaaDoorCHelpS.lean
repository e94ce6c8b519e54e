/-
  What functions of this seat compute, part 'HelpS': contracts over their readable predicates. Conditions: each theorem's own hypotheses.
-/
import Derived.Test.YtpofoikpmafnbaaDoorBase
import Derived.Test.YtpofoikpmafnbaaDoorOpen
import Derived.Test.YtpofoikpmafnbaaDoorGen
namespace Go.Proofs
open Go Go.Vc Go.RowKit
set_option maxRecDepth 100000
set_option linter.unusedVariables false
--!
/-! ## The helpers on lists of texts -/

def sizeS (xs : List ByteArray) : Int := (xs.map fun x => (x.size : Int)).sum

theorem sizeS_append (a b : List ByteArray) : sizeS (a ++ b) = sizeS a + sizeS b := by simp [sizeS]
theorem sizeS_one (x : ByteArray) : sizeS [x] = x.size := by simp [sizeS]
theorem sizeS_nonneg (xs : List ByteArray) : 0 ≤ sizeS xs := by
  induction xs with
  | nil => simp [sizeS]
  | cons x r ih => have := sizeS_append [x] r; rw [sizeS_one] at this; simp only [List.singleton_append] at this; omega

theorem size_le_sizeS {xs : List ByteArray} {x : ByteArray} (h : x ∈ xs) : (x.size : Int) ≤ sizeS xs := by
  induction xs with
  | nil => cases h
  | cons y r ih =>
    have e := sizeS_append [y] r
    rw [sizeS_one] at e
    simp only [List.singleton_append] at e
    have := sizeS_nonneg r
    rcases List.mem_cons.1 h with rfl | h
    · omega
    · have := ih h; omega



theorem c_laws_eqStringS {s t : Sl} {xs ys : List ByteArray} {w : World} (h : Strs w s xs) (h' : Strs w t ys) (hl : xs.length ≤ maxLen) :
    CallR Tryd.prog 8 [.slice s.a s.len s.cap, .slice t.a t.len t.cap] w (fun v w' => v = .bool (decide (xs = ys)) ∧ Ext w w') := by
  refine fn_laws_eqStringS _ _ _ _ ?_
  unfold g_laws_eqStringS
  unfold maxLen at hl
  have hl0 := h.len
  have hl1 := h'.len
  refine br_i (fun h0 => ⟨?_, Ext.refl _⟩) (fun h0 => ?_)
  · have : xs ≠ ys := by rintro rfl; simp at h0; omega
    simp [this]
  have hll : xs.length = ys.length := by simp at h0; omega
  refine sLoop_list xs (fun pre _ w' => Ext w w' ∧ ys.take pre.length = pre) ⟨Ext.refl _, by simp⟩ ?_ ?_
  · intro K pre post c u w1 hx ⟨he, ha⟩ hK _
    have hm := mid_len hx
    have hy : ys = pre ++ ys[pre.length] :: ys.drop (pre.length + 1) := by
      conv => lhs; rw [← List.take_append_drop pre.length ys, ha, List.drop_eq_getElem_cons (by omega)]
    refine br_dt (by omega) (fun w2 (e2 : Ext w1 w2) => ?_)
    obtain ⟨a, ha1, hc⟩ := (h.ext (he.trans e2)).sm hx
    obtain ⟨a', ha1', hc'⟩ := (h'.ext (he.trans e2)).sm hy
    refine onSome_i ha1 ⟨⟨by omega, by omega⟩, _, hc, onSome_i ha1' ⟨⟨by omega, by omega⟩, _, hc', ?_⟩⟩
    rw [seqB_eq]
    refine br_i (fun h2 => ⟨?_, he.trans e2⟩) (fun h2 => ⟨inR_i64 (by omega) (by omega), hK _ _ ⟨he.trans e2, ?_⟩⟩)
    · have : xs ≠ ys := by
        intro e
        have h2' : ¬ c = ys[pre.length] := by simpa using h2
        apply h2'
        have h3 := mid_get hx
        have h4 : ys[pre.length]? = some c := by rw [← e]; exact h3
        rw [List.getElem?_eq_getElem (by omega)] at h4
        exact (Option.some.inj h4).symm
      simp [this]
    · have h2' : c = ys[pre.length] := by simpa using h2
      rw [List.length_append, List.length_singleton, List.take_succ_eq_append_getElem (by omega), ha, ← h2']
  · intro K u w1 ⟨he, ha⟩ _
    refine br_df (by omega) ⟨?_, he⟩
    have : xs = ys := by rw [← ha, hll, List.take_length]
    simp [this]
end Go.Proofs
