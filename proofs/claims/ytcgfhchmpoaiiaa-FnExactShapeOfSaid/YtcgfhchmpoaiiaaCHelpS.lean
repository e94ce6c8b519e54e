/-
  What functions of this seat compute, part 'HelpS': contracts over their readable predicates. Conditions: each theorem's own hypotheses.
-/
import Derived.Test.YtcgfhchmpoaiiaaBase
import Derived.Test.YtcgfhchmpoaiiaaOpen
import Derived.Test.YtcgfhchmpoaiiaaGen
namespace Go.Proofs
open Go Go.Vc Go.RowKit
set_option maxRecDepth 100000
set_option linter.unusedVariables false
--!
/-! ## The helpers on lists of texts -/

def sizeS (xs : List ByteArray) : Int := (xs.map fun x => (x.size : Int)).sum

theorem sizeS_append (a b : List ByteArray) : sizeS (a ++ b) = sizeS a + sizeS b := by simp [sizeS]
theorem sizeS_one (x : ByteArray) : sizeS [x] = x.size := by simp [sizeS]
theorem sizeS_nonneg (xs : List ByteArray) : 0 ≤ sizeS xs := by
  induction xs with
  | nil => simp [sizeS]
  | cons x r ih => have := sizeS_append [x] r; rw [sizeS_one] at this; simp only [List.singleton_append] at this; omega

theorem size_le_sizeS {xs : List ByteArray} {x : ByteArray} (h : x ∈ xs) : (x.size : Int) ≤ sizeS xs := by
  induction xs with
  | nil => cases h
  | cons y r ih =>
    have e := sizeS_append [y] r
    rw [sizeS_one] at e
    simp only [List.singleton_append] at e
    have := sizeS_nonneg r
    rcases List.mem_cons.1 h with rfl | h
    · omega
    · have := ih h; omega

theorem c_laws_szStringS {s : Sl} {xs : List ByteArray} {w : World} (left : Int) (h : Strs w s xs) (h0 : 0 ≤ left) (h1 : left ≤ 1048576) (hl : xs.length ≤ maxLen) (hs : ∀ x ∈ xs, x.size ≤ maxLen) :
    CallR Try.prog 28 [.slice s.a s.len s.cap, .int .i64 left] w (fun v w' => (v = .int .i64 (-1) ∨ (v = .int .i64 (left - xs.length - sizeS xs) ∧ 0 ≤ left - xs.length - sizeS xs)) ∧ Ext w w') := by
  refine fn_laws_szStringS _ _ _ _ ?_
  unfold g_laws_szStringS
  unfold maxLen at hl hs
  have hl0 := h.len
  refine ⟨inR_i64 (by omega) (by omega), br_d (fun h2 => ⟨.inl rfl, Ext.refl _⟩) (fun h2 => ?_)⟩
  refine sLoop_list xs (fun pre t w' => Ext w w' ∧ t.1 = left - xs.length - sizeS pre ∧ 0 ≤ t.1) ⟨Ext.refl _, by simp [sizeS, hl0], by simp; omega⟩ ?_ ?_
  · rintro K pre post c ⟨t, u⟩ w1 hx ⟨he, ht, hp⟩ hK _
    have hm := mid_len hx
    obtain ⟨a, ha1, hc⟩ := (h.ext he).sm hx
    have hcs := hs c (by rw [hx]; simp)
    have hn := sizeS_nonneg pre
    simp only at ht hp
    refine br_dt (by omega) (onSome_i ha1 ⟨⟨by omega, by omega⟩, _, hc, inR_i64 (by simp only; omega) (by simp only; omega), ?_⟩)
    refine br_d (fun h3 => ⟨.inl rfl, he⟩) (fun h3 => ⟨inR_i64 (by omega) (by omega), hK _ _ ⟨he, ?_, ?_⟩⟩)
    · simp only [sizeS_append, sizeS_one]; omega
    · simp only at h3 ⊢; omega
  · rintro K ⟨t, u⟩ w1 ⟨he, ht, hp⟩ _
    simp only at ht hp
    exact br_df (by omega) ⟨.inr ⟨by rw [ht], by omega⟩, he⟩

theorem c_laws_toStringS {s : Sl} {xs : List ByteArray} {w : World} (h : Strs w s xs) (hl : xs.length ≤ 1048576) :
    CallR Try.prog 32 [.slice s.a s.len s.cap] w (fun v w' => v = .slice (some ⟨w.heap.size, 0, none⟩) xs.length xs.length ∧ Row w' w.heap.size (xs.flatMap cS) 9 ∧ Ext w w') := by
  refine fn_laws_toStringS _ _ _ ?_
  unfold g_laws_toStringS
  have hl0 := h.len
  refine ⟨⟨by omega, by omega, by omega, by omega⟩, letW_i fun w1 hw1 => ?_⟩
  have e01 : Ext w w1 := by rw [hw1]; exact (Ext.refl w).alloc _
  have r1 : Row w1 w.heap.size (List.replicate xs.length (.string (⟨#[]⟩ : ByteArray))) 9 := by
    rw [hw1, madeCells_eq, hl0, Int.toNat_natCast, Nat.mul_one]
    exact Row.new w _ _
  refine sLoop_list xs (fun pre _ w' => Ext w w' ∧ Row w' w.heap.size (pre.flatMap cS ++ List.replicate (xs.length - pre.length) (.string (⟨#[]⟩ : ByteArray))) 9) ⟨e01, by simpa using r1⟩ ?_ ?_
  · intro K pre post c t w2 hx ⟨he, hr⟩ hK _
    have hm := mid_len hx
    obtain ⟨a, ha1, hc⟩ := (h.ext he).sm hx
    refine br_dt (by omega) (onSome_i ha1 ⟨⟨by omega, by omega⟩, _, hc, ⟨by omega, by omega⟩, ?_⟩)
    rw [show xs.length - pre.length = (xs.length - (pre ++ [c]).length) + 1 by simp; omega, List.replicate_succ] at hr
    have hset := hr.setMid (p := (⟨w.heap.size, 0, none⟩ : Addr).add ((pre.length : Int).toNat * 1)) (by rw [at_idx1, flatMap_len cS_len, Nat.mul_one]) (.string c)
    refine ⟨hset.1, letW_i fun w3 hw3 => ⟨inR_i64 (by omega) (by omega), hK _ _ ⟨?_, ?_⟩⟩⟩
    · rw [hw3]; exact he.set (by rw [at_idx1, add_b]; exact Nat.le_refl _) _
    · rw [hw3]; simpa [cS] using hset.2
  · intro K t w2 ⟨he, hr⟩ _
    refine br_df (by omega) ⟨?_, by simpa using hr, he⟩
    rw [hl0, Int.toNat_natCast]

theorem c_laws_eqStringS {s t : Sl} {xs ys : List ByteArray} {w : World} (h : Strs w s xs) (h' : Strs w t ys) (hl : xs.length ≤ maxLen) :
    CallR Try.prog 36 [.slice s.a s.len s.cap, .slice t.a t.len t.cap] w (fun v w' => v = .bool (decide (xs = ys)) ∧ Ext w w') := by
  refine fn_laws_eqStringS _ _ _ _ ?_
  unfold g_laws_eqStringS
  unfold maxLen at hl
  have hl0 := h.len
  have hl1 := h'.len
  refine br_i (fun h0 => ⟨?_, Ext.refl _⟩) (fun h0 => ?_)
  · have : xs ≠ ys := by rintro rfl; simp at h0; omega
    simp [this]
  have hll : xs.length = ys.length := by simp at h0; omega
  refine sLoop_list xs (fun pre _ w' => Ext w w' ∧ ys.take pre.length = pre) ⟨Ext.refl _, by simp⟩ ?_ ?_
  · intro K pre post c u w1 hx ⟨he, ha⟩ hK _
    have hm := mid_len hx
    have hy : ys = pre ++ ys[pre.length] :: ys.drop (pre.length + 1) := by
      conv => lhs; rw [← List.take_append_drop pre.length ys, ha, List.drop_eq_getElem_cons (by omega)]
    refine br_dt (by omega) (fun w2 (e2 : Ext w1 w2) => ?_)
    obtain ⟨a, ha1, hc⟩ := (h.ext (he.trans e2)).sm hx
    obtain ⟨a', ha1', hc'⟩ := (h'.ext (he.trans e2)).sm hy
    refine onSome_i ha1 ⟨⟨by omega, by omega⟩, _, hc, onSome_i ha1' ⟨⟨by omega, by omega⟩, _, hc', ?_⟩⟩
    rw [seqB_eq]
    refine br_i (fun h2 => ⟨?_, he.trans e2⟩) (fun h2 => ⟨inR_i64 (by omega) (by omega), hK _ _ ⟨he.trans e2, ?_⟩⟩)
    · have : xs ≠ ys := by
        intro e
        have h2' : ¬ c = ys[pre.length] := by simpa using h2
        apply h2'
        have h3 := mid_get hx
        have h4 : ys[pre.length]? = some c := by rw [← e]; exact h3
        rw [List.getElem?_eq_getElem (by omega)] at h4
        exact (Option.some.inj h4).symm
      simp [this]
    · have h2' : c = ys[pre.length] := by simpa using h2
      rw [List.length_append, List.length_singleton, List.take_succ_eq_append_getElem (by omega), ha, ← h2']
  · intro K u w1 ⟨he, ha⟩ _
    refine br_df (by omega) ⟨?_, he⟩
    have : xs = ys := by rw [← ha, hll, List.take_length]
    simp [this]
end Go.Proofs
