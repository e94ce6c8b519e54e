/-
  What functions of this seat compute, part 'TagsTextLaws': contracts over their readable predicates. Conditions: each theorem's own hypotheses.
-/
import Derived.Test.YtpofoikpmafnbaaBase
import Derived.Test.YtpofoikpmafnbaaOpen
import Derived.Test.YtpofoikpmafnbaaGen
import Derived.Test.YtpofoikpmafnbaaCTags
import Derived.Test.YtpofoikpmafnbaaCHelpS
import Derived.Test.YtpofoikpmafnbaaCDraw
import Derived.Test.YtpofoikpmafnbaaCTagsDraw
import Derived.Test.YtpofoikpmafnbaaCTagsShelf
import Derived.Test.YtpofoikpmafnbaaCTagsText
namespace Go.Proofs
open Go Go.Vc Go.RowKit
set_option maxRecDepth 100000
set_option linter.unusedVariables false
--! C:Tags C:HelpS C:Draw C:TagsDraw C:TagsShelf C:TagsText
/-! ## Tags: the laws on their text -/

theorem toS2 {s : Sl} {xs : List ByteArray} {w : World} (h : Strs w s xs) (hl : xs.length ≤ 1048576) {K : Value → World → Prop}
    (hk : ∀ (t : Sl) w', Strs w' t xs → Ext w w' → K (.slice t.a t.len t.cap) w') : CallR Try.prog 12 [.slice s.a s.len s.cap] w K :=
  (c_laws_toStringS h hl).mono fun v w' ⟨hv, hr, he⟩ => by
    rw [hv]
    exact hk ⟨some ⟨w.heap.size, 0, none⟩, xs.length, xs.length⟩ w' (hr.slOf (by simp)) he

theorem c_laws_FnExactFormatTags {w : World} {s : Sl} {xs : List ByteArray} (h : Strs w s xs) (hcp : s.cap ≤ maxLen) (hxs : ∀ x ∈ xs, x.size ≤ maxLen) :
    CallR Try.prog 8 [.slice s.a s.len s.cap] w (fun v w' => v = .bool true ∧ Ext w w') := by
  refine fn_laws_FnExactFormatTags _ _ _ ?_
  unfold g_laws_FnExactFormatTags
  have m1 : xs.length ≤ maxLen := by rw [← h.len]; exact Nat.le_trans h.cap hcp
  refine (c_laws_szStringS _ h (by omega) (by omega) m1 hxs).mono ?_
  rintro _ w1 ⟨hv, e1⟩
  rcases hv with rfl | ⟨rfl, hpos⟩
  · exact ⟨_, rfl, br_dt (by omega) ⟨rfl, e1⟩⟩
  have z1 := sizeS_nonneg xs
  refine ⟨_, rfl, br_df (by omega) ?_⟩
  have b1 : xs.length ≤ 1048576 := by omega
  refine toS2 (h.ext e1) b1 fun x0 w3 h3 e3 => ⟨x0, rfl, ?_⟩
  have e03 := e1.trans e3
  refine (c_spec_FormatTags h3 m1 hxs).go fun w4 e4 => ⟨_, rfl, ?_⟩
  have e04 := e03.trans e4
  refine toS2 (h.ext e04) b1 fun x1 w5 h5 e5 => ⟨x1, rfl, ?_⟩
  have e05 := e04.trans e5
  refine (c_impl_FormatTags h5 m1).go fun w6 e6 => ⟨_, rfl, br_f (by simp [seqB_eq]) ?_⟩
  have e06 := e05.trans e6
  refine toS2 (h.ext e06) b1 fun x2 w7 h7 e7 => ⟨x2, rfl, ?_⟩
  have e07 := e06.trans e7
  exact (c_laws_eqStringS ((h5.ext e6).ext e7) h7 m1).go fun w8 e8 => ⟨_, rfl, br_f (by simp) ⟨rfl, e07.trans e8⟩⟩

theorem c_spec_DrawFormatTags {w : World} {s : Sl} {bs : List UInt8} (hs : Bytes w s bs) :
    CallR Try.prog 18 [.slice s.a s.len s.cap] w (fun v w' => (∃ (l : Sl) (xs : List ByteArray), v = .slice l.a l.len l.cap ∧ Strs w' l xs ∧ xs.length ≤ 5 ∧ (∀ x ∈ xs, x.size ≤ 16)) ∧ Ext w w') := by
  refine fn_spec_DrawFormatTags _ _ _ ?_
  unfold g_spec_DrawFormatTags
  refine (c_spec_newReader hs).mono ?_
  rintro _ w1 ⟨rfl, h1, e1⟩
  have hlt := h1.lt
  refine ⟨_, rfl, (c_spec_anyTags _ h1 (by omega) (by decide)).mono ?_⟩
  rintro _ w4 ⟨⟨lw, want, rfl, hw, apw, hwl, hws, _⟩, h4, c4⟩
  exact ⟨lw, rfl, ⟨lw, want, rfl, hw, hwl, hws⟩, e1.chg c4 (Nat.le_refl _)⟩

theorem c_laws_FnFormatTagsOne {w : World} {s : Sl} {bs : List UInt8} (hs : Bytes w s bs) (_ : s.cap ≤ maxLen) : CallR Try.prog 9 [.slice s.a s.len s.cap] w (fun v w' => v = .bool true ∧ Ext w w') := by
  refine fn_laws_FnFormatTagsOne _ _ _ ?_
  unfold g_laws_FnFormatTagsOne
  refine br_d (fun _ => ⟨rfl, Ext.refl _⟩) (fun _ => ?_)
  refine (c_spec_DrawFormatTags hs).mono ?_
  rintro _ w1 ⟨⟨l, xs, rfl, h1, hl, hsz⟩, e1⟩
  have m1 : xs.length ≤ maxLen := by unfold maxLen; omega
  have m3 : ∀ x ∈ xs, x.size ≤ maxLen := fun x hx => by have := hsz x hx; unfold maxLen; omega
  refine ⟨l, rfl, (c_impl_FormatTags h1 m1).go fun w2 e2 => ⟨_, rfl, ?_⟩⟩
  refine (c_spec_FormatTags (h1.ext e2) m1 m3).go fun w3 e3 => ⟨_, rfl, br_f (by simp [seqB_eq]) ?_⟩
  have h3 := (h1.ext e2).ext e3
  have e03 := (e1.trans e2).trans e3
  have same : ∀ w', Ext w3 w' → CallR Try.prog 16 [.slice l.a l.len l.cap] w' (fun r w'' => ∃ s12 : ByteArray, r = .string s12 ∧ (Value.bool (seqB (fmtStr xs) s12) = .bool true ∧ Ext w w'')) := fun w' e' =>
    (c_spec_FormatTags (h3.ext e') m1 m3).go fun w4 e4 => ⟨_, rfl, by simp [seqB_eq], (e03.trans e').trans e4⟩
  have hll := h3.len
  refine br_i (fun _ => same w3 (Ext.refl _)) (fun hne => br_i (fun _ => same w3 (Ext.refl _)) (fun h0 => ?_))
  have hv : vTags xs = true := by
    cases hv : vTags xs with
    | true => rfl
    | false =>
      rw [seqB_eq] at h0
      have := of_decide_eq_false h0
      exfalso; apply this; simp [fmtStr, hv, bstr]
  obtain ⟨x, r, rfl⟩ : ∃ x r, xs = x :: r := by
    cases xs with
    | nil => exfalso; simp at hll; simp [hll] at hne
    | cons x r => exact ⟨x, r, rfl⟩
  have hcap := h3.cap
  simp only [List.length_cons] at hll
  have er : resl l.a l.cap (0 : Int).toNat 1 = l.a := resl_zero _ _ _
  rw [er]
  have hx : vTags [x] = true := by
    have := validTags_all hv x List.mem_cons_self
    simp only [vTags, Bool.and_eq_true, decide_eq_true_eq, List.all_eq_true, Bool.or_eq_true, List.length_cons, List.length_nil]
    exact ⟨by omega, fun y hy => by simp at hy; rw [hy]; exact this⟩
  have hf : Strs w3 ⟨l.a, 1, l.cap⟩ [x] := h3.front (k := 1) (by omega)
  refine ⟨⟨by omega, by omega, by omega⟩, (c_impl_FormatTags hf (by unfold maxLen; simp)).go fun w4 e4 => ⟨_, rfl, ?_⟩⟩
  obtain ⟨a, ha, hc⟩ := (h3.ext e4).sm (pre := []) (post := r) (x := x) rfl
  have e04 := e03.trans e4
  have hfx : fmtStr [x] = bstr (fmtT x) := by simp [fmtStr, hx, tagsText_one]
  rw [hfx]
  refine onSome_i ha ⟨⟨by omega, by omega⟩, _, hc, ?_⟩
  simp only [seqB_eq]
  refine br_d (fun hs => ⟨?_, e04⟩) (fun hs => onSome_i ha ⟨⟨by omega, by omega⟩, _, hc, ?_⟩)
  · have : fmtT x = [42] := by unfold fmtT; rw [if_pos (show x = star from hs)]
    rw [this]; simp [bstr]
  · have hst : x ≠ star := hs
    have h16 := hsz x List.mem_cons_self
    have : fmtT x = 34 :: x.data.toList ++ [34] := by unfold fmtT; rw [if_neg hst]
    have q3 : (⟨#[34]⟩ : ByteArray) = bstr [34] := rfl
    have : bstr [34] ++ x ++ bstr [34] = bstr (fmtT x) := by
      conv => lhs; rw [← bstr_self x]
      rw [bstr_append, bstr_append, this]
      simp
    rw [q3, this]
    have hsz2 : (bstr [34] ++ x).size = 1 + x.size := by
      conv => lhs; rw [← bstr_self x]
      rw [bstr_append, bstr_size, size_eq x, List.length_append]; rfl
    refine ⟨by rw [bstr_size]; simp; omega, by rw [hsz2, bstr_size]; simp; omega, by simp, e04⟩
end Go.Proofs
