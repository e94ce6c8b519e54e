/-
  What functions of this seat compute, part 'TagsLaws': contracts over their readable predicates. Conditions: each theorem's own hypotheses.
-/
import Derived.Test.YtpofoikpmafnbaaBase
import Derived.Test.YtpofoikpmafnbaaOpen
import Derived.Test.YtpofoikpmafnbaaGen
import Derived.Test.YtpofoikpmafnbaaCTags
import Derived.Test.YtpofoikpmafnbaaCHelpS
import Derived.Test.YtpofoikpmafnbaaCDraw
import Derived.Test.YtpofoikpmafnbaaCTagsDraw
import Derived.Test.YtpofoikpmafnbaaCTagsShelf
namespace Go.Proofs
open Go Go.Vc Go.RowKit
set_option maxRecDepth 100000
set_option linter.unusedVariables false
--! C:Tags C:HelpS C:Draw C:TagsDraw C:TagsShelf
/-! ## Tags: the laws -/

theorem c_spec_DrawCheckTags {w : World} {s : Sl} {bs : List UInt8} (hs : Bytes w s bs) :
    CallR Try.prog 15 [.slice s.a s.len s.cap] w (fun v w' => (∃ (lw la : Sl) (want avoid : List ByteArray) (tag : ByteArray) (r : Bool), v = .tuple #[.slice lw.a lw.len lw.cap, .slice la.a la.len la.cap, .string tag, .bool r] ∧ Strs w' lw want ∧ Strs w' la avoid ∧ want.length ≤ 5 ∧ avoid.length ≤ 5 ∧ (∀ x ∈ want, x.size ≤ 16) ∧ (∀ x ∈ avoid, x.size ≤ 16) ∧ tag.size ≤ 16) ∧ Ext w w') := by
  refine fn_spec_DrawCheckTags _ _ _ ?_
  unfold g_spec_DrawCheckTags
  refine (c_spec_newReader hs).mono ?_
  rintro _ w1 ⟨rfl, h1, e1⟩
  refine ⟨_, rfl, letW_i fun w2 hw2 => ?_⟩
  have e2 : Ext w1 w2 := by rw [hw2]; exact (Ext.refl w1).alloc _
  have r2 : Row w2 w1.heap.size (([⟨#[49, 50, 97, 98]⟩, ⟨#[48, 48, 48, 48]⟩, ⟨#[]⟩, ⟨#[102, 102, 102, 102]⟩, ⟨#[120]⟩] : List ByteArray).flatMap cS) 9 := by rw [hw2]; exact Row.new w1 _ _
  have hlt := h1.lt
  refine (c_spec_reader_of (h1.ext e2) (by omega) (r2.slOf (cap := 5) (by simp)) (apart_new (by omega)) (by simp) (by simp)).mono ?_
  rintro _ w3 ⟨⟨tag, htag, rfl⟩, h3, c3⟩
  have ht16 : tag.size ≤ 16 := by
    simp only [List.mem_cons, List.not_mem_nil, or_false] at htag
    rcases htag with rfl | rfl | rfl | rfl | rfl <;> decide
  refine ⟨_, rfl, (c_spec_anyTags tag h3 (by omega) ht16).mono ?_⟩
  rintro _ w4 ⟨⟨lw, want, rfl, hw, apw, hwl, hws, _⟩, h4, c4⟩
  refine ⟨_, rfl, (c_spec_anyTags tag h4 (by omega) ht16).mono ?_⟩
  rintro _ w5 ⟨⟨la, avoid, rfl, ha, apa, hal, has, _⟩, h5, c5⟩
  refine ⟨_, rfl, (c_spec_reader_pick _ h5 (by omega) (by omega)).mono ?_⟩
  rintro _ w6 ⟨⟨k, rfl, hk⟩, h6, c6⟩
  refine ⟨_, rfl, ⟨lw, la, want, avoid, tag, _, rfl, (hw.chg c5 apw).chg c6 apw, ha.chg c6 apa, hwl, hal, hws, has, ht16⟩, ?_⟩
  exact ((((e1.trans e2).chgB c3 (Nat.le_refl _)).chgB c4 (Nat.le_refl _)).chgB c5 (Nat.le_refl _)).chgB c6 (Nat.le_refl _)

theorem Strs.starRow (w : World) : Strs (w.alloc (.cells #[.string star] 9)) ⟨some ⟨w.heap.size, 0, none⟩, 1, 1⟩ [star] :=
  (Row.new w (cS star) 9).slOf (xs := [star]) (cap := 1) (by simp)

theorem okCond_of {want avoid : List ByteArray} {tag : ByteArray} {r : Bool} (h : checkT want avoid tag r ≠ 400) : okCond want avoid tag = true := by
  unfold checkT at h
  split at h
  · assumption
  · exact absurd rfl h

theorem okCond_tag {want avoid : List ByteArray} {tag : ByteArray} (h : okCond want avoid tag = true) : tag = emptyB ∨ vTag tag = true := by
  simp only [okCond, Bool.and_eq_true, Bool.or_eq_true, decide_eq_true_eq] at h
  exact h.2

theorem c_laws_FnCheckTags {w : World} {s : Sl} {bs : List UInt8} (hs : Bytes w s bs) (_ : s.cap ≤ maxLen) : CallR Try.prog 4 [.slice s.a s.len s.cap] w (fun v w' => v = .bool true ∧ Ext w w') := by
  refine fn_laws_FnCheckTags _ _ _ ?_
  unfold g_laws_FnCheckTags
  refine br_d (fun _ => ⟨rfl, Ext.refl _⟩) (fun _ => ?_)
  refine (c_spec_DrawCheckTags hs).mono ?_
  rintro _ w1 ⟨⟨lw, la, want, avoid, tag, r, rfl, hw, ha, hwl, hal, hws, has, ht⟩, e1⟩
  have m1 : want.length ≤ maxLen := by unfold maxLen; omega
  have m2 : avoid.length ≤ maxLen := by unfold maxLen; omega
  have m3 : ∀ x ∈ want, x.size ≤ maxLen := fun x hx => by have := hws x hx; unfold maxLen; omega
  have m4 : ∀ x ∈ avoid, x.size ≤ maxLen := fun x hx => by have := has x hx; unfold maxLen; omega
  have m5 : tag.size ≤ maxLen := by unfold maxLen; omega
  refine ⟨lw, la, tag, r, rfl, (c_impl_CheckTags c_isSum tag r hw ha m1 m2).go fun w2 e2 => ⟨_, rfl, ?_⟩⟩
  refine (c_spec_CheckTags tag r (hw.ext e2) (ha.ext e2) m1 m2 m3 m4 m5).go fun w3 e3 => ⟨_, rfl, ?_⟩
  have e13 : Ext w w3 := e1.trans (e2.trans e3)
  refine br_f (by simp) (br_i (fun h => ?_) (fun h => ?_))
  · exact (c_spec_CheckTags tag r ((hw.ext e2).ext e3) ((ha.ext e2).ext e3) m1 m2 m3 m4 m5).go fun w4 e4 => ⟨_, rfl, by simp, e13.trans e4⟩
  · have hok := okCond_of (by simpa using h)
    have htag := okCond_tag hok
    have z : checkT [] [] tag r = 200 := by
      have : okCond [] [] tag = true := by
        simp only [okCond, vTags, Bool.and_eq_true, Bool.or_eq_true, decide_eq_true_eq]
        exact ⟨⟨⟨by decide, rfl⟩, ⟨by decide, rfl⟩⟩, htag⟩
      simp [checkT, this, chk]
    refine (c_impl_CheckTags c_isSum tag r (SlOf.nil cS w3) (SlOf.nil cS w3) (by simp) (by simp)).go fun w4 e4 => ⟨_, rfl, ?_⟩
    rw [z]
    have l1 := hw.len
    have l2 := ha.len
    refine br_t rfl (br_d (fun _ => ⟨rfl, e13.trans e4⟩) (fun n1 => br_d (fun _ => ⟨rfl, e13.trans e4⟩) (fun n2 => ⟨?_, e13.trans e4⟩)))
    have w0 : want = [] := List.eq_nil_of_length_eq_zero (by omega)
    have a0 : avoid = [] := List.eq_nil_of_length_eq_zero (by omega)
    rw [w0, a0, z]; rfl
end Go.Proofs
