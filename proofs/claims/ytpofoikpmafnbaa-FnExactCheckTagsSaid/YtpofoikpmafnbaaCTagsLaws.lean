/-
  What functions of this seat compute, part 'TagsLaws': contracts over their readable predicates. Conditions: each theorem's own hypotheses.
-/
import Derived.Test.YtpofoikpmafnbaaBase
import Derived.Test.YtpofoikpmafnbaaOpen
import Derived.Test.YtpofoikpmafnbaaGen
import Derived.Test.YtpofoikpmafnbaaCTags
import Derived.Test.YtpofoikpmafnbaaCHelpS
import Derived.Test.YtpofoikpmafnbaaCDraw
import Derived.Test.YtpofoikpmafnbaaCTagsDraw
import Derived.Test.YtpofoikpmafnbaaCTagsShelf
namespace Go.Proofs
open Go Go.Vc Go.RowKit
set_option maxRecDepth 100000
set_option linter.unusedVariables false
--! C:Tags C:HelpS C:Draw C:TagsDraw C:TagsShelf
/-! ## Tags: the laws -/

theorem c_spec_DrawCheckTags {w : World} {s : Sl} {bs : List UInt8} (hs : Bytes w s bs) :
    CallR Try.prog 15 [.slice s.a s.len s.cap] w (fun v w' => (∃ (lw la : Sl) (want avoid : List ByteArray) (tag : ByteArray) (r : Bool), v = .tuple #[.slice lw.a lw.len lw.cap, .slice la.a la.len la.cap, .string tag, .bool r] ∧ Strs w' lw want ∧ Strs w' la avoid ∧ want.length ≤ 5 ∧ avoid.length ≤ 5 ∧ (∀ x ∈ want, x.size ≤ 16) ∧ (∀ x ∈ avoid, x.size ≤ 16) ∧ tag.size ≤ 16) ∧ Ext w w') := by
  refine fn_spec_DrawCheckTags _ _ _ ?_
  unfold g_spec_DrawCheckTags
  refine (c_spec_newReader hs).mono ?_
  rintro _ w1 ⟨rfl, h1, e1⟩
  refine ⟨_, rfl, letW_i fun w2 hw2 => ?_⟩
  have e2 : Ext w1 w2 := by rw [hw2]; exact (Ext.refl w1).alloc _
  have r2 : Row w2 w1.heap.size (([⟨#[49, 50, 97, 98]⟩, ⟨#[48, 48, 48, 48]⟩, ⟨#[]⟩, ⟨#[102, 102, 102, 102]⟩, ⟨#[120]⟩] : List ByteArray).flatMap cS) 9 := by rw [hw2]; exact Row.new w1 _ _
  have hlt := h1.lt
  refine (c_spec_reader_of (h1.ext e2) (by omega) (r2.slOf (cap := 5) (by simp)) (apart_new (by omega)) (by simp) (by simp)).mono ?_
  rintro _ w3 ⟨⟨tag, htag, rfl⟩, h3, c3⟩
  have ht16 : tag.size ≤ 16 := by
    simp only [List.mem_cons, List.not_mem_nil, or_false] at htag
    rcases htag with rfl | rfl | rfl | rfl | rfl <;> decide
  refine ⟨_, rfl, (c_spec_anyTags tag h3 (by omega) ht16).mono ?_⟩
  rintro _ w4 ⟨⟨lw, want, rfl, hw, apw, hwl, hws, _⟩, h4, c4⟩
  refine ⟨_, rfl, (c_spec_anyTags tag h4 (by omega) ht16).mono ?_⟩
  rintro _ w5 ⟨⟨la, avoid, rfl, ha, apa, hal, has, _⟩, h5, c5⟩
  refine ⟨_, rfl, (c_spec_reader_pick _ h5 (by omega) (by omega)).mono ?_⟩
  rintro _ w6 ⟨⟨k, rfl, hk⟩, h6, c6⟩
  refine ⟨_, rfl, ⟨lw, la, want, avoid, tag, _, rfl, (hw.chg c5 apw).chg c6 apw, ha.chg c6 apa, hwl, hal, hws, has, ht16⟩, ?_⟩
  exact ((((e1.trans e2).chg c3 (Nat.le_refl _)).chg c4 (Nat.le_refl _)).chg c5 (Nat.le_refl _)).chg c6 (Nat.le_refl _)

theorem Strs.starRow (w : World) : Strs (w.alloc (.cells #[.string star] 9)) ⟨some ⟨w.heap.size, 0, none⟩, 1, 1⟩ [star] :=
  (Row.new w (cS star) 9).slOf (xs := [star]) (cap := 1) (by simp)

theorem okCond_of {want avoid : List ByteArray} {tag : ByteArray} {r : Bool} (h : checkT want avoid tag r ≠ 400) : okCond want avoid tag = true := by
  unfold checkT at h
  split at h
  · assumption
  · exact absurd rfl h

theorem okCond_tag {want avoid : List ByteArray} {tag : ByteArray} (h : okCond want avoid tag = true) : tag = emptyB ∨ vTag tag = true := by
  simp only [okCond, Bool.and_eq_true, Bool.or_eq_true, decide_eq_true_eq] at h
  exact h.2

theorem c_laws_FnCheckTags {w : World} {s : Sl} {bs : List UInt8} (hs : Bytes w s bs) (_ : s.cap ≤ maxLen) : CallR Try.prog 4 [.slice s.a s.len s.cap] w (fun v w' => v = .bool true ∧ Ext w w') := by
  refine fn_laws_FnCheckTags _ _ _ ?_
  unfold g_laws_FnCheckTags
  refine br_d (fun _ => ⟨rfl, Ext.refl _⟩) (fun _ => ?_)
  refine (c_spec_DrawCheckTags hs).mono ?_
  rintro _ w1 ⟨⟨lw, la, want, avoid, tag, r, rfl, hw, ha, hwl, hal, hws, has, ht⟩, e1⟩
  have m1 : want.length ≤ maxLen := by unfold maxLen; omega
  have m2 : avoid.length ≤ maxLen := by unfold maxLen; omega
  have m3 : ∀ x ∈ want, x.size ≤ maxLen := fun x hx => by have := hws x hx; unfold maxLen; omega
  have m4 : ∀ x ∈ avoid, x.size ≤ maxLen := fun x hx => by have := has x hx; unfold maxLen; omega
  have m5 : tag.size ≤ maxLen := by unfold maxLen; omega
  refine ⟨lw, la, tag, r, rfl, (c_impl_CheckTags c_isSum tag r hw ha m1 m2).go fun w2 e2 => ⟨_, rfl, ?_⟩⟩
  refine (c_spec_CheckTags tag r (hw.ext e2) (ha.ext e2) m1 m2 m3 m4 m5).go fun w3 e3 => ⟨_, rfl, ?_⟩
  have e13 : Ext w w3 := e1.trans (e2.trans e3)
  refine br_f (by simp) (br_i (fun h => ?_) (fun h => ?_))
  · exact (c_spec_CheckTags tag r ((hw.ext e2).ext e3) ((ha.ext e2).ext e3) m1 m2 m3 m4 m5).go fun w4 e4 => ⟨_, rfl, by simp, e13.trans e4⟩
  · have hok := okCond_of (by simpa using h)
    have htag := okCond_tag hok
    have z : checkT [] [] tag r = 200 := by
      have : okCond [] [] tag = true := by
        simp only [okCond, vTags, Bool.and_eq_true, Bool.or_eq_true, decide_eq_true_eq]
        exact ⟨⟨⟨by decide, rfl⟩, ⟨by decide, rfl⟩⟩, htag⟩
      simp [checkT, this, chk]
    refine (c_impl_CheckTags c_isSum tag r (SlOf.nil cS w3) (SlOf.nil cS w3) (by simp) (by simp)).go fun w4 e4 => ⟨_, rfl, ?_⟩
    rw [z]
    have l1 := hw.len
    have l2 := ha.len
    refine br_t rfl (br_d (fun _ => ⟨rfl, e13.trans e4⟩) (fun n1 => br_d (fun _ => ⟨rfl, e13.trans e4⟩) (fun n2 => ⟨?_, e13.trans e4⟩)))
    have w0 : want = [] := List.eq_nil_of_length_eq_zero (by omega)
    have a0 : avoid = [] := List.eq_nil_of_length_eq_zero (by omega)
    rw [w0, a0, z]; rfl

theorem c_laws_FnCheckTagsAll {w : World} {s : Sl} {bs : List UInt8} (hs : Bytes w s bs) (_ : s.cap ≤ maxLen) : CallR Try.prog 5 [.slice s.a s.len s.cap] w (fun v w' => v = .bool true ∧ Ext w w') := by
  refine fn_laws_FnCheckTagsAll _ _ _ ?_
  unfold g_laws_FnCheckTagsAll
  refine br_d (fun _ => ⟨rfl, Ext.refl _⟩) (fun _ => ?_)
  refine (c_spec_DrawCheckTags hs).mono ?_
  rintro _ w1 ⟨⟨lw, la, want, avoid, tag, r, rfl, hw, ha, hwl, hal, hws, has, ht⟩, e1⟩
  have m1 : want.length ≤ maxLen := by unfold maxLen; omega
  have m2 : avoid.length ≤ maxLen := by unfold maxLen; omega
  have m3 : ∀ x ∈ want, x.size ≤ maxLen := fun x hx => by have := hws x hx; unfold maxLen; omega
  have m4 : ∀ x ∈ avoid, x.size ≤ maxLen := fun x hx => by have := has x hx; unfold maxLen; omega
  have m5 : tag.size ≤ maxLen := by unfold maxLen; omega
  refine ⟨lw, la, tag, r, rfl, (c_impl_CheckTags c_isSum tag r hw ha m1 m2).go fun w2 e2 => ⟨_, rfl, ?_⟩⟩
  refine (c_spec_CheckTags tag r (hw.ext e2) (ha.ext e2) m1 m2 m3 m4 m5).go fun w3 e3 => ⟨_, rfl, ?_⟩
  have e13 : Ext w w3 := e1.trans (e2.trans e3)
  refine br_f (by simp) (br_i (fun h => ?_) (fun h => letW_i fun w4 hw4 => ?_))
  · exact (c_spec_CheckTags tag r ((hw.ext e2).ext e3) ((ha.ext e2).ext e3) m1 m2 m3 m4 m5).go fun w4 e4 => ⟨_, rfl, by simp, e13.trans e4⟩
  · have hok := okCond_of (by simpa using h)
    have htag := okCond_tag hok
    have k1 : okCond [star] [] tag = true := by
      simp only [okCond, vTags, Bool.and_eq_true, Bool.or_eq_true, decide_eq_true_eq]
      exact ⟨⟨⟨by decide, by simp⟩, ⟨by decide, rfl⟩⟩, htag⟩
    have k2 : okCond [] [star] tag = true := by
      simp only [okCond, vTags, Bool.and_eq_true, Bool.or_eq_true, decide_eq_true_eq]
      exact ⟨⟨⟨by decide, rfl⟩, ⟨by decide, by simp⟩⟩, htag⟩
    have hh : hasT [star] tag = true := by simp [hasT]
    have e34 : Ext w3 w4 := by rw [hw4]; exact (Ext.refl w3).alloc _
    have s4 : Strs w4 ⟨some ⟨w3.heap.size, 0, none⟩, 1, 1⟩ [star] := by rw [hw4]; exact Strs.starRow w3
    refine (c_impl_CheckTags c_isSum tag r s4 (SlOf.nil cS w4) (by simp [maxLen]) (by simp)).go fun w5 e5 => ⟨_, rfl, letW_i fun w6 hw6 => ?_⟩
    have e56 : Ext w5 w6 := by rw [hw6]; exact (Ext.refl w5).alloc _
    have s6 : Strs w6 ⟨some ⟨w5.heap.size, 0, none⟩, 1, 1⟩ [star] := by rw [hw6]; exact Strs.starRow w5
    refine (c_impl_CheckTags c_isSum tag r (SlOf.nil cS w6) s6 (by simp) (by simp [maxLen])).go fun w7 e7 => ⟨_, rfl, ?_⟩
    have ee : Ext w w7 := e13.trans (e34.trans (e5.trans (e56.trans e7)))
    rw [seqB_eq]
    by_cases h0 : tag = emptyB
    · have z1 : checkT [star] [] tag r = 412 := by unfold checkT; rw [if_pos k1]; simp [chk, h0]
      have z2 : checkT [] [star] tag r = 200 := by unfold checkT; rw [if_pos k2]; simp [chk, h0]
      rw [z1, z2]
      have h0' : decide (tag = (⟨#[]⟩ : ByteArray)) = true := decide_eq_true h0
      rw [h0']
      exact br_t rfl (br_t rfl (br_f rfl ⟨rfl, ee⟩))
    · have z1 : checkT [star] [] tag r = 200 := by simp [checkT, k1, chk, h0, hh]
      have h0' : decide (tag = (⟨#[]⟩ : ByteArray)) = false := decide_eq_false h0
      have z2 : (checkT [] [star] tag r == (200 : Int)) = false := by
        simp only [checkT, k2, chk, hh, if_true]
        cases r <;> simp [h0]
      rw [z1, z2, h0']
      exact br_t rfl (br_t rfl (br_t rfl ⟨rfl, ee⟩))

theorem c_laws_FnCheckTagsReads {w : World} {s : Sl} {bs : List UInt8} (hs : Bytes w s bs) (_ : s.cap ≤ maxLen) : CallR Try.prog 6 [.slice s.a s.len s.cap] w (fun v w' => v = .bool true ∧ Ext w w') := by
  refine fn_laws_FnCheckTagsReads _ _ _ ?_
  unfold g_laws_FnCheckTagsReads
  refine br_d (fun _ => ⟨rfl, Ext.refl _⟩) (fun _ => ?_)
  refine (c_spec_DrawCheckTags hs).mono ?_
  rintro _ w1 ⟨⟨lw, la, want, avoid, tag, r, rfl, hw, ha, hwl, hal, hws, has, ht⟩, e1⟩
  have m1 : want.length ≤ maxLen := by unfold maxLen; omega
  have m2 : avoid.length ≤ maxLen := by unfold maxLen; omega
  have m3 : ∀ x ∈ want, x.size ≤ maxLen := fun x hx => by have := hws x hx; unfold maxLen; omega
  have m4 : ∀ x ∈ avoid, x.size ≤ maxLen := fun x hx => by have := has x hx; unfold maxLen; omega
  have m5 : tag.size ≤ maxLen := by unfold maxLen; omega
  refine ⟨lw, la, tag, r, rfl, (c_impl_CheckTags c_isSum tag r hw ha m1 m2).go fun w2 e2 => ⟨_, rfl, ?_⟩⟩
  refine (c_spec_CheckTags tag r (hw.ext e2) (ha.ext e2) m1 m2 m3 m4 m5).go fun w3 e3 => ⟨_, rfl, ?_⟩
  refine br_f (by simp) ?_
  refine (c_impl_CheckTags c_isSum tag true ((hw.ext e2).ext e3) ((ha.ext e2).ext e3) m1 m2).go fun w4 e4 => ⟨_, rfl, ?_⟩
  refine (c_impl_CheckTags c_isSum tag false (((hw.ext e2).ext e3).ext e4) (((ha.ext e2).ext e3).ext e4) m1 m2).go fun w5 e5 => ⟨_, rfl, ?_⟩
  have ee : Ext w w5 := e1.trans (e2.trans (e3.trans (e4.trans e5)))
  have k1 : checkT want avoid tag false ≠ 304 := by
    unfold checkT chk
    split <;> (try split) <;> (try split) <;> simp
  have k2 : checkT want avoid tag true = checkT want avoid tag false ∨ (checkT want avoid tag true = 304 ∧ checkT want avoid tag false = 412) := by
    unfold checkT chk
    by_cases a1 : okCond want avoid tag = true
    · by_cases a2 : want ≠ [] ∧ (tag = emptyB ∨ hasT want tag = false)
      · simp [a1, a2]
      · rw [if_pos a1, if_pos a1, if_neg a2, if_neg a2]
        by_cases a3 : avoid ≠ [] ∧ tag ≠ emptyB ∧ hasT avoid tag = true
        · rw [if_pos a3, if_pos a3]; right; exact ⟨rfl, rfl⟩
        · rw [if_neg a3, if_neg a3]; left; rfl
    · simp [a1]
  refine br_t (by simpa using k1) (br_i (fun _ => ⟨rfl, ee⟩) (fun h => ?_))
  rcases k2 with k2 | ⟨k2, k3⟩
  · rw [k2] at h; simp at h
  · rw [k2, k3]; exact br_t rfl ⟨rfl, ee⟩

theorem c_laws_FnCheckTagsWant {w : World} {s : Sl} {bs : List UInt8} (hs : Bytes w s bs) (_ : s.cap ≤ maxLen) : CallR Try.prog 7 [.slice s.a s.len s.cap] w (fun v w' => v = .bool true ∧ Ext w w') := by
  refine fn_laws_FnCheckTagsWant _ _ _ ?_
  unfold g_laws_FnCheckTagsWant
  refine br_d (fun _ => ⟨rfl, Ext.refl _⟩) (fun _ => ?_)
  refine (c_spec_DrawCheckTags hs).mono ?_
  rintro _ w1 ⟨⟨lw, la, want, avoid, tag, r, rfl, hw, ha, hwl, hal, hws, has, ht⟩, e1⟩
  have m1 : want.length ≤ maxLen := by unfold maxLen; omega
  have m2 : avoid.length ≤ maxLen := by unfold maxLen; omega
  have m3 : ∀ x ∈ want, x.size ≤ maxLen := fun x hx => by have := hws x hx; unfold maxLen; omega
  have m4 : ∀ x ∈ avoid, x.size ≤ maxLen := fun x hx => by have := has x hx; unfold maxLen; omega
  have m5 : tag.size ≤ maxLen := by unfold maxLen; omega
  refine ⟨lw, la, tag, r, rfl, (c_impl_CheckTags c_isSum tag r hw ha m1 m2).go fun w2 e2 => ⟨_, rfl, ?_⟩⟩
  refine (c_spec_CheckTags tag r (hw.ext e2) (ha.ext e2) m1 m2 m3 m4 m5).go fun w3 e3 => ⟨_, rfl, ?_⟩
  have e13 : Ext w w3 := e1.trans (e2.trans e3)
  refine br_f (by simp) (br_i (fun h => ?_) (fun h => br_i (fun h1 => ?_) (fun h1 => letW_i fun w4 hw4 => ?_)))
  · exact (c_spec_CheckTags tag r ((hw.ext e2).ext e3) ((ha.ext e2).ext e3) m1 m2 m3 m4 m5).go fun w4 e4 => ⟨_, rfl, by simp, e13.trans e4⟩
  · exact (c_spec_CheckTags tag r ((hw.ext e2).ext e3) ((ha.ext e2).ext e3) m1 m2 m3 m4 m5).go fun w4 e4 => ⟨_, rfl, by simp, e13.trans e4⟩
  · have hok := okCond_of (by simpa using h)
    have hne : tag ≠ emptyB := by
      rw [seqB_eq] at h1
      exact of_decide_eq_false h1
    have htag : vTag tag = true := (okCond_tag hok).resolve_left hne
    have k1 : okCond [tag] [] tag = true := by
      simp only [okCond, vTags, Bool.and_eq_true, Bool.or_eq_true, decide_eq_true_eq]
      exact ⟨⟨⟨by simp, by simp [htag]⟩, ⟨by simp, rfl⟩⟩, .inr htag⟩
    have hh : hasT [tag] tag = true := by simp [hasT]
    have z1 : checkT [tag] [] tag r = 200 := by simp [checkT, k1, chk, hne, hh]
    have e34 : Ext w3 w4 := by rw [hw4]; exact (Ext.refl w3).alloc _
    have s4 : Strs w4 ⟨some ⟨w3.heap.size, 0, none⟩, 1, 1⟩ [tag] := by
      rw [hw4]; exact (Row.new w3 (cS tag) 9).slOf (xs := [tag]) (cap := 1) (by simp)
    refine (c_impl_CheckTags c_isSum tag r s4 (SlOf.nil cS w4) (by simp [maxLen]) (by simp)).go fun w5 e5 => ⟨_, rfl, ?_⟩
    rw [z1]
    have e15 : Ext w w5 := e13.trans (e34.trans e5)
    refine br_t rfl (br_i (fun _ => ⟨rfl, e15⟩) (fun h2 => letW_i fun w6 hw6 => letW_i fun w7 hw7 => ?_))
    have hno : tag ≠ (⟨#[48, 48, 48, 49]⟩ : ByteArray) := by
      rw [seqB_eq] at h2
      exact of_decide_eq_false h2
    have e56 : Ext w5 w6 := by rw [hw6]; exact (Ext.refl w5).alloc _
    have e67 : Ext w6 w7 := by rw [hw7]; exact (Ext.refl w6).alloc _
    have s6 : Strs w7 ⟨some ⟨w5.heap.size, 0, none⟩, 1, 1⟩ [tag] := by
      refine SlOf.ext ?_ e67
      rw [hw6]; exact (Row.new w5 (cS tag) 9).slOf (xs := [tag]) (cap := 1) (by simp)
    have s7 : Strs w7 ⟨some ⟨w6.heap.size, 0, none⟩, 1, 1⟩ [(⟨#[48, 48, 48, 49]⟩ : ByteArray)] := by
      rw [hw7]; exact (Row.new w6 (cS (⟨#[48, 48, 48, 49]⟩ : ByteArray)) 9).slOf (xs := [(⟨#[48, 48, 48, 49]⟩ : ByteArray)]) (cap := 1) (by simp)
    have k3 : okCond [tag] [(⟨#[48, 48, 48, 49]⟩ : ByteArray)] tag = true := by
      simp only [okCond, vTags, Bool.and_eq_true, Bool.or_eq_true, decide_eq_true_eq]
      exact ⟨⟨⟨by simp, by simp [htag]⟩, ⟨by simp, by decide⟩⟩, .inr htag⟩
    have hno2 : hasT [(⟨#[48, 48, 48, 49]⟩ : ByteArray)] tag = false := by
      simp only [hasT, List.any_cons, List.any_nil, Bool.or_false, Bool.or_eq_false_iff, decide_eq_false_iff_not]
      exact ⟨fun e => hno e.symm, by decide⟩
    have z2 : checkT [tag] [(⟨#[48, 48, 48, 49]⟩ : ByteArray)] tag r = 200 := by simp [checkT, k3, chk, hne, hh, hno2]
    refine (c_impl_CheckTags c_isSum tag r s6 s7 (by simp [maxLen]) (by simp [maxLen])).go fun w8 e8 => ⟨_, rfl, ?_, e15.trans (e56.trans (e67.trans e8))⟩
    rw [z2]; rfl

theorem toS {s : Sl} {xs : List ByteArray} {w : World} (h : Strs w s xs) (hl : xs.length ≤ 1048576) {K : Value → World → Prop}
    (hk : ∀ (t : Sl) w', Strs w' t xs → Ext w w' → K (.slice t.a t.len t.cap) w') : CallR Try.prog 12 [.slice s.a s.len s.cap] w K :=
  (c_laws_toStringS h hl).mono fun v w' ⟨hv, hr, he⟩ => by
    rw [hv]
    exact hk ⟨some ⟨w.heap.size, 0, none⟩, xs.length, xs.length⟩ w' (hr.slOf (by simp)) he

theorem c_laws_FnExactCheckTags {w : World} {sw sa : Sl} {want avoid : List ByteArray} (hw : Strs w sw want) (hwc : sw.cap ≤ maxLen) (hws : ∀ x ∈ want, x.size ≤ maxLen) (ha : Strs w sa avoid) (hac : sa.cap ≤ maxLen) (has : ∀ x ∈ avoid, x.size ≤ maxLen)
    (tag : ByteArray) (ht : tag.size ≤ maxLen) (r : Bool) : CallR Try.prog 3 [.slice sw.a sw.len sw.cap, .slice sa.a sa.len sa.cap, .string tag, .bool r] w (fun v w' => v = .bool true ∧ Ext w w') := by
  refine fn_laws_FnExactCheckTags _ _ _ _ _ _ ?_
  unfold g_laws_FnExactCheckTags
  have m1 : want.length ≤ maxLen := by rw [← hw.len]; exact Nat.le_trans hw.cap hwc
  have m2 : avoid.length ≤ maxLen := by rw [← ha.len]; exact Nat.le_trans ha.cap hac
  refine br_d (fun _ => ⟨rfl, Ext.refl _⟩) (fun _ => ?_)
  refine (c_laws_szStringS _ hw (by omega) (by omega) m1 hws).mono ?_
  rintro _ w1 ⟨hv, e1⟩
  rcases hv with rfl | ⟨rfl, hpos⟩
  · exact ⟨_, rfl, br_dt (by omega) ⟨rfl, e1⟩⟩
  have z1 := sizeS_nonneg want
  refine ⟨_, rfl, br_df (by omega) ?_⟩
  refine (c_laws_szStringS _ (ha.ext e1) (by omega) (by omega) m2 has).mono ?_
  rintro _ w2 ⟨hv, e2⟩
  rcases hv with rfl | ⟨rfl, hpos2⟩
  · exact ⟨_, rfl, br_dt (by omega) ⟨rfl, e1.trans e2⟩⟩
  have z2 := sizeS_nonneg avoid
  refine ⟨_, rfl, br_df (by omega) ?_⟩
  have e02 := e1.trans e2
  have b1 : want.length ≤ 1048576 := by omega
  have b2 : avoid.length ≤ 1048576 := by omega
  refine toS (hw.ext e02) b1 fun x0 w3 h3 e3 => ⟨x0, rfl, ?_⟩
  have e03 := e02.trans e3
  refine toS (ha.ext e03) b2 fun x1 w4 h4 e4 => ⟨x1, rfl, ?_⟩
  have e04 := e03.trans e4
  refine (c_spec_CheckTags tag r (h3.ext e4) h4 m1 m2 hws has ht).go fun w5 e5 => ⟨_, rfl, ?_⟩
  have e05 := e04.trans e5
  refine toS (hw.ext e05) b1 fun x2 w6 h6 e6 => ⟨x2, rfl, ?_⟩
  have e06 := e05.trans e6
  refine toS (ha.ext e06) b2 fun x3 w7 h7 e7 => ⟨x3, rfl, ?_⟩
  have e07 := e06.trans e7
  refine (c_impl_CheckTags c_isSum tag r (h6.ext e7) h7 m1 m2).go fun w8 e8 => ⟨_, rfl, br_f (by simp) ?_⟩
  have e08 := e07.trans e8
  refine toS (hw.ext e08) b1 fun x4 w9 h9 e9 => ⟨x4, rfl, ?_⟩
  have e09 := e08.trans e9
  refine (c_laws_eqStringS (((h6.ext e7).ext e8).ext e9) h9 m1).go fun w10 e10 => ⟨_, rfl, br_f (by simp) ?_⟩
  have e010 := e09.trans e10
  refine toS (ha.ext e010) b2 fun x5 w11 h11 e11 => ⟨x5, rfl, ?_⟩
  have e011 := e010.trans e11
  refine (c_laws_eqStringS ((((h7.ext e8).ext e9).ext e10).ext e11) h11 m2).go fun w12 e12 => ⟨_, rfl, br_f (by simp) ⟨rfl, e011.trans e12⟩⟩
end Go.Proofs
