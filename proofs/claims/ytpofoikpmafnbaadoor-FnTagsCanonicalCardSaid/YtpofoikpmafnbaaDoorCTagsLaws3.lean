/-
  What functions of this seat compute, part 'TagsLaws3': contracts over their readable predicates. Conditions: each theorem's own hypotheses.
-/
import Derived.Test.YtpofoikpmafnbaaDoorBase
import Derived.Test.YtpofoikpmafnbaaDoorOpen
import Derived.Test.YtpofoikpmafnbaaDoorGen
import Derived.Test.YtpofoikpmafnbaaDoorCTags
import Derived.Test.YtpofoikpmafnbaaDoorCHelpS
import Derived.Test.YtpofoikpmafnbaaDoorCDraw
import Derived.Test.YtpofoikpmafnbaaDoorCTagsDraw
import Derived.Test.YtpofoikpmafnbaaDoorCTagsShelf
import Derived.Test.YtpofoikpmafnbaaDoorCBstr
import Derived.Test.YtpofoikpmafnbaaDoorCBstr2
import Derived.Test.YtpofoikpmafnbaaDoorCTagsText
import Derived.Test.YtpofoikpmafnbaaDoorCTagsPlain
import Derived.Test.YtpofoikpmafnbaaDoorCTagsSpec
import Derived.Test.YtpofoikpmafnbaaDoorCStrMark
import Derived.Test.YtpofoikpmafnbaaDoorCTagsSeq
import Derived.Test.YtpofoikpmafnbaaDoorCTagsRead
namespace Go.Proofs
open Go Go.Vc Go.RowKit
set_option maxRecDepth 100000
set_option linter.unusedVariables false
--! C:Tags C:HelpS C:Draw C:TagsDraw C:TagsShelf C:Bstr C:Bstr2 C:TagsText C:TagsPlain C:TagsSpec C:StrMark C:TagsSeq C:TagsRead
/-! ## Tags: the laws on reading -/

theorem c_laws_equalTexts {s t : Sl} {xs ys : List ByteArray} {w : World} (h : Strs w s xs) (h' : Strs w t ys) (hl : xs.length ≤ maxLen) :
    CallR Tryd.prog 14 [.slice s.a s.len s.cap, .slice t.a t.len t.cap] w (fun v w' => v = .bool (decide (xs = ys)) ∧ Ext w w') := by
  refine fn_laws_equalTexts _ _ _ _ ?_
  unfold g_laws_equalTexts
  unfold maxLen at hl
  have hl0 := h.len
  have hl1 := h'.len
  refine br_i (fun hn => ⟨?_, Ext.refl _⟩) (fun hn => ?_)
  · have : xs ≠ ys := by rintro rfl; rw [hl0, hl1] at hn; simp at hn
    rw [decide_eq_false this]
  have hlen : xs.length = ys.length := by
    have : (s.len : Int) = (t.len : Int) := by simpa using hn
    omega
  refine sLoop_list xs (fun pre _ w' => Ext w w' ∧ ys.take pre.length = pre) ⟨Ext.refl _, by simp⟩ ?_ ?_
  · intro K pre post c u w1 hx ⟨he, ht⟩ hK _
    have hm := mid_len hx
    have hy : ys[pre.length]? = some ys[pre.length] := List.getElem?_eq_getElem (by omega)
    obtain ⟨a, ha, c0⟩ := (h.ext he).sm hx
    refine br_dt (by omega) fun w2 e2 => ?_
    obtain ⟨b, hb, c1⟩ := (h'.ext he).cell1 cS_len hy rfl
    refine onSome_i ha ⟨⟨by omega, by omega⟩, _, Ext.get e2 c0, onSome_i hb ⟨⟨by omega, by omega⟩, _, Ext.get e2 c1, ?_⟩⟩
    rw [seqB_eq]
    refine br_i (fun g => ⟨?_, he.trans e2⟩) (fun g => ⟨inR_i64 (by omega) (by omega), hK _ _ ⟨he.trans e2, ?_⟩⟩)
    · have hne : c ≠ ys[pre.length] := by simpa using g
      have : xs ≠ ys := by
        rintro rfl
        apply hne
        have := mid_get hx
        rw [hy] at this
        exact (Option.some.inj this).symm
      rw [decide_eq_false this]
    · have he2 : c = ys[pre.length] := by simpa using g
      rw [List.length_append, List.length_singleton, List.take_succ_eq_append_getElem (by omega), ht, ← he2]
  · intro K u w1 ⟨he, ht⟩ _
    have : xs = ys := by rw [hlen] at ht; rw [List.take_length] at ht; exact ht.symm
    refine br_df (by omega) ⟨by rw [decide_eq_true this], he⟩

theorem c_spec_DrawFormatTags {w : World} {s : Sl} {bs : List UInt8} (hs : Bytes w s bs) :
    CallR Tryd.prog 11 [.slice s.a s.len s.cap] w (fun v w' => (∃ (l : Sl) (xs : List ByteArray), v = .slice l.a l.len l.cap ∧ Strs w' l xs ∧ xs.length ≤ 5 ∧ (∀ x ∈ xs, x.size ≤ 16)) ∧ Ext w w') := by
  refine fn_spec_DrawFormatTags _ _ _ ?_
  unfold g_spec_DrawFormatTags
  refine (c_spec_newReader hs).mono ?_
  rintro _ w1 ⟨rfl, h1, e1⟩
  have hlt := h1.lt
  refine ⟨_, rfl, (c_spec_anyTags _ h1 (by omega) (by decide)).mono ?_⟩
  rintro _ w4 ⟨⟨lw, want, rfl, hw, apw, hwl, hws, _⟩, h4, c4⟩
  exact ⟨lw, rfl, ⟨lw, want, rfl, hw, hwl, hws⟩, e1.chg c4 (Nat.le_refl _)⟩

theorem strs_keep {w w' : World} {l : Sl} {xs : List ByteArray} {row : Option Nat} (h : Strs w l xs) (hg : w.grownBy w' row) (hr : ∀ k, row = some k → k < w.heap.size → xs = [] ∨ ∀ a, l.a = some a → a.block ≠ k) : Strs w' l xs := by
  by_cases hx : xs = []
  · subst hx
    exact ⟨h.len, h.cap, fun k v hv => by simp at hv⟩
  · refine h.grown hg fun a ha e => ?_
    have hlt := h.block_lt cS_len (by decide) hx ha
    rcases hr a.block e.symm hlt with h1 | h1
    · exact hx h1
    · exact h1 a ha rfl

theorem readI_len {s : ByteArray} : ((readI s).getD []).length ≤ 4 := by
  cases h : readI s with
  | none => simp
  | some xs => exact (vTags_iff.1 (readI_out h).1).1

set_option maxHeartbeats 1000000 in
theorem c_laws_FnExactParseTags {w : World} (s : ByteArray) (_ : s.size ≤ maxLen) : CallR Tryd.prog 3 [.string s] w (fun v w' => v = .bool true ∧ Ext w w') := by
  refine fn_laws_FnExactParseTags _ _ _ ?_
  unfold g_laws_FnExactParseTags
  refine br_d (fun _ => ⟨rfl, Ext.refl _⟩) (fun hsz => ?_)
  have hs : s.size ≤ 1000000000 := by omega
  have h4 := readI_len (s := s)
  have hm : ((readI s).getD []).length ≤ maxLen := by unfold maxLen; omega
  refine (c_spec_ParseTags s w hs).mono ?_
  rintro _ w2 ⟨l3, rfl, h3, e2⟩
  rw [read_same] at h3 ⊢
  refine ⟨l3, _, rfl, (c_impl_ParseTags s w2 hs).mono ?_⟩
  rintro _ w6 ⟨l7, rfl, o7, e6⟩
  have s7 := o7.slOf cS_len (by decide)
  refine ⟨l7, _, rfl, (c_laws_eqStringS s7 (h3.ext e6) hm).go fun w10 e10 => ⟨_, rfl, br_f (by simp) (br_f (by simp) ?_)⟩⟩
  have z2 := e2.size
  have z6 := e6.size
  refine (c_laws_markStringS (base := w2.heap.size) 1 (o7.ext e10) (by have := e10.size; omega) (by omega) (by omega) (by omega)).mono ?_
  rintro _ w13 ⟨rfl, o13, g13⟩
  have h3' : Strs w13 l3 ((readI s).getD []) := by
    refine strs_keep ((h3.ext e6).ext e10) g13 fun k hk _ => ?_
    have hb := ((o7.ext e10).lt k hk).1
    by_cases hx : (readI s).getD [] = []
    · exact .inl hx
    · refine .inr fun a ha => ?_
      have := h3.block_lt cS_len (by decide) hx ha
      omega
  refine ⟨_, rfl, (c_laws_heldStringS (n := ((readI s).getD []).length) 1 (o13.slOf cS_len (by decide)) (by omega) (by omega) (by omega)).go fun w16 e16 => ⟨_, rfl, br_df (by omega) (br_f (by simp) ?_)⟩⟩
  have e013 : Ext w w13 := ((e2.trans e6).trans e10).own (o7.ext e10) g13 z2
  refine (c_impl_ParseTags s w16 hs).mono ?_
  rintro _ w19 ⟨l20, rfl, o20, e19⟩
  have s20 := o20.slOf cS_len (by decide)
  refine ⟨l20, _, rfl, (c_laws_eqStringS s20 ((h3'.ext e16).ext e19) hm).go fun w23 e23 => ⟨_, rfl, br_f (by simp) (br_f (by simp) ?_)⟩⟩
  have e1323 := (e16.trans e19).trans e23
  exact (c_laws_heldStringS (n := ((readI s).getD []).length) 1 ((o13.ext e1323).slOf cS_len (by decide)) (by omega) (by omega) (by omega)).go fun w26 e26 => ⟨_, rfl, br_df (by omega) (br_f (by simp) ⟨rfl, (e013.trans e1323).trans e26⟩)⟩

theorem c_laws_FnTagsRoundTrip {w : World} {s : Sl} {bs : List UInt8} (hs : Bytes w s bs) (_ : s.cap ≤ maxLen) : CallR Tryd.prog 4 [.slice s.a s.len s.cap] w (fun v w' => v = .bool true ∧ Ext w w') := by
  refine fn_laws_FnTagsRoundTrip _ _ _ ?_
  unfold g_laws_FnTagsRoundTrip
  refine br_d (fun _ => ⟨rfl, Ext.refl _⟩) (fun _ => ?_)
  refine (c_spec_DrawFormatTags hs).mono ?_
  rintro _ w1 ⟨⟨l, xs, rfl, h1, hl, hsz⟩, e1⟩
  have m1 : xs.length ≤ maxLen := by unfold maxLen; omega
  have m3 : ∀ x ∈ xs, x.size ≤ maxLen := fun x hx => by have := hsz x hx; unfold maxLen; omega
  refine ⟨l, rfl, (c_impl_FormatTags h1 m1).go fun w2 e2 => ⟨_, rfl, ?_⟩⟩
  refine (c_spec_FormatTags (h1.ext e2) m1 m3).go fun w3 e3 => ⟨_, rfl, br_f (by simp [seqB_eq]) ?_⟩
  have h3 := (h1.ext e2).ext e3
  have e03 := (e1.trans e2).trans e3
  refine br_i (fun _ => (c_spec_FormatTags h3 m1 m3).go fun w4 e4 => ⟨_, rfl, by simp [seqB_eq], e03.trans e4⟩) (fun h0 => ?_)
  have hv : vTags xs = true := by
    cases hv : vTags xs with
    | true => rfl
    | false =>
      rw [seqB_eq] at h0
      have := of_decide_eq_false h0
      exfalso; apply this; simp [fmtStr, hv, bstr]
  have hsz' : (fmtStr xs).size ≤ 1000000000 := by
    rw [fmtStr, if_pos hv, bstr_size]
    have := tagsText_len (vTags_iff.1 hv).2
    omega
  refine (c_impl_ParseTags (fmtStr xs) w3 hsz').mono ?_
  rintro _ w4 ⟨l4, rfl, o4, e4⟩
  rw [readI_fmt hv] at o4 ⊢
  exact ⟨l4, _, rfl, br_t rfl ((c_laws_equalTexts (o4.slOf cS_len (by decide)) (h3.ext e4) m1).go fun w5 e5 => ⟨_, rfl, by simp, (e03.trans e4).trans e5⟩)⟩

theorem c_spec_DrawParseTags {w : World} {s : Sl} {bs : List UInt8} (hs : Bytes w s bs) :
    CallR Tryd.prog 15 [.slice s.a s.len s.cap] w (fun v w' => (∃ x : ByteArray, v = .string x ∧ x.size ≤ 1000000) ∧ Ext w w') := by
  refine fn_spec_DrawParseTags _ _ _ ?_
  unfold g_spec_DrawParseTags
  refine (c_spec_newReader hs).mono ?_
  rintro _ w1 ⟨rfl, h1, e1⟩
  have hlt := h1.lt
  refine ⟨_, rfl, (c_spec_anyTags _ h1 (by omega) (by decide)).mono ?_⟩
  rintro _ w4 ⟨⟨lw, want, rfl, hw, apw, hwl, hws, _⟩, h4, c4⟩
  have m1 : want.length ≤ maxLen := by unfold maxLen; omega
  have m3 : ∀ x ∈ want, x.size ≤ maxLen := fun x hx => by have := hws x hx; unfold maxLen; omega
  have e4 := e1.chg c4 (Nat.le_refl _)
  refine ⟨lw, rfl, (c_spec_FormatTags hw m1 m3).go fun w5 e5 => ⟨_, rfl, ?_⟩⟩
  have hsz : (fmtStr want).size ≤ 100000 := by
    unfold fmtStr
    split
    · rename_i hv
      rw [bstr_size]
      have := tagsText_len (vTags_iff.1 hv).2
      omega
    · rw [bstr_size]; simp
  refine (c_spec_reader_pick 3 (h4.ext e5) (by omega) (by omega)).mono ?_
  rintro _ w6 ⟨⟨k, rfl, _⟩, h6, c6⟩
  have e6 := (e4.trans e5).chg c6 (Nat.le_refl _)
  refine ⟨_, rfl, br_i (fun _ => ?_) (fun _ => ⟨⟨_, rfl, by omega⟩, e6⟩)⟩
  refine (c_spec_mutate _ h6 (by omega) hsz).mono ?_
  rintro _ w7 ⟨⟨x, rfl, hx⟩, _, c7⟩
  exact ⟨_, rfl, ⟨x, rfl, by omega⟩, e6.chg c7 (Nat.le_refl _)⟩

theorem c_laws_FnTagsCanonical {w : World} {s : Sl} {bs : List UInt8} (hs : Bytes w s bs) (_ : s.cap ≤ maxLen) : CallR Tryd.prog 5 [.slice s.a s.len s.cap] w (fun v w' => v = .bool true ∧ Ext w w') := by
  refine fn_laws_FnTagsCanonical _ _ _ ?_
  unfold g_laws_FnTagsCanonical
  refine br_d (fun _ => ⟨rfl, Ext.refl _⟩) (fun _ => ?_)
  refine (c_spec_DrawParseTags hs).mono ?_
  rintro _ w1 ⟨⟨x, rfl, hx⟩, e1⟩
  have h4 := readI_len (s := x)
  have hm : ((readI x).getD []).length ≤ maxLen := by unfold maxLen; omega
  refine ⟨_, rfl, (c_impl_ParseTags x w1 (by omega)).mono ?_⟩
  rintro _ w2 ⟨l2, rfl, o2, e2⟩
  have s2 := o2.slOf cS_len (by decide)
  refine ⟨l2, _, rfl, (c_spec_ParseTags x w2 (by omega)).mono ?_⟩
  rintro _ w3 ⟨l3, rfl, h3, e3⟩
  rw [read_same] at h3 ⊢
  have e03 := (e1.trans e2).trans e3
  refine ⟨l3, _, rfl, (c_laws_equalTexts (s2.ext e3) h3 hm).go fun w4 e4 => ⟨_, rfl, br_f (by simp) (br_f (by simp) ?_)⟩⟩
  have e04 := e03.trans e4
  cases hr : readI x with
  | none => exact br_t rfl ⟨rfl, e04⟩
  | some xs =>
    obtain ⟨hv, hf⟩ := readI_out hr
    rw [hr] at s2 h4
    have s4 : Strs w4 l2 xs := (s2.ext e3).ext e4
    have hl := s4.len
    have h4' : xs.length ≤ 4 := h4
    refine br_f rfl ((c_impl_FormatTags s4 (by unfold maxLen; omega)).go fun w5 e5 => ⟨_, rfl, ?_⟩)
    rw [hf]
    exact br_t (by simp [seqB_eq]) ⟨by rw [decide_eq_true (by omega)], e04.trans e5⟩
end Go.Proofs
