/-
  What functions of this seat compute, part 'TagsText': contracts over their readable predicates. Conditions: each theorem's own hypotheses.
-/
import Derived.Test.YtpofoikpmafnbaaDoorBase
import Derived.Test.YtpofoikpmafnbaaDoorOpen
import Derived.Test.YtpofoikpmafnbaaDoorGen
import Derived.Test.YtpofoikpmafnbaaDoorCTags
import Derived.Test.YtpofoikpmafnbaaDoorCTagsShelf
import Derived.Test.YtpofoikpmafnbaaDoorCBuilderW
import Derived.Test.YtpofoikpmafnbaaDoorCBstr
namespace Go.Proofs
open Go Go.Vc Go.RowKit
set_option maxRecDepth 100000
set_option linter.unusedVariables false
--! C:Tags C:TagsShelf C:BuilderW C:Bstr
/-! ## Tags: their text -/

def fmtT (x : ByteArray) : List UInt8 := if x = star then [42] else 34 :: x.data.toList ++ [34]
def tagsText (xs : List ByteArray) : List UInt8 := (xs.flatMap fun x => 44 :: fmtT x).drop 1
def fmtStr (xs : List ByteArray) : ByteArray := if vTags xs = true then bstr (tagsText xs) else bstr []

theorem tagsText_one (x : ByteArray) : tagsText [x] = fmtT x := by simp [tagsText]
theorem tagsText_snoc {pre : List ByteArray} (h : pre ≠ []) (x : ByteArray) : tagsText (pre ++ [x]) = tagsText pre ++ 44 :: fmtT x := by
  unfold tagsText
  rw [List.flatMap_append, List.drop_append_of_le_length]
  · simp
  · cases pre with
    | nil => exact absurd rfl h
    | cons y r => simp

theorem fmtT_len {x : ByteArray} (h : x = star ∨ vTag x = true) : (fmtT x).length ≤ 6 := by
  unfold fmtT
  split
  · simp
  · rename_i hn
    have h2 := h.resolve_left hn
    simp only [vTag, Bool.and_eq_true, decide_eq_true_eq] at h2
    have := h2.1
    simp; simp at this; omega

theorem tagsText_len {xs : List ByteArray} (h : ∀ x ∈ xs, x = star ∨ vTag x = true) : (tagsText xs).length ≤ 7 * xs.length := by
  have key : (xs.flatMap fun x => 44 :: fmtT x).length ≤ 7 * xs.length := by
    induction xs with
    | nil => simp
    | cons y r ih =>
      have h1 := fmtT_len (h y List.mem_cons_self)
      have h2 := ih (fun x hx => h x (List.mem_cons_of_mem _ hx))
      simp only [List.flatMap_cons, List.length_append, List.length_cons] at h2 ⊢
      omega
  unfold tagsText
  rw [List.length_drop]; omega

theorem vTags_len {xs : List ByteArray} (h : vTags xs = true) : xs.length ≤ 4 := by
  simp only [vTags, Bool.and_eq_true, decide_eq_true_eq] at h
  exact h.1

theorem vTag_size {x : ByteArray} (h : vTag x = true) : x.size = 4 := by
  simp only [vTag, Bool.and_eq_true, decide_eq_true_eq] at h
  rw [size_eq]; exact h.1

def quo (l : List UInt8) : List UInt8 := l.flatMap fun c => if c = 34 ∨ c = 92 then [92, c] else [c]
theorem quo_snoc (l : List UInt8) (c : UInt8) : quo (l ++ [c]) = quo l ++ (if c = 34 ∨ c = 92 then [92, c] else [c]) := by simp [quo]
theorem quo_len (l : List UInt8) : (quo l).length ≤ 2 * l.length := by
  induction l with
  | nil => simp [quo]
  | cons c r ih =>
    unfold quo at *
    rw [List.flatMap_cons, List.length_append, List.length_cons]
    split <;> simp only [List.length_cons, List.length_nil] <;> omega
theorem quo_id {l : List UInt8} (h : ∀ c ∈ l, c ≠ 34 ∧ c ≠ 92) : quo l = l := by
  induction l with
  | nil => rfl
  | cons c r ih =>
    have h1 := h c List.mem_cons_self
    have h2 := ih (fun x hx => h x (List.mem_cons_of_mem _ hx))
    unfold quo at *
    rw [List.flatMap_cons, h2, if_neg (by simp [h1.1, h1.2])]
    rfl

theorem c_impl_writeText {B b : Nat} {bs : List UInt8} {w : World} (s : ByteArray) (h : Bd B b bs w) (hs : s.size ≤ 1048576) (hl : bs.length ≤ 1073741824) (hB : B ≤ w.heap.size) :
    CallR Tryd.prog 25 [.pointer (some ⟨b, 0, none⟩), .string s] w (fun v w' => v = .tuple #[] ∧ Bd B b (bs ++ (34 :: quo s.data.toList ++ [34])) w' ∧ Below B w w') := by
  refine fn_impl_writeText _ _ _ _ ?_
  unfold g_impl_writeText
  have hsz := size_eq s
  refine (c_WriteByte 34 rfl h (by omega) hB).mono ?_
  rintro _ w1 ⟨rfl, h1, b1⟩
  refine ⟨_, rfl, ?_⟩
  refine sLoop_list s.data.toList (fun pre _ w' => Bd B b (bs ++ 34 :: quo pre) w' ∧ Below B w w') ⟨by simpa [quo] using h1, b1⟩ ?_ ?_
  · intro K pre post c t w2 hx ⟨h2, b2⟩ hK _
    have hm := mid_len hx
    have hb := byteAt_mid hx
    have hq := quo_len pre
    have hB2 := Nat.le_trans hB b2.size
    have hlen : (bs ++ 34 :: quo pre).length ≤ 1073741824 + 1 + 2 * 1048576 := by simp; omega
    rw [hb]
    have esc : ∀ K' : World → Prop, (c = 34 ∨ c = 92) → (∀ w', Bd B b (bs ++ 34 :: quo (pre ++ [c])) w' → Below B w w' → K' w') → CallR Tryd.prog 23 [.pointer (some ⟨b, 0, none⟩), .int .u8 92] w2 (fun v w' => CallR Tryd.prog 23 [.pointer (some ⟨b, 0, none⟩), .int .u8 (c.toNat : Int)] w' (fun v w'' => K' w'')) := fun K' hc hk => by
      refine (c_WriteByte 92 rfl h2 (by omega) hB2).mono ?_
      rintro _ w3 ⟨_, h3, b3⟩
      refine (c_WriteByte c rfl h3 (by simp at hlen ⊢; omega) (Nat.le_trans hB2 b3.size)).mono ?_
      rintro _ w4 ⟨_, h4, b4⟩
      refine hk _ ?_ ((b2.trans b3).trans b4)
      rw [quo_snoc, if_pos hc]
      simpa using h4
    refine br_dt (by omega) ⟨⟨by omega, by omega⟩, br_i (fun e1 => ?_) (fun e1 => ⟨⟨by omega, by omega⟩, br_i (fun e2 => ?_) (fun e2 => ⟨⟨by omega, by omega⟩, ?_⟩)⟩)⟩
    · have hc : c = 34 := u8_eq (by simpa using e1)
      refine (esc (fun w' => K ((pre.length : Int) + 1, ()) w') (.inl hc) fun w' h4 b4 => hK _ _ ⟨h4, b4⟩).mono ?_
      intro v w3 h3
      refine ⟨_, rfl, ⟨by omega, by omega⟩, h3.mono fun v' w4 h4 => ⟨_, rfl, inR_i64 (by omega) (by omega), h4⟩⟩
    · have hc : c = 92 := u8_eq (by simpa using e2)
      refine (esc (fun w' => K ((pre.length : Int) + 1, ()) w') (.inr hc) fun w' h4 b4 => hK _ _ ⟨h4, b4⟩).mono ?_
      intro v w3 h3
      refine ⟨_, rfl, ⟨by omega, by omega⟩, h3.mono fun v' w4 h4 => ⟨_, rfl, inR_i64 (by omega) (by omega), h4⟩⟩
    · have hc : ¬ (c = 34 ∨ c = 92) := by
        rintro (rfl | rfl)
        · simp at e1
        · simp at e2
      refine (c_WriteByte c rfl h2 (by omega) hB2).mono ?_
      rintro _ w3 ⟨rfl, h3, b3⟩
      refine ⟨_, rfl, inR_i64 (by omega) (by omega), hK _ _ ⟨?_, b2.trans b3⟩⟩
      rw [quo_snoc, if_neg hc]
      simpa using h3
  · intro K t w2 ⟨h2, b2⟩ _
    have hq := quo_len s.data.toList
    refine br_df (by omega) ((c_WriteByte 34 rfl h2 (by simp; omega) (Nat.le_trans hB b2.size)).mono ?_)
    rintro _ w3 ⟨rfl, h3, b3⟩
    exact ⟨_, rfl, rfl, by simpa using h3, b2.trans b3⟩

theorem c_impl_FormatTags {s : Sl} {xs : List ByteArray} {w : World} (h : Strs w s xs) (hlen : xs.length ≤ maxLen) :
    CallR Tryd.prog 12 [.slice s.a s.len s.cap] w (fun v w' => v = .string (fmtStr xs) ∧ Ext w w') := by
  refine fn_impl_FormatTags _ _ _ ?_
  unfold g_impl_FormatTags
  refine (c_impl_areTags c_isSum h).mono ?_
  rintro _ w1 ⟨rfl, e1⟩
  refine ⟨_, rfl, br_i (fun h0 => ⟨?_, e1⟩) (fun h0 => letW_i fun w2 hw2 => ?_)⟩
  · have : vTags xs = false := by simpa using h0
    simp [fmtStr, this, bstr]
  have hv : vTags xs = true := by simpa using h0
  have hall := validTags_all hv
  have h4 := vTags_len hv
  have e12 : Ext w1 w2 := by rw [hw2]; exact (Ext.refl w1).alloc _
  have d2 : Bd w1.heap.size w1.heap.size [] w2 := by rw [hw2]; exact Bd.new w1
  have hl0 := h.len
  refine sLoop_list xs (fun pre _ w' => Bd w1.heap.size w1.heap.size (tagsText pre) w' ∧ Ext w1 w') ⟨by simpa [tagsText] using d2, e12⟩ ?_ ?_
  · intro K pre post c t w3 hx ⟨d3, e3⟩ hK _
    have hm := mid_len hx
    obtain ⟨a, ha1, hc⟩ := (h.ext (e1.trans e3)).sm hx
    have hpre : ∀ x ∈ pre, x = star ∨ vTag x = true := fun x hx' => hall x (by rw [hx]; simp [hx'])
    have hcv := hall c (by rw [hx]; simp)
    have hlen3 := tagsText_len hpre
    have inner : ∀ (w4 : World) (bs : List UInt8), Bd w1.heap.size w1.heap.size bs w4 → Ext w1 w4 → bs.length ≤ 100 → bs ++ fmtT c = tagsText (pre ++ [c]) →
        br (seqB c (⟨#[42]⟩ : ByteArray)) (CallR Tryd.prog 24 [.pointer (some (⟨w1.heap.size, 0, none⟩ : Addr)), .string c] w4 (fun r20 w21 => ∃ n22 : Int, ∃ v23 : Value, r20 = .tuple #[.int .i64 n22, v23] ∧ InR .i64 ((pre.length : Int) + (1 : Int)) ∧ K (((pre.length : Int) + (1 : Int)), ()) w21)) (CallR Tryd.prog 25 [.pointer (some (⟨w1.heap.size, 0, none⟩ : Addr)), .string c] w4 (fun r24 w25 => r24 = .tuple #[] ∧ InR .i64 ((pre.length : Int) + (1 : Int)) ∧ K (((pre.length : Int) + (1 : Int)), ()) w25)) := by
      intro w4 bs d4 e4 hb4 hbs
      rw [seqB_eq]
      refine br_d (fun hs => ?_) (fun hs => ?_)
      · have hst : c = star := hs
        refine (c_WriteString c d4 (by rw [hst]; show bs.length + 1 ≤ _; omega) e4.size).mono ?_
        rintro _ w5 ⟨rfl, d5, e5⟩
        refine ⟨_, _, rfl, inR_i64 (by omega) (by omega), hK _ _ ⟨?_, Below.trans e4 e5⟩⟩
        rw [← hbs]
        have : fmtT c = c.data.toList := by rw [hst]; rfl
        rw [this]; exact d5
      · have hst : c ≠ star := hs
        have hvc := hcv.resolve_left hst
        have hs4 := vTag_size hvc
        refine (c_impl_writeText c d4 (by omega) (by omega) e4.size).mono ?_
        rintro _ w5 ⟨rfl, d5, e5⟩
        refine ⟨rfl, inR_i64 (by omega) (by omega), hK _ _ ⟨?_, Below.trans e4 e5⟩⟩
        rw [← hbs]
        have hq : quo c.data.toList = c.data.toList := quo_id fun u hu => by
          simp only [vTag, Bool.and_eq_true, List.all_eq_true] at hvc
          have := hvc.2 u hu
          constructor <;> (rintro rfl; exact absurd this (by decide))
        have : fmtT c = 34 :: c.data.toList ++ [34] := by unfold fmtT; rw [if_neg hst]
        rw [this]
        rw [hq] at d5; exact d5
    refine br_dt (by omega) (onSome_i ha1 ⟨⟨by omega, by omega⟩, _, hc, br_d (fun h5 => ?_) (fun h5 => ?_)⟩)
    · refine (c_WriteByte 44 rfl d3 (by omega) e3.size).mono ?_
      rintro _ w4 ⟨rfl, d4, e4⟩
      refine ⟨_, rfl, inner w4 _ d4 (Below.trans e3 e4) (by simp; omega) ?_⟩
      rw [tagsText_snoc (by rintro rfl; simp at h5)]
      simp
    · have : pre = [] := by
        cases pre with
        | nil => rfl
        | cons y r => exfalso; simp at h5
      subst this
      exact inner w3 _ d3 e3 (by simp [tagsText]) (by simp [tagsText])
  · intro K t w3 ⟨d3, e3⟩ _
    refine br_df (by omega) ((c_String d3 e3.size).mono ?_)
    rintro _ w4 ⟨rfl, e4⟩
    exact ⟨_, rfl, by simp [fmtStr, hv, bstr], e1.trans (Below.trans e3 e4)⟩

theorem c_spec_FormatTags {s : Sl} {xs : List ByteArray} {w : World} (h : Strs w s xs) (hlen : xs.length ≤ maxLen) (hsz : ∀ x ∈ xs, x.size ≤ maxLen) :
    CallR Tryd.prog 13 [.slice s.a s.len s.cap] w (fun v w' => v = .string (fmtStr xs) ∧ Ext w w') := by
  refine fn_spec_FormatTags _ _ _ ?_
  unfold g_spec_FormatTags
  refine (c_spec_validTags h hlen hsz).mono ?_
  rintro _ w1 ⟨rfl, e1⟩
  refine ⟨_, rfl, br_i (fun h0 => ⟨?_, e1⟩) (fun h0 => ?_)⟩
  · have : vTags xs = false := by simpa using h0
    simp [fmtStr, this, bstr]
  have hv : vTags xs = true := by simpa using h0
  have hall := validTags_all hv
  have h4 := vTags_len hv
  have hl0 := h.len
  refine sLoop_list xs (fun pre t w' => t.1 = bstr (tagsText pre) ∧ Ext w1 w') ⟨by simp [tagsText, bstr], Ext.refl _⟩ ?_ ?_
  · rintro K pre post c ⟨t, u⟩ w3 hx ⟨ht, e3⟩ hK _
    simp only at ht
    subst ht
    have hm := mid_len hx
    obtain ⟨a, ha1, hc⟩ := (h.ext (e1.trans e3)).sm hx
    have hpre : ∀ x ∈ pre, x = star ∨ vTag x = true := fun x hx' => hall x (by rw [hx]; simp [hx'])
    have hcv := hall c (by rw [hx]; simp)
    have hlen3 := tagsText_len hpre
    have q1 : (⟨#[44]⟩ : ByteArray) = bstr [44] := rfl
    have q2 : (⟨#[42]⟩ : ByteArray) = bstr [42] := rfl
    have q3 : (⟨#[34]⟩ : ByteArray) = bstr [34] := rfl
    have qc : c = bstr c.data.toList := (bstr_self c).symm
    have inner : ∀ (bs : List UInt8), bs.length ≤ 100 → bs ++ fmtT c = tagsText (pre ++ [c]) → onSome s.a (fun a12 => ((0 : Int) ≤ (pre.length : Int) ∧ (pre.length : Int) < (s.len : Int)) ∧ ∃ s13 : ByteArray, w3.cell? (a12.add ((pre.length : Int).toNat * 1)) = some (.string s13) ∧ br (seqB s13 (⟨#[42]⟩ : ByteArray)) (((bstr bs).size + (⟨#[42]⟩ : ByteArray).size ≤ 4611686018427387904) ∧ InR .i64 ((pre.length : Int) + (1 : Int)) ∧ K (((pre.length : Int) + (1 : Int)), ((bstr bs) ++ (⟨#[42]⟩ : ByteArray)), ()) w3) (((bstr bs).size + (⟨#[34]⟩ : ByteArray).size ≤ 4611686018427387904) ∧ onSome s.a (fun a14 => ((0 : Int) ≤ (pre.length : Int) ∧ (pre.length : Int) < (s.len : Int)) ∧ ∃ s15 : ByteArray, w3.cell? (a14.add ((pre.length : Int).toNat * 1)) = some (.string s15) ∧ (((bstr bs) ++ (⟨#[34]⟩ : ByteArray)).size + s15.size ≤ 4611686018427387904) ∧ ((((bstr bs) ++ (⟨#[34]⟩ : ByteArray)) ++ s15).size + (⟨#[34]⟩ : ByteArray).size ≤ 4611686018427387904) ∧ InR .i64 ((pre.length : Int) + (1 : Int)) ∧ K (((pre.length : Int) + (1 : Int)), ((((bstr bs) ++ (⟨#[34]⟩ : ByteArray)) ++ s15) ++ (⟨#[34]⟩ : ByteArray)), ()) w3))) := by
      intro bs hb hbs
      refine onSome_i ha1 ⟨⟨by omega, by omega⟩, _, hc, ?_⟩
      rw [seqB_eq]
      refine br_d (fun hs => ?_) (fun hs => ?_)
      · rw [q2, bstr_append, bstr_size, bstr_size]
        refine ⟨by simp; omega, inR_i64 (by omega) (by omega), hK _ _ ⟨?_, e3⟩⟩
        have : fmtT c = [42] := by unfold fmtT; rw [if_pos (show c = star from hs)]
        rw [← hbs, this]
      · have hst : c ≠ star := hs
        have hvc := hcv.resolve_left hst
        have hs4 := vTag_size hvc
        have hs4' : c.data.toList.length = 4 := by rw [← size_eq]; exact hs4
        rw [q3, bstr_append, bstr_size]
        refine ⟨by rw [bstr_size]; simp; omega, onSome_i ha1 ⟨⟨by omega, by omega⟩, _, hc, ?_⟩⟩
        rw [bstr_size, hs4]
        have : bstr (bs ++ [34]) ++ c = bstr (bs ++ [34] ++ c.data.toList) := by conv => lhs; rw [qc, bstr_append]
        rw [this, bstr_append, bstr_size, bstr_size]
        refine ⟨by simp; omega, by simp only [List.length_append, List.length_cons, List.length_nil, hs4']; omega, inR_i64 (by omega) (by omega), hK _ _ ⟨?_, e3⟩⟩
        have : fmtT c = 34 :: c.data.toList ++ [34] := by unfold fmtT; rw [if_neg hst]
        rw [← hbs, this]
        simp
    refine br_dt (by omega) (br_d (fun h5 => ?_) (fun h5 => ?_))
    · rw [q1, bstr_append, bstr_size, bstr_size]
      refine ⟨by simp; omega, inner _ (by simp; omega) ?_⟩
      rw [tagsText_snoc (by rintro rfl; simp at h5)]
      simp
    · have : pre = [] := by
        cases pre with
        | nil => rfl
        | cons y r => exfalso; simp at h5
      subst this
      exact inner [] (by simp) (by simp [tagsText])
  · rintro K ⟨t, u⟩ w3 ⟨ht, e3⟩ _
    simp only at ht
    subst ht
    exact br_df (by omega) ⟨by simp [fmtStr, hv], e1.trans e3⟩
end Go.Proofs
