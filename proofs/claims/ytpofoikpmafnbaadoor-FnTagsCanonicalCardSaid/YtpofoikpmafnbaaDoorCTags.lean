/-
  What functions of this seat compute, part 'Tags': contracts over their readable predicates. Conditions: each theorem's own hypotheses.
-/
import Derived.Test.YtpofoikpmafnbaaDoorBase
import Derived.Test.YtpofoikpmafnbaaDoorOpen
import Derived.Test.YtpofoikpmafnbaaDoorGen
import Derived.Lib.IndexBytes
namespace Go.Proofs
open Go Go.Vc Go.RowKit
set_option maxRecDepth 100000
set_option linter.unusedVariables false
--! M:Derived.Lib.IndexBytes
/-! ## Tags: plain words -/

def isHex (c : UInt8) : Bool := (48 ≤ c.toNat && c.toNat ≤ 57) || (97 ≤ c.toNat && c.toNat ≤ 102)
def vTag (s : ByteArray) : Bool := decide (s.data.toList.length = 4) && s.data.toList.all isHex
def star : ByteArray := ⟨#[42]⟩
def vTags (xs : List ByteArray) : Bool := decide (xs.length ≤ 4) && xs.all fun t => decide (t = star) || vTag t
def hasT (xs : List ByteArray) (t : ByteArray) : Bool := xs.any fun x => decide (x = t) || decide (x = star)
def emptyB : ByteArray := ⟨#[]⟩

def chk (want avoid : List ByteArray) (tag : ByteArray) (reads : Bool) : Int :=
  if want ≠ [] ∧ (tag = emptyB ∨ hasT want tag = false) then 412
  else if avoid ≠ [] ∧ tag ≠ emptyB ∧ hasT avoid tag = true then (if reads then 304 else 412)
  else 200

def okCond (want avoid : List ByteArray) (tag : ByteArray) : Bool := vTags want && vTags avoid && (decide (tag = emptyB) || vTag tag)
def checkT (want avoid : List ByteArray) (tag : ByteArray) (reads : Bool) : Int :=
  if okCond want avoid tag = true then chk want avoid tag reads else 400

/-! ## Tags: the specification's functions -/

theorem c_spec_inRange (n lo hi : Int) (w : World) : CallR Tryd.prog 35 [.int .i64 n, .int .i64 lo, .int .i64 hi] w (fun v w' => v = .bool (decide (lo ≤ n ∧ n ≤ hi)) ∧ Ext w w') := by
  refine fn_spec_inRange _ _ _ _ _ ?_
  unfold g_spec_inRange
  exact br_d (fun h1 => ⟨by simp [h1], Ext.refl _⟩) (fun h1 => ⟨by simp [h1], Ext.refl _⟩)

theorem c_spec_validTag (s : ByteArray) (w : World) (hs : s.size ≤ maxLen) : CallR Tryd.prog 29 [.string s] w (fun v w' => v = .bool (vTag s) ∧ Ext w w') := by
  refine fn_spec_validTag _ _ _ ?_
  unfold g_spec_validTag
  unfold maxLen at hs
  have hsz := size_eq s
  refine sLoop_list s.data.toList (fun pre _ w' => Ext w w' ∧ pre.all isHex = true) ⟨Ext.refl _, rfl⟩ ?_ ?_
  · intro K pre post c t w1 hx ⟨he, ha⟩ hK _
    have hl := mid_len hx
    have hb := byteAt_mid hx
    have hc := c.toNat_lt
    refine br_dt (by omega) ⟨⟨by omega, by omega⟩, inR_i64 (by rw [hb]; omega) (by rw [hb]; omega), ?_⟩
    refine (c_spec_inRange _ _ _ _).mono ?_
    rintro _ w2 ⟨rfl, e2⟩
    refine ⟨_, rfl, ?_⟩
    rw [hb]
    refine br_i (fun h1 => ?_) (fun h1 => ?_)
    · refine ⟨⟨by omega, by omega⟩, inR_i64 (by omega) (by omega), ?_⟩
      refine (c_spec_inRange _ _ _ _).mono ?_
      rintro _ w3 ⟨rfl, e3⟩
      refine ⟨_, rfl, ?_⟩
      refine br_i (fun h2 => ?_) (fun h2 => ?_)
      · refine ⟨?_, (he.trans e2).trans e3⟩
        have : isHex c = false := by simp [isHex] at *; omega
        simp [vTag, hx, this]
      · refine ⟨inR_i64 (by omega) (by omega), hK _ _ ⟨(he.trans e2).trans e3, ?_⟩⟩
        have : isHex c = true := by simp [isHex] at *; omega
        simp [ha, this]
    · refine ⟨inR_i64 (by omega) (by omega), hK _ _ ⟨he.trans e2, ?_⟩⟩
      have : isHex c = true := by simp [isHex] at *; omega
      simp [ha, this]
  · intro K t w1 ⟨he, ha⟩ _
    refine br_df (by omega) ⟨?_, he⟩
    simp only [vTag, ha, hsz, Bool.and_true]
    congr 1
    rw [Bool.eq_iff_iff]; simp; omega

theorem validTags_all {xs : List ByteArray} (h : vTags xs = true) : ∀ t ∈ xs, t = star ∨ vTag t = true := by
  simp only [vTags, Bool.and_eq_true, decide_eq_true_eq, List.all_eq_true, Bool.or_eq_true] at h
  exact h.2

theorem c_spec_validTags {s : Sl} {xs : List ByteArray} {w : World} (h : Strs w s xs) (hlen : xs.length ≤ maxLen) (hsz : ∀ x ∈ xs, x.size ≤ maxLen) :
    CallR Tryd.prog 16 [.slice s.a s.len s.cap] w (fun v w' => v = .bool (vTags xs) ∧ Ext w w') := by
  refine fn_spec_validTags _ _ _ ?_
  unfold g_spec_validTags
  unfold maxLen at hlen
  have hl0 := h.len
  refine sLoop_list xs (fun pre _ w' => Ext w w' ∧ (pre.all fun t => decide (t = star) || vTag t) = true) ⟨Ext.refl _, rfl⟩ ?_ ?_
  · intro K pre post c t w1 hx ⟨he, ha⟩ hK _
    have hl := mid_len hx
    obtain ⟨a, ha1, hc⟩ := (h.ext he).sm hx
    refine br_dt (by omega) (onSome_i ha1 ⟨⟨by omega, by omega⟩, _, hc, ?_⟩)
    rw [seqB_eq]
    refine br_i (fun h1 => ?_) (fun h1 => ?_)
    · refine onSome_i ha1 ⟨⟨by omega, by omega⟩, _, hc, ?_⟩
      refine (c_spec_validTag _ _ (hsz _ (by rw [hx]; simp))).mono ?_
      rintro _ w2 ⟨rfl, e2⟩
      refine ⟨_, rfl, ?_⟩
      refine br_i (fun h2 => ?_) (fun h2 => ?_)
      · refine ⟨?_, he.trans e2⟩
        have : (decide (c = star) || vTag c) = false := by
          simp only [Bool.not_eq_true', decide_eq_false_iff_not] at h1 h2
          simp only [Bool.or_eq_false_iff, decide_eq_false_iff_not]
          exact ⟨h1, h2⟩
        simp [vTags, hx, this]
      · refine ⟨inR_i64 (by omega) (by omega), hK _ _ ⟨he.trans e2, ?_⟩⟩
        simp at h2
        simp [ha, h2]
    · refine ⟨inR_i64 (by omega) (by omega), hK _ _ ⟨he, ?_⟩⟩
      have : c = star := by simpa [star] using h1
      simp [ha, this]
  · intro K t w1 ⟨he, ha⟩ _
    refine br_df (by omega) ⟨?_, he⟩
    simp only [vTags, ha, hl0, Bool.and_true]
    congr 1
    rw [Bool.eq_iff_iff]; simp; omega


theorem len_pos_iff {s : Sl} {xs : List ByteArray} {w : World} (h : Strs w s xs) : (s.len : Int) > 0 ↔ xs ≠ [] := by
  have := h.len
  cases xs with
  | nil => simp at this; simp [this]
  | cons x r => simp at this; simp; omega



/-! ## Tags: the program's functions -/




theorem hexDigits_index : ∀ n : Fin 256, decide (Lib.indexByte [48, 49, 50, 51, 52, 53, 54, 55, 56, 57, 97, 98, 99, 100, 101, 102] (UInt8.ofNat n.val) < 0) = !(isHex (UInt8.ofNat n.val)) := by decide +kernel

theorem c_impl_isSum (hIB : ∀ (s : ByteArray) (c : Int) (w : World), CallR Tryd.prog 31 [.string s, .int .u8 c] w fun v w' => v = .int .i64 (Lib.indexByte s.data.toList c.toNat.toUInt8) ∧ w' = w)
    (s : ByteArray) (w : World) : CallR Tryd.prog 18 [.string s] w (fun v w' => v = .bool (vTag s) ∧ Ext w w') := by
  refine fn_impl_isSum _ _ _ ?_
  unfold g_impl_isSum
  have hsz := size_eq s
  refine br_i (fun h0 => ⟨?_, Ext.refl _⟩) (fun h0 => ?_)
  · have : s.data.toList.length ≠ 4 := by simp at h0; omega
    show Value.bool false = _
    rw [vTag, decide_eq_false this, Bool.false_and]
  have h4 : s.size = 4 := by simp at h0; omega
  refine sLoop_list s.data.toList (fun pre _ w' => Ext w w' ∧ pre.all isHex = true) ⟨Ext.refl _, rfl⟩ ?_ ?_
  · intro K pre post c t w1 hx ⟨he, ha⟩ hK _
    have hl := mid_len hx
    have hb := byteAt_mid hx
    refine br_dt (by omega) ⟨⟨by omega, by omega⟩, ?_⟩
    rw [hb]
    refine (hIB _ _ _).mono ?_
    rintro _ w2 ⟨rfl, rfl⟩
    refine ⟨_, rfl, ?_⟩
    have hd := hexDigits_index ⟨c.toNat, c.toNat_lt⟩
    simp only [UInt8.ofNat_toNat] at hd
    have hcc : ((c.toNat : Int).toNat).toUInt8 = c := by simp
    rw [hcc]
    refine br_i (fun h1 => ⟨?_, he⟩) (fun h1 => ?_)
    · have : isHex c = false := by
        have h2 : decide (Lib.indexByte [48, 49, 50, 51, 52, 53, 54, 55, 56, 57, 97, 98, 99, 100, 101, 102] c < 0) = true := h1
        rw [hd] at h2
        simpa using h2
      simp [vTag, hx, this]
    · have : isHex c = true := by
        have h2 : decide (Lib.indexByte [48, 49, 50, 51, 52, 53, 54, 55, 56, 57, 97, 98, 99, 100, 101, 102] c < 0) = false := h1
        rw [hd] at h2
        simpa using h2
      exact ⟨inR_i64 (by omega) (by omega), hK _ _ ⟨he, by simp [ha, this]⟩⟩
  · intro K t w1 ⟨he, ha⟩ _
    refine br_df (by omega) ⟨?_, he⟩
    have : s.data.toList.length = 4 := by omega
    simp only [vTag, ha, this]; rfl

theorem c_impl_areTags (hIS : ∀ (s : ByteArray) (w : World), CallR Tryd.prog 18 [.string s] w (fun v w' => v = .bool (vTag s) ∧ Ext w w'))
    {s : Sl} {xs : List ByteArray} {w : World} (h : Strs w s xs) :
    CallR Tryd.prog 22 [.slice s.a s.len s.cap] w (fun v w' => v = .bool (vTags xs) ∧ Ext w w') := by
  refine fn_impl_areTags _ _ _ ?_
  unfold g_impl_areTags
  have hl0 := h.len
  refine br_d (fun h0 => ⟨?_, Ext.refl _⟩) (fun h0 => ?_)
  · have : ¬ xs.length ≤ 4 := by omega
    simp [vTags, this]
  refine sLoop_list xs (fun pre _ w' => Ext w w' ∧ (pre.all fun t => decide (t = star) || vTag t) = true) ⟨Ext.refl _, rfl⟩ ?_ ?_
  · intro K pre post c t w1 hx ⟨he, ha⟩ hK _
    have hl := mid_len hx
    obtain ⟨a, ha1, hc⟩ := (h.ext he).sm hx
    refine br_dt (by omega) (onSome_i ha1 ⟨⟨by omega, by omega⟩, _, hc, ?_⟩)
    rw [seqB_eq]
    refine br_i (fun h1 => ?_) (fun h1 => ?_)
    · refine (hIS _ _).mono ?_
      rintro _ w2 ⟨rfl, e2⟩
      refine ⟨_, rfl, ?_⟩
      refine br_i (fun h2 => ?_) (fun h2 => ?_)
      · refine ⟨?_, he.trans e2⟩
        have : (decide (c = star) || vTag c) = false := by
          simp only [Bool.not_eq_true', decide_eq_false_iff_not] at h1 h2
          simp only [Bool.or_eq_false_iff, decide_eq_false_iff_not]
          exact ⟨h1, h2⟩
        simp [vTags, hx, this]
      · refine ⟨inR_i64 (by omega) (by omega), hK _ _ ⟨he.trans e2, ?_⟩⟩
        simp at h2
        simp [ha, h2]
    · refine ⟨inR_i64 (by omega) (by omega), hK _ _ ⟨he, ?_⟩⟩
      have : c = star := by simpa [star] using h1
      simp [ha, this]
  · intro K t w1 ⟨he, ha⟩ _
    refine br_df (by omega) ⟨?_, he⟩
    have : xs.length ≤ 4 := by omega
    simp only [vTags, ha, this]; rfl

end Go.Proofs
