/-
  What functions of this seat compute, part 'Tags': contracts over their readable predicates. Conditions: each theorem's own hypotheses.
-/
import Derived.Test.YtpofoikpmafnbaaBase
import Derived.Test.YtpofoikpmafnbaaOpen
import Derived.Test.YtpofoikpmafnbaaGen
import Derived.Lib.IndexBytes
namespace Go.Proofs
open Go Go.Vc Go.RowKit
set_option maxRecDepth 100000
set_option linter.unusedVariables false
--! M:Derived.Lib.IndexBytes
/-! ## Tags: plain words -/

def isHex (c : UInt8) : Bool := (48 ≤ c.toNat && c.toNat ≤ 57) || (97 ≤ c.toNat && c.toNat ≤ 102)
def vTag (s : ByteArray) : Bool := decide (s.data.toList.length = 4) && s.data.toList.all isHex
def star : ByteArray := ⟨#[42]⟩
def vTags (xs : List ByteArray) : Bool := decide (xs.length ≤ 4) && xs.all fun t => decide (t = star) || vTag t
def hasT (xs : List ByteArray) (t : ByteArray) : Bool := xs.any fun x => decide (x = t) || decide (x = star)
def emptyB : ByteArray := ⟨#[]⟩

def chk (want avoid : List ByteArray) (tag : ByteArray) (reads : Bool) : Int :=
  if want ≠ [] ∧ (tag = emptyB ∨ hasT want tag = false) then 412
  else if avoid ≠ [] ∧ tag ≠ emptyB ∧ hasT avoid tag = true then (if reads then 304 else 412)
  else 200

def okCond (want avoid : List ByteArray) (tag : ByteArray) : Bool := vTags want && vTags avoid && (decide (tag = emptyB) || vTag tag)
def checkT (want avoid : List ByteArray) (tag : ByteArray) (reads : Bool) : Int :=
  if okCond want avoid tag = true then chk want avoid tag reads else 400

/-! ## Tags: the specification's functions -/

theorem c_spec_inRange (n lo hi : Int) (w : World) : CallR Try.prog 33 [.int .i64 n, .int .i64 lo, .int .i64 hi] w (fun v w' => v = .bool (decide (lo ≤ n ∧ n ≤ hi)) ∧ Ext w w') := by
  refine fn_spec_inRange _ _ _ _ _ ?_
  unfold g_spec_inRange
  exact br_d (fun h1 => ⟨by simp [h1], Ext.refl _⟩) (fun h1 => ⟨by simp [h1], Ext.refl _⟩)

theorem c_spec_validTag (s : ByteArray) (w : World) (hs : s.size ≤ maxLen) : CallR Try.prog 20 [.string s] w (fun v w' => v = .bool (vTag s) ∧ Ext w w') := by
  refine fn_spec_validTag _ _ _ ?_
  unfold g_spec_validTag
  unfold maxLen at hs
  have hsz := size_eq s
  refine sLoop_list s.data.toList (fun pre _ w' => Ext w w' ∧ pre.all isHex = true) ⟨Ext.refl _, rfl⟩ ?_ ?_
  · intro K pre post c t w1 hx ⟨he, ha⟩ hK _
    have hl := mid_len hx
    have hb := byteAt_mid hx
    have hc := c.toNat_lt
    refine br_dt (by omega) ⟨⟨by omega, by omega⟩, inR_i64 (by rw [hb]; omega) (by rw [hb]; omega), ?_⟩
    refine (c_spec_inRange _ _ _ _).mono ?_
    rintro _ w2 ⟨rfl, e2⟩
    refine ⟨_, rfl, ?_⟩
    rw [hb]
    refine br_i (fun h1 => ?_) (fun h1 => ?_)
    · refine ⟨⟨by omega, by omega⟩, inR_i64 (by omega) (by omega), ?_⟩
      refine (c_spec_inRange _ _ _ _).mono ?_
      rintro _ w3 ⟨rfl, e3⟩
      refine ⟨_, rfl, ?_⟩
      refine br_i (fun h2 => ?_) (fun h2 => ?_)
      · refine ⟨?_, (he.trans e2).trans e3⟩
        have : isHex c = false := by simp [isHex] at *; omega
        simp [vTag, hx, this]
      · refine ⟨inR_i64 (by omega) (by omega), hK _ _ ⟨(he.trans e2).trans e3, ?_⟩⟩
        have : isHex c = true := by simp [isHex] at *; omega
        simp [ha, this]
    · refine ⟨inR_i64 (by omega) (by omega), hK _ _ ⟨he.trans e2, ?_⟩⟩
      have : isHex c = true := by simp [isHex] at *; omega
      simp [ha, this]
  · intro K t w1 ⟨he, ha⟩ _
    refine br_df (by omega) ⟨?_, he⟩
    simp only [vTag, ha, hsz, Bool.and_true]
    congr 1
    rw [Bool.eq_iff_iff]; simp; omega

theorem validTags_all {xs : List ByteArray} (h : vTags xs = true) : ∀ t ∈ xs, t = star ∨ vTag t = true := by
  simp only [vTags, Bool.and_eq_true, decide_eq_true_eq, List.all_eq_true, Bool.or_eq_true] at h
  exact h.2

theorem c_spec_validTags {s : Sl} {xs : List ByteArray} {w : World} (h : Strs w s xs) (hlen : xs.length ≤ maxLen) (hsz : ∀ x ∈ xs, x.size ≤ maxLen) :
    CallR Try.prog 19 [.slice s.a s.len s.cap] w (fun v w' => v = .bool (vTags xs) ∧ Ext w w') := by
  refine fn_spec_validTags _ _ _ ?_
  unfold g_spec_validTags
  unfold maxLen at hlen
  have hl0 := h.len
  refine sLoop_list xs (fun pre _ w' => Ext w w' ∧ (pre.all fun t => decide (t = star) || vTag t) = true) ⟨Ext.refl _, rfl⟩ ?_ ?_
  · intro K pre post c t w1 hx ⟨he, ha⟩ hK _
    have hl := mid_len hx
    obtain ⟨a, ha1, hc⟩ := (h.ext he).sm hx
    refine br_dt (by omega) (onSome_i ha1 ⟨⟨by omega, by omega⟩, _, hc, ?_⟩)
    rw [seqB_eq]
    refine br_i (fun h1 => ?_) (fun h1 => ?_)
    · refine onSome_i ha1 ⟨⟨by omega, by omega⟩, _, hc, ?_⟩
      refine (c_spec_validTag _ _ (hsz _ (by rw [hx]; simp))).mono ?_
      rintro _ w2 ⟨rfl, e2⟩
      refine ⟨_, rfl, ?_⟩
      refine br_i (fun h2 => ?_) (fun h2 => ?_)
      · refine ⟨?_, he.trans e2⟩
        have : (decide (c = star) || vTag c) = false := by
          simp only [Bool.not_eq_true', decide_eq_false_iff_not] at h1 h2
          simp only [Bool.or_eq_false_iff, decide_eq_false_iff_not]
          exact ⟨h1, h2⟩
        simp [vTags, hx, this]
      · refine ⟨inR_i64 (by omega) (by omega), hK _ _ ⟨he.trans e2, ?_⟩⟩
        simp at h2
        simp [ha, h2]
    · refine ⟨inR_i64 (by omega) (by omega), hK _ _ ⟨he, ?_⟩⟩
      have : c = star := by simpa [star] using h1
      simp [ha, this]
  · intro K t w1 ⟨he, ha⟩ _
    refine br_df (by omega) ⟨?_, he⟩
    simp only [vTags, ha, hl0, Bool.and_true]
    congr 1
    rw [Bool.eq_iff_iff]; simp; omega

theorem c_spec_hasTag {s : Sl} {xs : List ByteArray} {w : World} (tag : ByteArray) (h : Strs w s xs) (hlen : xs.length ≤ maxLen) :
    CallR Try.prog 34 [.slice s.a s.len s.cap, .string tag] w (fun v w' => v = .bool (hasT xs tag) ∧ Ext w w') := by
  refine fn_spec_hasTag _ _ _ _ ?_
  unfold g_spec_hasTag
  unfold maxLen at hlen
  have hl0 := h.len
  refine sLoop_list xs (fun pre _ w' => Ext w w' ∧ hasT pre tag = false) ⟨Ext.refl _, rfl⟩ ?_ ?_
  · intro K pre post c t w1 hx ⟨he, ha⟩ hK _
    have hl := mid_len hx
    obtain ⟨a, ha1, hc⟩ := (h.ext he).sm hx
    refine br_dt (by omega) (onSome_i ha1 ⟨⟨by omega, by omega⟩, _, hc, ?_⟩)
    rw [seqB_eq]
    refine br_d (fun h1 => ⟨by simp [hasT, hx, h1], he⟩) (fun h1 => ?_)
    refine onSome_i ha1 ⟨⟨by omega, by omega⟩, _, hc, ?_⟩
    rw [seqB_eq]
    refine br_d (fun h2 => ⟨by simp [hasT, hx, star, h2], he⟩) (fun h2 => ?_)
    exact ⟨inR_i64 (by omega) (by omega), hK _ _ ⟨he, by simp [hasT, star, h1, h2] at ha ⊢; exact ha⟩⟩
  · intro K t w1 ⟨he, ha⟩ _
    exact br_df (by omega) ⟨by rw [ha], he⟩

theorem len_pos_iff {s : Sl} {xs : List ByteArray} {w : World} (h : Strs w s xs) : (s.len : Int) > 0 ↔ xs ≠ [] := by
  have := h.len
  cases xs with
  | nil => simp at this; simp [this]
  | cons x r => simp at this; simp; omega

theorem c_spec_check {sw sa : Sl} {want avoid : List ByteArray} {w : World} (tag : ByteArray) (reads : Bool) (hw : Strs w sw want) (ha : Strs w sa avoid) (hwl : want.length ≤ maxLen) (hal : avoid.length ≤ maxLen) :
    CallR Try.prog 21 [.slice sw.a sw.len sw.cap, .slice sa.a sa.len sa.cap, .string tag, .bool reads] w (fun v w' => v = .int .i64 (chk want avoid tag reads) ∧ Ext w w') := by
  refine fn_spec_check _ _ _ _ _ _ ?_
  unfold g_spec_check
  simp only [seqB_eq, len_pos_iff hw, len_pos_iff ha]
  have second : ∀ w1, Ext w w1 → ¬ (want ≠ [] ∧ (tag = emptyB ∨ hasT want tag = false)) →
      br (decide (avoid ≠ [])) (br (!decide (tag = { data := #[] })) (CallR Try.prog 34 [.slice sa.a sa.len sa.cap, .string tag] w1 fun r4 w5 => ∃ b6, r4 = .bool b6 ∧ br b6 (br reads (.int .i64 304 = Value.int .i64 (chk want avoid tag reads) ∧ Ext w w5) (.int .i64 412 = Value.int .i64 (chk want avoid tag reads) ∧ Ext w w5)) (.int .i64 200 = Value.int .i64 (chk want avoid tag reads) ∧ Ext w w5))
        (.int .i64 200 = Value.int .i64 (chk want avoid tag reads) ∧ Ext w w1)) (.int .i64 200 = Value.int .i64 (chk want avoid tag reads) ∧ Ext w w1) := by
    intro w1 e1 hn
    refine br_d (fun h1 => ?_) (fun h1 => ⟨by unfold chk; rw [if_neg hn]; simp at h1; simp [h1], e1⟩)
    refine br_i (fun h2 => ?_) (fun h2 => ⟨by unfold chk; rw [if_neg hn]; simp at h2; simp [emptyB, h2], e1⟩)
    refine (c_spec_hasTag tag (ha.ext e1) hal).mono ?_
    rintro _ w2 ⟨rfl, e2⟩
    refine ⟨_, rfl, ?_⟩
    have h2' : tag ≠ emptyB := by simpa [emptyB] using h2
    refine br_i (fun h3 => br_i (fun h4 => ?_) (fun h4 => ?_)) (fun h3 => ?_)
    · exact ⟨by unfold chk; rw [if_neg hn]; simp [h1, h2', h3, h4], e1.trans e2⟩
    · exact ⟨by unfold chk; rw [if_neg hn]; simp [h1, h2', h3, h4], e1.trans e2⟩
    · exact ⟨by unfold chk; rw [if_neg hn]; simp [h3], e1.trans e2⟩
  refine br_d (fun h1 => ?_) (fun h1 => second w (Ext.refl _) (fun h => h1 h.1))
  refine br_d (fun h2 => ⟨by simp [chk, h1, emptyB, h2], Ext.refl _⟩) (fun h2 => ?_)
  refine (c_spec_hasTag tag hw hwl).mono ?_
  rintro _ w1 ⟨rfl, e1⟩
  refine ⟨_, rfl, ?_⟩
  refine br_i (fun h3 => ⟨by simp at h3; simp [chk, h1, h3], e1⟩) (fun h3 => second w1 e1 ?_)
  rintro ⟨_, h4 | h4⟩
  · exact h2 h4
  · rw [h4] at h3; cases h3

theorem c_spec_CheckTags {sw sa : Sl} {want avoid : List ByteArray} {w : World} (tag : ByteArray) (reads : Bool) (hw : Strs w sw want) (ha : Strs w sa avoid) (hwl : want.length ≤ maxLen) (hal : avoid.length ≤ maxLen)
    (hws : ∀ x ∈ want, x.size ≤ maxLen) (has : ∀ x ∈ avoid, x.size ≤ maxLen) (ht : tag.size ≤ maxLen) :
    CallR Try.prog 11 [.slice sw.a sw.len sw.cap, .slice sa.a sa.len sa.cap, .string tag, .bool reads] w (fun v w' => v = .int .i64 (checkT want avoid tag reads) ∧ Ext w w') := by
  refine fn_spec_CheckTags _ _ _ _ _ _ ?_
  unfold g_spec_CheckTags
  refine (c_spec_validTags hw hwl hws).mono ?_
  rintro _ w1 ⟨rfl, e1⟩
  refine ⟨_, rfl, br_i (fun h1 => ⟨by simp at h1; simp [checkT, okCond, h1], e1⟩) (fun h1 => ?_)⟩
  refine (c_spec_validTags (ha.ext e1) hal has).mono ?_
  rintro _ w2 ⟨rfl, e2⟩
  refine ⟨_, rfl, br_i (fun h2 => ⟨by simp at h2; simp [checkT, okCond, h2], e1.trans e2⟩) (fun h2 => ?_)⟩
  simp only [Bool.not_eq_false'] at h1 h2
  rw [seqB_eq]
  have last : ∀ w3, Ext w w3 → (tag = emptyB ∨ vTag tag = true) → CallR Try.prog 21 [.slice sw.a sw.len sw.cap, .slice sa.a sa.len sa.cap, .string tag, .bool reads] w3 fun r w4 => ∃ n, r = .int .i64 n ∧ (.int .i64 n = Value.int .i64 (checkT want avoid tag reads) ∧ Ext w w4) := by
    intro w3 e3 hv
    refine (c_spec_check tag reads (hw.ext e3) (ha.ext e3) hwl hal).mono ?_
    rintro _ w4 ⟨rfl, e4⟩
    refine ⟨_, rfl, ?_, e3.trans e4⟩
    have : okCond want avoid tag = true := by simp only [okCond, h1, h2, Bool.true_and, Bool.or_eq_true, decide_eq_true_eq]; exact hv
    rw [checkT, if_pos this]
  refine br_i (fun h3 => ?_) (fun h3 => last w2 (e1.trans e2) (.inl (by simpa [emptyB] using h3)))
  refine (c_spec_validTag tag w2 ht).mono ?_
  rintro _ w3 ⟨rfl, e3⟩
  refine ⟨_, rfl, br_i (fun h4 => ?_) (fun h4 => last w3 ((e1.trans e2).trans e3) (.inr (by simpa using h4)))⟩
  refine ⟨?_, (e1.trans e2).trans e3⟩
  simp at h3 h4
  simp [checkT, okCond, h4, emptyB, h3]

/-! ## Tags: the program's functions -/

theorem c_slices_Index {s : Sl} {xs : List ByteArray} {w : World} (t : ByteArray) (h : Strs w s xs) (hlen : xs.length ≤ maxLen) :
    CallR Try.prog 40 [.slice s.a s.len s.cap, .string t] w (fun v w' => (∃ n : Int, v = .int .i64 n ∧ (0 ≤ n ↔ t ∈ xs)) ∧ Ext w w') := by
  refine fn_slices_Index _ _ _ _ ?_
  unfold g_slices_Index
  unfold maxLen at hlen
  have hl0 := h.len
  refine sLoop_list xs (fun pre _ w' => Ext w w' ∧ t ∉ pre) ⟨Ext.refl _, by simp⟩ ?_ ?_
  · intro K pre post c _ w1 hx ⟨he, ha⟩ hK _
    have hl := mid_len hx
    obtain ⟨a, ha1, hc⟩ := (h.ext he).sm hx
    refine br_dt (by omega) (onSome_i ha1 ⟨⟨by omega, by omega⟩, _, hc, ?_⟩)
    rw [seqB_eq]
    refine br_d (fun h1 => ⟨⟨_, rfl, ?_⟩, he⟩) (fun h1 => ?_)
    · rw [hx, h1]; simp
    · exact ⟨inR_i64 (by omega) (by omega), hK _ _ ⟨he, by simp [ha, h1]⟩⟩
  · intro K _ w1 ⟨he, ha⟩ _
    exact br_df (by omega) ⟨⟨_, rfl, by simp [ha]⟩, he⟩

theorem c_slices_Contains {s : Sl} {xs : List ByteArray} {w : World} (t : ByteArray) (h : Strs w s xs) (hlen : xs.length ≤ maxLen) :
    CallR Try.prog 36 [.slice s.a s.len s.cap, .string t] w (fun v w' => v = .bool (xs.any fun x => decide (x = t)) ∧ Ext w w') := by
  refine fn_slices_Contains _ _ _ _ ?_
  unfold g_slices_Contains
  refine (c_slices_Index t h hlen).mono ?_
  rintro _ w1 ⟨⟨n, rfl, hn⟩, e1⟩
  refine ⟨_, rfl, ?_, e1⟩
  congr 1
  rw [Bool.eq_iff_iff, decide_eq_true_iff, List.any_eq_true]
  exact hn.trans ⟨fun h => ⟨t, h, by simp⟩, fun ⟨x, hx, he⟩ => by simp at he; rw [← he]; exact hx⟩

theorem c_impl_namesTag {s : Sl} {xs : List ByteArray} {w : World} (t : ByteArray) (h : Strs w s xs) (hlen : xs.length ≤ maxLen) :
    CallR Try.prog 24 [.slice s.a s.len s.cap, .string t] w (fun v w' => v = .bool (hasT xs t) ∧ Ext w w') := by
  refine fn_impl_namesTag _ _ _ _ ?_
  unfold g_impl_namesTag
  have key : hasT xs t = ((xs.any fun x => decide (x = t)) || (xs.any fun x => decide (x = star))) := by
    unfold hasT
    clear h hlen
    induction xs with
    | nil => rfl
    | cons x r ih => simp only [List.any_cons, ih]; cases decide (x = t) <;> cases decide (x = star) <;> simp
  rw [key]
  refine (c_slices_Contains t h hlen).mono ?_
  rintro _ w1 ⟨rfl, e1⟩
  refine ⟨_, rfl, br_i (fun h1 => ⟨by rw [h1]; rfl, e1⟩) (fun h1 => ?_)⟩
  refine (c_slices_Contains star (h.ext e1) hlen).mono ?_
  rintro _ w2 ⟨rfl, e2⟩
  exact ⟨_, rfl, by rw [h1]; rfl, e1.trans e2⟩

theorem hexDigits_index : ∀ n : Fin 256, decide (Lib.indexByte [48, 49, 50, 51, 52, 53, 54, 55, 56, 57, 97, 98, 99, 100, 101, 102] (UInt8.ofNat n.val) < 0) = !(isHex (UInt8.ofNat n.val)) := by decide +kernel

theorem c_impl_isSum (hIB : ∀ (s : ByteArray) (c : Int) (w : World), CallR Try.prog 35 [.string s, .int .u8 c] w fun v w' => v = .int .i64 (Lib.indexByte s.data.toList c.toNat.toUInt8) ∧ w' = w)
    (s : ByteArray) (w : World) : CallR Try.prog 23 [.string s] w (fun v w' => v = .bool (vTag s) ∧ Ext w w') := by
  refine fn_impl_isSum _ _ _ ?_
  unfold g_impl_isSum
  have hsz := size_eq s
  refine br_i (fun h0 => ⟨?_, Ext.refl _⟩) (fun h0 => ?_)
  · have : s.data.toList.length ≠ 4 := by simp at h0; omega
    show Value.bool false = _
    rw [vTag, decide_eq_false this, Bool.false_and]
  have h4 : s.size = 4 := by simp at h0; omega
  refine sLoop_list s.data.toList (fun pre _ w' => Ext w w' ∧ pre.all isHex = true) ⟨Ext.refl _, rfl⟩ ?_ ?_
  · intro K pre post c t w1 hx ⟨he, ha⟩ hK _
    have hl := mid_len hx
    have hb := byteAt_mid hx
    refine br_dt (by omega) ⟨⟨by omega, by omega⟩, ?_⟩
    rw [hb]
    refine (hIB _ _ _).mono ?_
    rintro _ w2 ⟨rfl, rfl⟩
    refine ⟨_, rfl, ?_⟩
    have hd := hexDigits_index ⟨c.toNat, c.toNat_lt⟩
    simp only [UInt8.ofNat_toNat] at hd
    have hcc : ((c.toNat : Int).toNat).toUInt8 = c := by simp
    rw [hcc]
    refine br_i (fun h1 => ⟨?_, he⟩) (fun h1 => ?_)
    · have : isHex c = false := by
        have h2 : decide (Lib.indexByte [48, 49, 50, 51, 52, 53, 54, 55, 56, 57, 97, 98, 99, 100, 101, 102] c < 0) = true := h1
        rw [hd] at h2
        simpa using h2
      simp [vTag, hx, this]
    · have : isHex c = true := by
        have h2 : decide (Lib.indexByte [48, 49, 50, 51, 52, 53, 54, 55, 56, 57, 97, 98, 99, 100, 101, 102] c < 0) = false := h1
        rw [hd] at h2
        simpa using h2
      exact ⟨inR_i64 (by omega) (by omega), hK _ _ ⟨he, by simp [ha, this]⟩⟩
  · intro K t w1 ⟨he, ha⟩ _
    refine br_df (by omega) ⟨?_, he⟩
    have : s.data.toList.length = 4 := by omega
    simp only [vTag, ha, this]; rfl

theorem c_impl_areTags (hIS : ∀ (s : ByteArray) (w : World), CallR Try.prog 23 [.string s] w (fun v w' => v = .bool (vTag s) ∧ Ext w w'))
    {s : Sl} {xs : List ByteArray} {w : World} (h : Strs w s xs) :
    CallR Try.prog 22 [.slice s.a s.len s.cap] w (fun v w' => v = .bool (vTags xs) ∧ Ext w w') := by
  refine fn_impl_areTags _ _ _ ?_
  unfold g_impl_areTags
  have hl0 := h.len
  refine br_d (fun h0 => ⟨?_, Ext.refl _⟩) (fun h0 => ?_)
  · have : ¬ xs.length ≤ 4 := by omega
    simp [vTags, this]
  refine sLoop_list xs (fun pre _ w' => Ext w w' ∧ (pre.all fun t => decide (t = star) || vTag t) = true) ⟨Ext.refl _, rfl⟩ ?_ ?_
  · intro K pre post c t w1 hx ⟨he, ha⟩ hK _
    have hl := mid_len hx
    obtain ⟨a, ha1, hc⟩ := (h.ext he).sm hx
    refine br_dt (by omega) (onSome_i ha1 ⟨⟨by omega, by omega⟩, _, hc, ?_⟩)
    rw [seqB_eq]
    refine br_i (fun h1 => ?_) (fun h1 => ?_)
    · refine (hIS _ _).mono ?_
      rintro _ w2 ⟨rfl, e2⟩
      refine ⟨_, rfl, ?_⟩
      refine br_i (fun h2 => ?_) (fun h2 => ?_)
      · refine ⟨?_, he.trans e2⟩
        have : (decide (c = star) || vTag c) = false := by
          simp only [Bool.not_eq_true', decide_eq_false_iff_not] at h1 h2
          simp only [Bool.or_eq_false_iff, decide_eq_false_iff_not]
          exact ⟨h1, h2⟩
        simp [vTags, hx, this]
      · refine ⟨inR_i64 (by omega) (by omega), hK _ _ ⟨he.trans e2, ?_⟩⟩
        simp at h2
        simp [ha, h2]
    · refine ⟨inR_i64 (by omega) (by omega), hK _ _ ⟨he, ?_⟩⟩
      have : c = star := by simpa [star] using h1
      simp [ha, this]
  · intro K t w1 ⟨he, ha⟩ _
    refine br_df (by omega) ⟨?_, he⟩
    have : xs.length ≤ 4 := by omega
    simp only [vTags, ha, this]; rfl

theorem c_impl_CheckTags (hIS : ∀ (s : ByteArray) (w : World), CallR Try.prog 23 [.string s] w (fun v w' => v = .bool (vTag s) ∧ Ext w w'))
    {sw sa : Sl} {want avoid : List ByteArray} {w : World} (tag : ByteArray) (reads : Bool) (hw : Strs w sw want) (ha : Strs w sa avoid) (hwl : want.length ≤ maxLen) (hal : avoid.length ≤ maxLen) :
    CallR Try.prog 13 [.slice sw.a sw.len sw.cap, .slice sa.a sa.len sa.cap, .string tag, .bool reads] w (fun v w' => v = .int .i64 (checkT want avoid tag reads) ∧ Ext w w') := by
  refine fn_impl_CheckTags _ _ _ _ _ _ ?_
  unfold g_impl_CheckTags
  refine (c_impl_areTags hIS hw).mono ?_
  rintro _ w1 ⟨rfl, e1⟩
  refine ⟨_, rfl, br_i (fun h1 => ⟨by simp at h1; simp [checkT, okCond, h1], e1⟩) (fun h1 => ?_)⟩
  refine (c_impl_areTags hIS (ha.ext e1)).mono ?_
  rintro _ w2 ⟨rfl, e2⟩
  refine ⟨_, rfl, br_i (fun h2 => ⟨by simp at h2; simp [checkT, okCond, h2], e1.trans e2⟩) (fun h2 => ?_)⟩
  simp only [Bool.not_eq_false'] at h1 h2
  simp only [seqB_eq, len_pos_iff hw, len_pos_iff ha]
  have fin : (tag = emptyB ∨ vTag tag = true) → checkT want avoid tag reads = chk want avoid tag reads := by
    intro hv
    have : okCond want avoid tag = true := by simp only [okCond, h1, h2, Bool.true_and, Bool.or_eq_true, decide_eq_true_eq]; exact hv
    rw [checkT, if_pos this]
  have second : ∀ w1, Ext w w1 → (tag = emptyB ∨ vTag tag = true) → ¬ (want ≠ [] ∧ (tag = emptyB ∨ hasT want tag = false)) →
      br (decide (avoid ≠ [])) (br (!decide (tag = { data := #[] })) (CallR Try.prog 24 [.slice sa.a sa.len sa.cap, .string tag] w1 fun r4 w5 => ∃ b6, r4 = .bool b6 ∧ br b6 (br reads (.int .i64 304 = Value.int .i64 (checkT want avoid tag reads) ∧ Ext w w5) (.int .i64 412 = Value.int .i64 (checkT want avoid tag reads) ∧ Ext w w5)) (.int .i64 200 = Value.int .i64 (checkT want avoid tag reads) ∧ Ext w w5))
        (.int .i64 200 = Value.int .i64 (checkT want avoid tag reads) ∧ Ext w w1)) (.int .i64 200 = Value.int .i64 (checkT want avoid tag reads) ∧ Ext w w1) := by
    intro w1 e1 hv hn
    rw [fin hv]
    refine br_d (fun h1 => ?_) (fun h1 => ⟨by unfold chk; rw [if_neg hn]; simp at h1; simp [h1], e1⟩)
    refine br_i (fun h2 => ?_) (fun h2 => ⟨by unfold chk; rw [if_neg hn]; simp at h2; simp [emptyB, h2], e1⟩)
    refine (c_impl_namesTag tag (ha.ext e1) hal).mono ?_
    rintro _ w2 ⟨rfl, e2⟩
    refine ⟨_, rfl, ?_⟩
    have h2' : tag ≠ emptyB := by simpa [emptyB] using h2
    refine br_i (fun h3 => br_i (fun h4 => ?_) (fun h4 => ?_)) (fun h3 => ?_)
    · exact ⟨by unfold chk; rw [if_neg hn]; simp [h1, h2', h3, h4], e1.trans e2⟩
    · exact ⟨by unfold chk; rw [if_neg hn]; simp [h1, h2', h3, h4], e1.trans e2⟩
    · exact ⟨by unfold chk; rw [if_neg hn]; simp [h3], e1.trans e2⟩
  have first : ∀ w1, Ext w w1 → (tag = emptyB ∨ vTag tag = true) →
      br (decide (want ≠ [])) (br (decide (tag = { data := #[] })) (.int .i64 412 = Value.int .i64 (checkT want avoid tag reads) ∧ Ext w w1)
        (CallR Try.prog 24 [.slice sw.a sw.len sw.cap, .string tag] w1 fun r10 w11 => ∃ b12, r10 = .bool b12 ∧ br (!b12) (.int .i64 412 = Value.int .i64 (checkT want avoid tag reads) ∧ Ext w w11)
          (br (decide (avoid ≠ [])) (br (!decide (tag = { data := #[] })) (CallR Try.prog 24 [.slice sa.a sa.len sa.cap, .string tag] w11 fun r4 w5 => ∃ b6, r4 = .bool b6 ∧ br b6 (br reads (.int .i64 304 = Value.int .i64 (checkT want avoid tag reads) ∧ Ext w w5) (.int .i64 412 = Value.int .i64 (checkT want avoid tag reads) ∧ Ext w w5)) (.int .i64 200 = Value.int .i64 (checkT want avoid tag reads) ∧ Ext w w5))
        (.int .i64 200 = Value.int .i64 (checkT want avoid tag reads) ∧ Ext w w11)) (.int .i64 200 = Value.int .i64 (checkT want avoid tag reads) ∧ Ext w w11))))
      (br (decide (avoid ≠ [])) (br (!decide (tag = { data := #[] })) (CallR Try.prog 24 [.slice sa.a sa.len sa.cap, .string tag] w1 fun r4 w5 => ∃ b6, r4 = .bool b6 ∧ br b6 (br reads (.int .i64 304 = Value.int .i64 (checkT want avoid tag reads) ∧ Ext w w5) (.int .i64 412 = Value.int .i64 (checkT want avoid tag reads) ∧ Ext w w5)) (.int .i64 200 = Value.int .i64 (checkT want avoid tag reads) ∧ Ext w w5))
        (.int .i64 200 = Value.int .i64 (checkT want avoid tag reads) ∧ Ext w w1)) (.int .i64 200 = Value.int .i64 (checkT want avoid tag reads) ∧ Ext w w1)) := by
    intro w1 e1 hv
    refine br_d (fun h1 => ?_) (fun h1 => second w1 e1 hv (fun h => h1 h.1))
    refine br_d (fun h2 => ⟨by rw [fin hv]; simp [chk, h1, emptyB, h2], e1⟩) (fun h2 => ?_)
    refine (c_impl_namesTag tag (hw.ext e1) hwl).mono ?_
    rintro _ w2 ⟨rfl, e2⟩
    refine ⟨_, rfl, ?_⟩
    refine br_i (fun h3 => ⟨by rw [fin hv]; simp at h3; simp [chk, h1, h3], e1.trans e2⟩) (fun h3 => second w2 (e1.trans e2) hv ?_)
    rintro ⟨_, h4 | h4⟩
    · exact h2 h4
    · rw [h4] at h3; cases h3
  refine br_i (fun h3 => ?_) (fun h3 => first w2 (e1.trans e2) (.inl (by simpa [emptyB] using h3)))
  refine (hIS tag w2).mono ?_
  rintro _ w3 ⟨rfl, e3⟩
  refine ⟨_, rfl, br_i (fun h4 => ?_) (fun h4 => first w3 ((e1.trans e2).trans e3) (.inr (by simpa using h4)))⟩
  refine ⟨?_, (e1.trans e2).trans e3⟩
  simp at h3 h4
  simp [checkT, okCond, h4, emptyB, h3]
end Go.Proofs
