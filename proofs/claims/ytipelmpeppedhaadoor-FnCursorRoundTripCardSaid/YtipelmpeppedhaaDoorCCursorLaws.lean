/-
  What functions of this seat compute, part 'CursorLaws': contracts over their readable predicates. Conditions: each theorem's own hypotheses.
-/
import Derived.Test.YtipelmpeppedhaaDoorBase
import Derived.Test.YtipelmpeppedhaaDoorOpen
import Derived.Test.YtipelmpeppedhaaDoorGen
import Derived.Test.YtipelmpeppedhaaDoorCSmall
import Derived.Test.YtipelmpeppedhaaDoorCBstr
import Derived.Test.YtipelmpeppedhaaDoorCCursor
import Derived.Test.YtipelmpeppedhaaDoorCDraw
import Derived.Test.YtipelmpeppedhaaDoorShelf
namespace Go.Proofs
open Go Go.Vc Go.RowKit
set_option maxRecDepth 100000
set_option linter.unusedVariables false
--! C:Small C:Bstr C:Cursor C:Draw S
/-! ## Cursors: the functions and the laws -/

theorem vName_size {s : ByteArray} (h : vName s = true) : 1 ≤ s.size ∧ s.size ≤ 8 := by
  simp only [vName, Bool.and_eq_true, decide_eq_true_eq] at h; exact h.2
theorem vName_let {s : ByteArray} (h : vName s = true) : ∀ c ∈ s.data.toList, isLet c = true := by
  simp only [vName, Bool.and_eq_true, List.all_eq_true] at h; exact h.1
theorem lim10_iff {n : Int} : lim10 n = true ↔ 1 ≤ n ∧ n ≤ 10 := by simp [lim10]
theorem curL_len (name : ByteArray) (n : Nat) : (curL name n).length = name.size + 5 := by
  unfold curL hexL
  rw [List.length_append, ← size_eq]; rfl
theorem curStr_size (name : ByteArray) (n : Int) : (curStr name n).size ≤ name.size + 5 := by
  unfold curStr
  split
  · rw [bstr_size, curL_len]; exact Nat.le_refl _
  · rw [bstr_size]; simp
theorem curStr_bad {name : ByteArray} {n : Int} (h : ¬ (vName name = true ∧ lim10 n = true)) : curStr name n = bstr [] := by unfold curStr; rw [if_neg h]
theorem curStr_good {name : ByteArray} {n : Int} (h : vName name = true ∧ lim10 n = true) : curStr name n = bstr (curL name n.toNat) := by unfold curStr; rw [if_pos h]
theorem curStr_ne {name : ByteArray} {n : Int} (h : curStr name n ≠ bstr []) : vName name = true ∧ lim10 n = true := by
  by_cases h' : vName name = true ∧ lim10 n = true
  · exact h'
  · exact absurd (curStr_bad h') h

theorem bcat (a : ByteArray) (l : List UInt8) : a ++ bstr l = bstr (a.data.toList ++ l) := by
  conv => lhs; rw [← bstr_self a]
  rw [bstr_append]

theorem cat3 (name : ByteArray) (l : List UInt8) : name ++ (⟨#[46]⟩ : ByteArray) ++ bstr l = bstr (name.data.toList ++ 46 :: l) := by
  have q : (⟨#[46]⟩ : ByteArray) = bstr [46] := rfl
  rw [q, bcat name [46], bstr_append]; simp

theorem c_strconv_Itoa {n : Nat} (h : n ≤ 10) (w : World) : CallR Tryd.prog 24 [.int .i64 (n : Int)] w (fun v w' => v = .string (bstr (decN n)) ∧ Ext w w') :=
  .inl ⟨by kernel_rfl, (Tryd.strconv_Itoa_small n (by omega) w).mono fun e w' ⟨h1, h2⟩ => ⟨_, h1, by rw [decDigits_small n h]; rfl, by rw [h2]; exact Ext.refl _⟩⟩

theorem c_impl_FormatCursor (name : ByteArray) (n : Int) (w : World) (hs : name.size ≤ 4194304) : CallR Tryd.prog 11 [.string name, .int .i64 n] w (fun v w' => v = .string (curStr name n) ∧ Ext w w') := by
  refine fn_impl_FormatCursor _ _ _ _ ?_
  unfold g_impl_FormatCursor
  refine (c_impl_isName name w).go fun w1 e1 => ⟨_, rfl, br_i (fun h => ⟨?_, e1⟩) (fun h1 => ?_)⟩
  · rw [curStr_bad (by simp at h; simp [h])]; rfl
  refine (c_impl_isLimit n w1).go fun w2 e2 => ⟨_, rfl, br_i (fun h => ⟨?_, e1.trans e2⟩) (fun h2 => ?_)⟩
  · rw [curStr_bad (by simp at h; simp [h])]; rfl
  have hv : vName name = true := by simpa using h1
  have hl : lim10 n = true := by simpa using h2
  have hn := lim10_iff.1 hl
  have hsz := vName_size hv
  obtain ⟨k, rfl⟩ : ∃ k : Nat, n = (k : Int) := ⟨n.toNat, by omega⟩
  have hk : k ≤ 10 := by omega
  have hd := decN_len k
  refine ⟨by show _ + 1 ≤ _; omega, (c_strconv_Itoa hk w2).go fun w3 e3 => ⟨_, rfl, by rw [bstr_size]; omega, ?_⟩⟩
  rw [bcat]
  refine (c_impl_sumText _ w3 (by rw [bstr_size, List.length_append, ← size_eq]; unfold maxLen; omega)).go fun w4 e4 => ⟨_, rfl, ?_, ?_, ((e1.trans e2).trans e3).trans e4⟩
  · have : (name ++ (⟨#[46]⟩ : ByteArray)).size = name.size + 1 := by
      have q : (⟨#[46]⟩ : ByteArray) = bstr [46] := rfl
      rw [q, bcat, bstr_size, List.length_append, ← size_eq]; rfl
    rw [this, bstr_size]
    show name.size + 1 + 4 ≤ _
    omega
  · rw [curStr_good ⟨hv, hl⟩, cat3]
    simp [curL, bstr]

theorem c_spec_FormatCursor (name : ByteArray) (n : Int) (w : World) (hs : name.size ≤ 4194304) : CallR Tryd.prog 12 [.string name, .int .i64 n] w (fun v w' => v = .string (curStr name n) ∧ Ext w w') := by
  refine fn_spec_FormatCursor _ _ _ _ ?_
  unfold g_spec_FormatCursor
  refine (c_spec_validName name w (by unfold maxLen; omega)).go fun w1 e1 => ⟨_, rfl, br_i (fun h => ⟨?_, e1⟩) (fun h1 => ?_)⟩
  · rw [curStr_bad (by simp at h; simp [h])]; rfl
  refine (c_spec_inRange _ _ _ w1).go fun w2 e2 => ⟨_, rfl, br_i (fun h => ⟨?_, e1.trans e2⟩) (fun h2 => ?_)⟩
  · rw [curStr_bad (by simp at h; simp [lim10]; omega)]; rfl
  have hv : vName name = true := by simpa using h1
  have hl : lim10 n = true := by simpa [lim10] using h2
  have hn := lim10_iff.1 hl
  have hsz := vName_size hv
  obtain ⟨k, rfl⟩ : ∃ k : Nat, n = (k : Int) := ⟨n.toNat, by omega⟩
  have hk : k ≤ 10 := by omega
  have hd := decN_len k
  refine ⟨by show _ + 1 ≤ _; omega, (c_spec_decimal hk w2).go fun w3 e3 => ⟨_, rfl, by rw [bstr_size]; omega, ?_⟩⟩
  rw [bcat]
  refine (c_spec_sumOf _ w3 (by rw [bstr_size, List.length_append, ← size_eq]; unfold maxLen; omega)).go fun w4 e4 => ⟨_, rfl, ?_⟩
  refine (c_spec_hex (Nat.lt_trans (sumN_lt _) (by decide)) w4).go fun w5 e5 => ⟨_, rfl, ?_, ?_, (((e1.trans e2).trans e3).trans e4).trans e5⟩
  · have : (name ++ (⟨#[46]⟩ : ByteArray)).size = name.size + 1 := by
      have q : (⟨#[46]⟩ : ByteArray) = bstr [46] := rfl
      rw [q, bcat, bstr_size, List.length_append, ← size_eq]; rfl
    rw [this, bstr_size]
    show name.size + 1 + 4 ≤ _
    omega
  · rw [curStr_good ⟨hv, hl⟩, cat3]
    simp [curL, bstr]

/-! ### Reading -/

/-- What reading gives. -/
def readC (s : ByteArray) (n : Int) : ByteArray × Bool :=
  if 1 ≤ (s.size : Int) - 5 ∧ lim10 n = true ∧ curStr (s.extract 0 (s.size - 5)) n = s then (s.extract 0 (s.size - 5), true) else (⟨#[]⟩, false)

theorem ext_pre {s : ByteArray} {pre post : List UInt8} (h : s.data.toList = pre ++ post) : s.extract 0 pre.length = bstr pre := by
  unfold bstr
  apply ByteArray.ext
  apply Array.ext'
  simp [h]

theorem bstr_data (l : List UInt8) : (bstr l).data.toList = l := by simp [bstr]

/-- A text of a cursor: its name. -/
theorem cur_name {name s : ByteArray} {n : Int} (h : vName name = true ∧ lim10 n = true) (hs : curStr name n = s) : s.size = name.size + 5 ∧ s.extract 0 (s.size - 5) = name ∧ ∃ post, s.data.toList = name.data.toList ++ 46 :: post := by
  rw [curStr_good h] at hs
  have h1 : s.size = name.size + 5 := by rw [← hs, bstr_size, curL_len]
  have h2 : s.data.toList = name.data.toList ++ 46 :: hexL (sumN (name.data.toList ++ decN n.toNat)) := by rw [← hs, bstr_data]; rfl
  refine ⟨h1, ?_, _, h2⟩
  have h3 := ext_pre h2
  rw [← size_eq, bstr_self] at h3
  rw [h1, Nat.add_sub_cancel]; exact h3

theorem not_dot {name : ByteArray} (h : vName name = true) : (46 : UInt8) ∉ name.data.toList := fun hm => absurd (vName_let h _ hm) (by decide)

theorem first_unique {c : UInt8} : ∀ {p q r t : List UInt8}, p ++ c :: r = q ++ c :: t → c ∉ p → c ∉ q → p = q
  | [], [], _, _, _, _, _ => rfl
  | [], x :: q, r, t, h, _, hq => by simp at h; exact absurd (by rw [h.1]; exact List.mem_cons_self) hq
  | x :: p, [], r, t, h, hp, _ => by simp at h; exact absurd (by rw [← h.1]; exact List.mem_cons_self) hp
  | x :: p, y :: q, r, t, h, hp, hq => by
    simp only [List.cons_append, List.cons.injEq] at h
    rw [h.1, first_unique h.2 (fun hm => hp (List.mem_cons_of_mem _ hm)) (fun hm => hq (List.mem_cons_of_mem _ hm))]

theorem c_Index1 (s : ByteArray) (c : UInt8) (w : World) : CallR Tryd.prog 34 [.string s, .string ⟨#[c]⟩] w (fun v w' => v = .int .i64 (Lib.indexByte s.data.toList c) ∧ Ext w w') :=
  .inl ⟨by kernel_rfl, (Tryd.stringslite_Index_one s c w).mono fun e w' ⟨h1, h2⟩ => ⟨_, h1, rfl, by rw [h2]; exact Ext.refl _⟩⟩

theorem c_strings_Cut (s : ByteArray) (w : World) (hs : s.size ≤ 4194304) :
    CallR Tryd.prog 19 [.string s, .string ⟨#[46]⟩] w (fun v w' => ((∃ r, v = .tuple #[.string s, .string r, .bool false] ∧ (46 : UInt8) ∉ s.data.toList) ∨ ∃ pre post r, v = .tuple #[.string (bstr pre), .string r, .bool true] ∧ s.data.toList = pre ++ 46 :: post ∧ (46 : UInt8) ∉ pre) ∧ Ext w w') := by
  refine fn_strings_Cut _ _ _ _ ?_
  unfold g_strings_Cut
  have hsz := size_eq s
  suffices H : CallR Tryd.prog 32 [.string s, .string ⟨#[46]⟩] w (fun v w' => ((∃ r, v = .tuple #[.string s, .string r, .bool false] ∧ (46 : UInt8) ∉ s.data.toList) ∨ ∃ pre post r, v = .tuple #[.string (bstr pre), .string r, .bool true] ∧ s.data.toList = pre ++ 46 :: post ∧ (46 : UInt8) ∉ pre) ∧ Ext w w') by
    refine H.mono ?_
    rintro v w1 ⟨h1, e1⟩
    rcases h1 with ⟨r, rfl, h⟩ | ⟨pre, post, r, rfl, h, h'⟩
    · exact ⟨_, _, _, rfl, .inl ⟨r, rfl, h⟩, e1⟩
    · exact ⟨_, _, _, rfl, .inr ⟨pre, post, r, rfl, h, h'⟩, e1⟩
  refine fn_internal_stringslite_Cut _ _ _ _ ?_
  unfold g_internal_stringslite_Cut
  refine (c_Index1 s 46 w).go fun w1 e1 => ⟨_, rfl, ?_⟩
  rcases indexByte_spec 46 s.data.toList with ⟨h1, h2⟩ | ⟨pre, post, h1, h2, h3⟩
  · rw [h1]
    exact br_df (by omega) ⟨.inl ⟨_, rfl, h2⟩, e1⟩
  · rw [h3]
    have hl : pre.length + 1 + post.length = s.size := by rw [hsz, h1]; simp; omega
    have one : ((⟨#[46]⟩ : ByteArray).size : Int) = 1 := rfl
    rw [one]
    refine br_dt (by omega) fun w2 e2 => ⟨⟨by omega, by omega, by omega⟩, inR_i64 (by omega) (by omega), ⟨by omega, by omega, by omega⟩, .inr ⟨pre, post, s.extract ((pre.length : Int) + 1).toNat (s.size : Int).toNat, ?_, h1, h2⟩, e1.trans e2⟩
    have : s.extract (0 : Int).toNat ((pre.length : Int)).toNat = bstr pre := ext_pre h1
    rw [this]

theorem c_impl_ReadCursor (s : ByteArray) (n : Int) (w : World) (hs : s.size ≤ 4194304) : CallR Tryd.prog 9 [.string s, .int .i64 n] w (fun v w' => v = .tuple #[.string (readC s n).1, .bool (readC s n).2] ∧ Ext w w') := by
  refine fn_impl_ReadCursor _ _ _ _ ?_
  unfold g_impl_ReadCursor
  have no : (∀ name, vName name = true → lim10 n = true → curStr name n = s → False) → readC s n = (⟨#[]⟩, false) := fun h => by
    unfold readC
    rw [if_neg]
    rintro ⟨h1, h2, h3⟩
    have hne : curStr (s.extract 0 (s.size - 5)) n ≠ bstr [] := by
      rw [h3]; intro e; rw [e, bstr_size] at h1; simp at h1
    exact h _ (curStr_ne hne).1 h2 h3
  refine (c_strings_Cut s w hs).mono ?_
  rintro _ w1 ⟨h1, e1⟩
  rcases h1 with ⟨r, rfl, h⟩ | ⟨pre, post, r, rfl, h, h'⟩
  · refine ⟨_, _, _, rfl, br_t rfl ⟨?_, e1⟩⟩
    rw [no fun name h1 h2 h3 => by
      obtain ⟨_, _, p, hp⟩ := cur_name ⟨h1, h2⟩ h3
      exact h (by rw [hp]; simp)]
  have hpl : (bstr pre).size ≤ 4194304 := by
    have := congrArg List.length h
    rw [← size_eq] at this
    rw [bstr_size]; simp at this; omega
  have uniq : ∀ name, vName name = true → lim10 n = true → curStr name n = s → name = bstr pre := fun name h1 h2 h3 => by
    obtain ⟨_, _, p, hp⟩ := cur_name ⟨h1, h2⟩ h3
    rw [h] at hp
    have := first_unique hp h' (not_dot h1)
    rw [this, bstr_self]
  refine ⟨_, _, _, rfl, br_f rfl ?_⟩
  refine (c_impl_isName _ w1).go fun w2 e2 => ⟨_, rfl, br_i (fun hn => ⟨?_, e1.trans e2⟩) (fun hn => ?_)⟩
  · rw [no fun name h1 h2 h3 => by rw [← uniq name h1 h2 h3, h1] at hn; cases hn]
  refine (c_impl_isLimit n w2).go fun w3 e3 => ⟨_, rfl, br_i (fun hl => ⟨?_, (e1.trans e2).trans e3⟩) (fun hl => ?_)⟩
  · rw [no fun name h1 h2 h3 => by rw [h2] at hl; cases hl]
  have hn' : vName (bstr pre) = true := by simpa using hn
  have hl' : lim10 n = true := by simpa using hl
  refine (c_impl_FormatCursor (bstr pre) n w3 hpl).go fun w4 e4 => ⟨_, rfl, ?_⟩
  have e04 := ((e1.trans e2).trans e3).trans e4
  rw [seqB_eq]
  refine br_i (fun hq => ⟨?_, e04⟩) (fun hq => ⟨?_, e04⟩)
  · have hq' : curStr (bstr pre) n ≠ s := by simpa using hq
    rw [no fun name h1 h2 h3 => hq' (by rw [← uniq name h1 h2 h3]; exact h3)]
  · have hq' : curStr (bstr pre) n = s := by simpa using hq
    obtain ⟨k1, k2, _⟩ := cur_name ⟨hn', hl'⟩ hq'
    have hz := vName_size hn'
    have : readC s n = (bstr pre, true) := by
      unfold readC
      rw [if_pos ⟨by omega, hl', by rw [k2]; exact hq'⟩, k2]
    rw [this]

theorem c_spec_ReadCursor (s : ByteArray) (n : Int) (w : World) (hs : s.size ≤ 4194304) : CallR Tryd.prog 10 [.string s, .int .i64 n] w (fun v w' => v = .tuple #[.string (readC s n).1, .bool (readC s n).2] ∧ Ext w w') := by
  refine fn_spec_ReadCursor _ _ _ _ ?_
  unfold g_spec_ReadCursor
  refine ⟨inR_i64 (by omega) (by omega), br_d (fun h => ⟨?_, Ext.refl _⟩) (fun h0 => ?_)⟩
  · have : readC s n = (⟨#[]⟩, false) := by unfold readC; rw [if_neg (fun hh => by omega)]
    rw [this]
  refine (c_spec_inRange _ _ _ w).go fun w1 e1 => ⟨_, rfl, br_i (fun h => ⟨?_, e1⟩) (fun h1 => ?_)⟩
  · have : readC s n = (⟨#[]⟩, false) := by
      unfold readC
      rw [if_neg]
      rintro ⟨_, h2, _⟩
      have := lim10_iff.1 h2
      simp at h; omega
    rw [this]
  have hl : lim10 n = true := by simpa [lim10] using h1
  have ex : s.extract (0 : Int).toNat ((s.size : Int) - 5).toNat = s.extract 0 (s.size - 5) := by
    have : ((s.size : Int) - 5).toNat = s.size - 5 := by omega
    rw [this]; rfl
  rw [ex]
  have hxs : (s.extract 0 (s.size - 5)).size ≤ 4194304 := by simp; omega
  refine ⟨⟨by omega, by omega, by omega⟩, (c_spec_FormatCursor _ n w1 hxs).go fun w2 e2 => ⟨_, rfl, ?_⟩⟩
  rw [seqB_eq]
  refine br_i (fun h => ⟨?_, e1.trans e2⟩) (fun h => ⟨⟨by omega, by omega, by omega⟩, ?_, e1.trans e2⟩)
  · have : readC s n = (⟨#[]⟩, false) := by
      unfold readC
      rw [if_neg]
      rintro ⟨_, _, h3⟩
      simp [h3] at h
    rw [this]
  · have : readC s n = (s.extract 0 (s.size - 5), true) := by
      unfold readC
      rw [if_pos ⟨by omega, hl, by simpa using h⟩]
    rw [this]

theorem readC_cur {name : ByteArray} {n : Int} (h : vName name = true ∧ lim10 n = true) : readC (curStr name n) n = (name, true) := by
  obtain ⟨k1, k2, _⟩ := cur_name h rfl
  have hz := vName_size h.1
  unfold readC
  rw [if_pos ⟨by omega, h.2, by rw [k2]⟩, k2]

theorem readC_next {name : ByteArray} {n : Int} (h : vName name = true ∧ lim10 n = true) (h9 : n < 9) : readC (curStr name n) (n + 1) = (⟨#[]⟩, false) := by
  obtain ⟨k1, k2, _⟩ := cur_name h rfl
  have hn := lim10_iff.1 h.2
  unfold readC
  rw [if_neg]
  rintro ⟨_, h2, h3⟩
  rw [k2] at h3
  rw [curStr_good ⟨h.1, h2⟩, curStr_good h] at h3
  have h4 := bstr_inj h3
  unfold curL at h4
  have h5 := List.append_cancel_left h4
  simp only [List.cons.injEq, true_and] at h5
  have h6 := hexL_inj (Nat.lt_trans (sumN_lt _) (by decide)) (Nat.lt_trans (sumN_lt _) (by decide)) h5
  obtain ⟨k, rfl⟩ : ∃ k : Nat, n = (k : Int) := ⟨n.toNat, by omega⟩
  have t1 : ((k : Int) + 1).toNat = k + 1 := by omega
  have t2 : ((k : Int)).toNat = k := by omega
  rw [t1, t2] at h6
  have d1 : decN (k + 1) = [UInt8.ofNat (48 + (k + 1))] := by unfold decN; rw [if_pos (by omega)]
  have d2 : decN k = [UInt8.ofNat (48 + k)] := by unfold decN; rw [if_pos (by omega)]
  rw [d1, d2, sumN_snoc, sumN_snoc, UInt8.toNat_ofNat', UInt8.toNat_ofNat', Nat.mod_eq_of_lt (by omega), Nat.mod_eq_of_lt (by omega : 48 + k < 2 ^ 8)] at h6
  omega

/-! ### Draws -/

theorem c_spec_itemName {w : World} {b : Nat} {bs : List UInt8} {B : Nat} (h : Rd w b bs B) (hB : B ≤ 549755813888) :
    CallR Tryd.prog 16 [.pointer (some ⟨b, 0, none⟩)] w (fun v w' => (∃ x, v = .string x ∧ x.size ≤ 16) ∧ Rd w' b bs (B + 1) ∧ Chg b w w') := by
  refine fn_spec_itemName _ _ _ ?_
  unfold g_spec_itemName
  refine letW_i fun w2 hw2 => ?_
  have e2 : Ext w w2 := by rw [hw2]; exact (Ext.refl w).alloc _
  have r2 : Row w2 w.heap.size (([⟨#[97]⟩, ⟨#[98]⟩, ⟨#[100, 111, 99]⟩, ⟨#[122, 122]⟩, ⟨#[97, 49]⟩, ⟨#[109]⟩, ⟨#[120, 57]⟩, ⟨#[98, 111, 111, 107]⟩, ⟨#[97, 98, 99, 100, 101, 102, 103, 104]⟩, ⟨#[113]⟩] : List ByteArray).flatMap cS) 9 := by rw [hw2]; exact Row.new w _ _
  have hlt := h.lt
  refine (c_spec_reader_of (h.ext e2) (by omega) (r2.slOf (cap := 10) (by simp)) (apart_new (by omega)) (by simp) (by simp)).mono ?_
  rintro _ w3 ⟨⟨x, hx, rfl⟩, h3, c3⟩
  refine ⟨_, rfl, ⟨x, rfl, ?_⟩, h3, (Chg.of_ext e2).trans c3⟩
  simp only [List.mem_cons, List.not_mem_nil, or_false] at hx
  rcases hx with rfl | rfl | rfl | rfl | rfl | rfl | rfl | rfl | rfl | rfl <;> decide

theorem c_spec_badName {w : World} {b : Nat} {bs : List UInt8} {B : Nat} (h : Rd w b bs B) (hB : B ≤ 549755813888) :
    CallR Tryd.prog 29 [.pointer (some ⟨b, 0, none⟩)] w (fun v w' => (∃ x, v = .string x ∧ x.size ≤ 16) ∧ Rd w' b bs (B + 1) ∧ Chg b w w') := by
  refine fn_spec_badName _ _ _ ?_
  unfold g_spec_badName
  refine letW_i fun w2 hw2 => ?_
  have e2 : Ext w w2 := by rw [hw2]; exact (Ext.refl w).alloc _
  have r2 : Row w2 w.heap.size (([⟨#[]⟩, ⟨#[65]⟩, ⟨#[97, 98, 99, 100, 101, 102, 103, 104, 105]⟩, ⟨#[97, 32, 98]⟩, ⟨#[97]⟩] : List ByteArray).flatMap cS) 9 := by rw [hw2]; exact Row.new w _ _
  have hlt := h.lt
  refine (c_spec_reader_of (h.ext e2) (by omega) (r2.slOf (cap := 5) (by simp)) (apart_new (by omega)) (by simp) (by simp)).mono ?_
  rintro _ w3 ⟨⟨x, hx, rfl⟩, h3, c3⟩
  refine ⟨_, rfl, ⟨x, rfl, ?_⟩, h3, (Chg.of_ext e2).trans c3⟩
  simp only [List.mem_cons, List.not_mem_nil, or_false] at hx
  rcases hx with rfl | rfl | rfl | rfl | rfl <;> decide

theorem c_spec_anyLimit {w : World} {b : Nat} {bs : List UInt8} {B : Nat} (h : Rd w b bs B) (hB : B ≤ 549755813888) :
    CallR Tryd.prog 15 [.pointer (some ⟨b, 0, none⟩)] w (fun v w' => (∃ n : Int, v = .int .i64 n ∧ 0 ≤ n ∧ n ≤ 11) ∧ Rd w' b bs (B + 1) ∧ Chg b w w') := by
  refine fn_spec_anyLimit _ _ _ ?_
  unfold g_spec_anyLimit
  refine letW_i fun w2 hw2 => ?_
  have e2 : Ext w w2 := by rw [hw2]; exact (Ext.refl w).alloc _
  have r2 : Row w2 w.heap.size (([1, 2, 3, 10, 0, 11, 2, 4] : List Int).flatMap cI) 3 := by rw [hw2]; exact Row.new w _ _
  have hlt := h.lt
  refine (c_spec_reader_one (h.ext e2) (by omega) (r2.slOf (cap := 8) (by simp)) (apart_new (by omega)) (by simp) (by simp)).mono ?_
  rintro _ w3 ⟨⟨x, hx, rfl⟩, h3, c3⟩
  refine ⟨_, rfl, ⟨x, rfl, ?_⟩, h3, (Chg.of_ext e2).trans c3⟩
  simp at hx; omega
end Go.Proofs
