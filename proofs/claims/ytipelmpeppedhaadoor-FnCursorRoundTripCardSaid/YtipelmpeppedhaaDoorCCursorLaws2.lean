/-
  What functions of this seat compute, part 'CursorLaws2': contracts over their readable predicates. Conditions: each theorem's own hypotheses.
-/
import Derived.Test.YtipelmpeppedhaaDoorBase
import Derived.Test.YtipelmpeppedhaaDoorOpen
import Derived.Test.YtipelmpeppedhaaDoorGen
import Derived.Test.YtipelmpeppedhaaDoorCSmall
import Derived.Test.YtipelmpeppedhaaDoorCBstr
import Derived.Test.YtipelmpeppedhaaDoorCCursor
import Derived.Test.YtipelmpeppedhaaDoorCDraw
import Derived.Test.YtipelmpeppedhaaDoorCCursorLaws
import Derived.Test.YtipelmpeppedhaaDoorShelf
namespace Go.Proofs
open Go Go.Vc Go.RowKit
set_option maxRecDepth 100000
set_option linter.unusedVariables false
--! C:Small C:Bstr C:Cursor C:Draw C:CursorLaws S
/-! ## Cursors: the laws -/

theorem app_size (a b : ByteArray) : (a ++ b).size = a.size + b.size := by
  conv => lhs; rw [← bstr_self a, ← bstr_self b]
  rw [bstr_append, bstr_size, List.length_append, size_eq a, size_eq b]

theorem ext_size_le (s : ByteArray) (i j : Nat) : (s.extract i j).size ≤ s.size := by simp; omega

theorem c_spec_mutate {w : World} {b : Nat} {bs : List UInt8} {B : Nat} (s : ByteArray) (h : Rd w b bs B) (hB : B ≤ 549755813888) (hs : s.size ≤ 100000) :
    CallR Tryd.prog 18 [.pointer (some ⟨b, 0, none⟩), .string s] w (fun v w' => (∃ x, v = .string x ∧ x.size ≤ 300000) ∧ Rd w' b bs (B + 3) ∧ Chg b w w') := by
  refine fn_spec_mutate _ _ _ _ ?_
  unfold g_spec_mutate
  refine ⟨inR_i64 (by omega) (by omega), (c_spec_reader_pick _ h (by omega) (by omega)).mono ?_⟩
  rintro _ w1 ⟨⟨k, rfl, hk⟩, h1, c1⟩
  have hk' : (k : Int) < (s.size : Int) + 1 := hk (by omega)
  refine ⟨_, rfl, (c_spec_reader_pick _ h1 (by omega) (by omega)).mono ?_⟩
  rintro _ w2 ⟨⟨q, rfl, _⟩, h2, c2⟩
  have c02 := c1.trans c2
  refine ⟨_, rfl, br_i (fun _ => br_d (fun hlt => ?_) (fun _ => ⟨⟨s, rfl, by omega⟩, h2.mono (by omega), c02⟩)) (fun _ => br_i (fun _ => ?_) (fun _ => br_i (fun _ => letW_i fun w3 hw3 => ?_) (fun _ => ⟨⟨s, rfl, by omega⟩, h2.mono (by omega), c02⟩)))⟩
  · intro w3 e3
    refine ⟨⟨by omega, by omega, by omega⟩, letW_i fun w4 hw4 => ?_⟩
    have e4 : Ext w3 w4 := by rw [hw4]; exact (Ext.refl w3).alloc _
    have r4 : Row w4 w3.heap.size (([⟨#[48]⟩, ⟨#[49]⟩, ⟨#[32]⟩, ⟨#[45]⟩, ⟨#[44]⟩, ⟨#[97]⟩, ⟨#[34]⟩, ⟨#[93]⟩] : List ByteArray).flatMap cS) 9 := by rw [hw4]; exact Row.new w3 _ _
    have hlt3 := (h2.ext e3).lt
    refine (c_spec_reader_of ((h2.ext e3).ext e4) (by omega) (r4.slOf (cap := 8) (by simp)) (apart_new (by omega)) (by simp) (by simp)).mono ?_
    rintro _ w5 ⟨⟨x, hx, rfl⟩, h5, c5⟩
    have hx1 : x.size ≤ 16 := by
      simp only [List.mem_cons, List.not_mem_nil, or_false] at hx
      rcases hx with rfl | rfl | rfl | rfl | rfl | rfl | rfl | rfl <;> decide
    have z1 := ext_size_le s (0 : Int).toNat (k : Int).toNat
    have z2 := ext_size_le s ((k : Int) + 1).toNat (s.size : Int).toNat
    refine ⟨_, rfl, by omega, inR_i64 (by omega) (by omega), ⟨by omega, by omega, by omega⟩, by rw [app_size]; omega, ⟨_, rfl, by rw [app_size, app_size]; omega⟩, h5.mono (by omega), ((c02.trans (Chg.of_ext e3)).trans (Chg.of_ext e4)).trans c5⟩
  · have z1 := ext_size_le s (0 : Int).toNat (k : Int).toNat
    exact ⟨⟨by omega, by omega, by omega⟩, ⟨_, rfl, by omega⟩, h2.mono (by omega), c02⟩
  · have e3 : Ext w2 w3 := by rw [hw3]; exact (Ext.refl w2).alloc _
    have r3 : Row w3 w2.heap.size (([⟨#[48]⟩, ⟨#[32]⟩, ⟨#[110, 117, 108, 108]⟩, ⟨#[44, 49]⟩, ⟨#[120]⟩, ⟨#[126]⟩] : List ByteArray).flatMap cS) 9 := by rw [hw3]; exact Row.new w2 _ _
    have hlt2 := h2.lt
    refine (c_spec_reader_of (h2.ext e3) (by omega) (r3.slOf (cap := 6) (by simp)) (apart_new (by omega)) (by simp) (by simp)).mono ?_
    rintro _ w5 ⟨⟨x, hx, rfl⟩, h5, c5⟩
    have hx1 : x.size ≤ 16 := by
      simp only [List.mem_cons, List.not_mem_nil, or_false] at hx
      rcases hx with rfl | rfl | rfl | rfl | rfl | rfl <;> decide
    exact ⟨_, rfl, by omega, ⟨_, rfl, by rw [app_size]; omega⟩, h5.mono (by omega), (c02.trans (Chg.of_ext e3)).trans c5⟩

theorem c_spec_DrawFormatCursor {w : World} {s : Sl} {bs : List UInt8} (hs : Bytes w s bs) :
    CallR Tryd.prog 13 [.slice s.a s.len s.cap] w (fun v w' => (∃ (x : ByteArray) (n : Int), v = .tuple #[.string x, .int .i64 n] ∧ x.size ≤ 16 ∧ 0 ≤ n ∧ n ≤ 11) ∧ Ext w w') := by
  refine fn_spec_DrawFormatCursor _ _ _ ?_
  unfold g_spec_DrawFormatCursor
  refine (c_spec_newReader hs).mono ?_
  rintro _ w1 ⟨rfl, h1, e1⟩
  refine ⟨_, rfl, (c_spec_itemName h1 (by omega)).mono ?_⟩
  rintro _ w2 ⟨⟨x, rfl, hx⟩, h2, c2⟩
  refine ⟨_, rfl, (c_spec_reader_pick _ h2 (by omega) (by omega)).mono ?_⟩
  rintro _ w3 ⟨⟨k, rfl, _⟩, h3, c3⟩
  have e3 : Ext w w3 := (e1.chg c2 (Nat.le_refl _)).chg c3 (Nat.le_refl _)
  refine ⟨_, rfl, br_i (fun _ => ?_) (fun _ => ?_)⟩
  · refine (c_spec_badName h3 (by omega)).mono ?_
    rintro _ w4 ⟨⟨y, rfl, hy⟩, h4, c4⟩
    refine ⟨_, rfl, (c_spec_anyLimit h4 (by omega)).mono ?_⟩
    rintro _ w5 ⟨⟨n, rfl, hn0, hn⟩, h5, c5⟩
    exact ⟨_, rfl, ⟨y, n, rfl, hy, hn0, hn⟩, (e3.chg c4 (Nat.le_refl _)).chg c5 (Nat.le_refl _)⟩
  · refine (c_spec_anyLimit h3 (by omega)).mono ?_
    rintro _ w5 ⟨⟨n, rfl, hn0, hn⟩, h5, c5⟩
    exact ⟨_, rfl, ⟨x, n, rfl, hx, hn0, hn⟩, e3.chg c5 (Nat.le_refl _)⟩

theorem c_spec_DrawReadCursor {w : World} {s : Sl} {bs : List UInt8} (hs : Bytes w s bs) :
    CallR Tryd.prog 8 [.slice s.a s.len s.cap] w (fun v w' => (∃ (x : ByteArray) (n : Int), v = .tuple #[.string x, .int .i64 n] ∧ x.size ≤ 300000) ∧ Ext w w') := by
  refine fn_spec_DrawReadCursor _ _ _ ?_
  unfold g_spec_DrawReadCursor
  refine (c_spec_newReader hs).mono ?_
  rintro _ w1 ⟨rfl, h1, e1⟩
  refine ⟨_, rfl, (c_spec_anyLimit h1 (by omega)).mono ?_⟩
  rintro _ w2 ⟨⟨n, rfl, hn0, hn⟩, h2, c2⟩
  refine ⟨_, rfl, (c_spec_itemName h2 (by omega)).mono ?_⟩
  rintro _ w3 ⟨⟨x, rfl, hx⟩, h3, c3⟩
  refine ⟨_, rfl, (c_spec_FormatCursor x n w3 (by omega)).go fun w4 e4 => ⟨_, rfl, ?_⟩⟩
  have e04 : Ext w w4 := ((e1.chg c2 (Nat.le_refl _)).chg c3 (Nat.le_refl _)).trans e4
  have hcs := curStr_size x n
  refine (c_spec_reader_pick _ (h3.ext e4) (by omega) (by omega)).mono ?_
  rintro _ w5 ⟨⟨k, rfl, _⟩, h5, c5⟩
  have e05 := e04.chg c5 (Nat.le_refl _)
  refine ⟨_, rfl, br_i (fun _ => ?_) (fun _ => br_i (fun _ => ⟨inR_i64 (by omega) (by omega), ⟨_, _, rfl, by omega⟩, e05⟩) (fun _ => ⟨⟨_, _, rfl, by omega⟩, e05⟩))⟩
  refine (c_spec_mutate _ h5 (by omega) (by omega)).mono ?_
  rintro _ w6 ⟨⟨y, rfl, hy⟩, h6, c6⟩
  exact ⟨_, rfl, ⟨y, n, rfl, hy⟩, e05.chg c6 (Nat.le_refl _)⟩

theorem c_laws_FnExactFormatCursor (name : ByteArray) (hm : name.size ≤ maxLen) (n : Int) (_ : (Lit.int .i64 n).wf = true) {w : World} : CallR Tryd.prog 4 [.string name, .int .i64 n] w (fun v w' => v = .bool true ∧ Ext w w') := by
  refine fn_laws_FnExactFormatCursor _ _ _ _ ?_
  unfold g_laws_FnExactFormatCursor
  refine br_d (fun _ => ⟨rfl, Ext.refl _⟩) (fun h => ?_)
  refine (c_spec_FormatCursor name n w (by omega)).go fun w1 e1 => ⟨_, rfl, (c_impl_FormatCursor name n w1 (by omega)).go fun w2 e2 => ⟨_, rfl, br_f (by simp [seqB_eq]) ⟨rfl, e1.trans e2⟩⟩⟩

theorem c_laws_FnExactReadCursor (s : ByteArray) (hm : s.size ≤ maxLen) (n : Int) (_ : (Lit.int .i64 n).wf = true) {w : World} : CallR Tryd.prog 5 [.string s, .int .i64 n] w (fun v w' => v = .bool true ∧ Ext w w') := by
  refine fn_laws_FnExactReadCursor _ _ _ _ ?_
  unfold g_laws_FnExactReadCursor
  refine br_d (fun _ => ⟨rfl, Ext.refl _⟩) (fun h => ?_)
  refine (c_spec_ReadCursor s n w (by omega)).go fun w1 e1 => ⟨_, _, rfl, (c_impl_ReadCursor s n w1 (by omega)).go fun w2 e2 => ⟨_, _, rfl, br_f (by simp [seqB_eq]) (br_f (by simp) ⟨rfl, e1.trans e2⟩)⟩⟩

theorem c_laws_FnCursorCanonical {w : World} {s : Sl} {bs : List UInt8} (hs : Bytes w s bs) (_ : s.cap ≤ maxLen) : CallR Tryd.prog 3 [.slice s.a s.len s.cap] w (fun v w' => v = .bool true ∧ Ext w w') := by
  refine fn_laws_FnCursorCanonical _ _ _ ?_
  unfold g_laws_FnCursorCanonical
  refine br_d (fun _ => ⟨rfl, Ext.refl _⟩) (fun _ => ?_)
  refine (c_spec_DrawReadCursor hs).mono ?_
  rintro _ w1 ⟨⟨x, n, rfl, hx⟩, e1⟩
  refine ⟨_, _, rfl, (c_impl_ReadCursor x n w1 (by omega)).go fun w2 e2 => ⟨_, _, rfl, (c_spec_ReadCursor x n w2 (by omega)).go fun w3 e3 => ⟨_, _, rfl, br_f (by simp [seqB_eq]) (br_f (by simp) ?_)⟩⟩⟩
  have e03 := (e1.trans e2).trans e3
  refine br_i (fun _ => ⟨rfl, e03⟩) (fun hok => ?_)
  have hok' : (readC x n).2 = true := by simpa using hok
  have hc : 1 ≤ (x.size : Int) - 5 ∧ lim10 n = true ∧ curStr (x.extract 0 (x.size - 5)) n = x := by
    unfold readC at hok'
    split at hok'
    · assumption
    · cases hok'
  have hr : readC x n = (x.extract 0 (x.size - 5), true) := by unfold readC; rw [if_pos hc]
  rw [hr]
  have := ext_size_le x 0 (x.size - 5)
  exact (c_impl_FormatCursor _ n w3 (Nat.le_trans this (by omega))).go fun w4 e4 => ⟨_, rfl, by rw [hc.2.2]; simp [seqB_eq], e03.trans e4⟩

theorem seq_nil_iff {x : ByteArray} : seqB x (⟨#[]⟩ : ByteArray) = false ↔ x ≠ bstr [] := by
  rw [seqB_eq]; simp [bstr]

theorem c_laws_FnCursorLimit {w : World} {s : Sl} {bs : List UInt8} (hs : Bytes w s bs) (_ : s.cap ≤ maxLen) : CallR Tryd.prog 6 [.slice s.a s.len s.cap] w (fun v w' => v = .bool true ∧ Ext w w') := by
  refine fn_laws_FnCursorLimit _ _ _ ?_
  unfold g_laws_FnCursorLimit
  refine br_d (fun _ => ⟨rfl, Ext.refl _⟩) (fun _ => ?_)
  refine (c_spec_DrawFormatCursor hs).mono ?_
  rintro _ w1 ⟨⟨x, n, rfl, hx, hn0, hn⟩, e1⟩
  refine ⟨_, _, rfl, (c_impl_FormatCursor x n w1 (by omega)).go fun w2 e2 => ⟨_, rfl, (c_spec_FormatCursor x n w2 (by omega)).go fun w3 e3 => ⟨_, rfl, br_f (by simp [seqB_eq]) ?_⟩⟩⟩
  have e03 := (e1.trans e2).trans e3
  have same : CallR Tryd.prog 12 [.string x, .int .i64 n] w3 (fun r w'' => ∃ s12 : ByteArray, r = .string s12 ∧ (Value.bool (seqB (curStr x n) s12) = .bool true ∧ Ext w w'')) :=
    (c_spec_FormatCursor x n w3 (by omega)).go fun w4 e4 => ⟨_, rfl, by simp [seqB_eq], e03.trans e4⟩
  refine br_i (fun _ => same) (fun h0 => br_d (fun _ => same) (fun h9 => ?_))
  have hg := curStr_ne (seq_nil_iff.1 h0)
  have hcs := curStr_size x n
  refine ⟨inR_i64 (by omega) (by omega), (c_impl_ReadCursor _ _ w3 (by omega)).go fun w4 e4 => ⟨_, _, rfl, ?_, e03.trans e4⟩⟩
  rw [readC_next hg (by omega)]; rfl

theorem c_laws_FnCursorRoundTrip {w : World} {s : Sl} {bs : List UInt8} (hs : Bytes w s bs) (_ : s.cap ≤ maxLen) : CallR Tryd.prog 7 [.slice s.a s.len s.cap] w (fun v w' => v = .bool true ∧ Ext w w') := by
  refine fn_laws_FnCursorRoundTrip _ _ _ ?_
  unfold g_laws_FnCursorRoundTrip
  refine br_d (fun _ => ⟨rfl, Ext.refl _⟩) (fun _ => ?_)
  refine (c_spec_DrawFormatCursor hs).mono ?_
  rintro _ w1 ⟨⟨x, n, rfl, hx, hn0, hn⟩, e1⟩
  refine ⟨_, _, rfl, (c_impl_FormatCursor x n w1 (by omega)).go fun w2 e2 => ⟨_, rfl, (c_spec_FormatCursor x n w2 (by omega)).go fun w3 e3 => ⟨_, rfl, br_f (by simp [seqB_eq]) ?_⟩⟩⟩
  have e03 := (e1.trans e2).trans e3
  have same : CallR Tryd.prog 12 [.string x, .int .i64 n] w3 (fun r w'' => ∃ s12 : ByteArray, r = .string s12 ∧ (Value.bool (seqB (curStr x n) s12) = .bool true ∧ Ext w w'')) :=
    (c_spec_FormatCursor x n w3 (by omega)).go fun w4 e4 => ⟨_, rfl, by simp [seqB_eq], e03.trans e4⟩
  refine br_i (fun _ => same) (fun h0 => ?_)
  have hg := curStr_ne (seq_nil_iff.1 h0)
  have hcs := curStr_size x n
  have hz := (cur_name hg rfl).1
  refine (c_impl_ReadCursor _ _ w3 (by omega)).go fun w4 e4 => ⟨_, _, rfl, ?_⟩
  rw [readC_cur hg]
  refine br_t rfl (br_t (by simp [seqB_eq]) ⟨inR_i64 (by omega) (by omega), ?_, e03.trans e4⟩)
  rw [hz]; simp
end Go.Proofs
