/-
  What functions of this seat compute, part 'Bstr2': contracts over their readable predicates. Conditions: each theorem's own hypotheses.
-/
import Derived.Test.YtpofoikpmafnbaaDoorBase
import Derived.Test.YtpofoikpmafnbaaDoorOpen
import Derived.Test.YtpofoikpmafnbaaDoorGen
import Derived.Test.YtpofoikpmafnbaaDoorCDraw
import Derived.Test.YtpofoikpmafnbaaDoorCBstr
import Derived.Lib.Bytealg
namespace Go.Proofs
open Go Go.Vc Go.RowKit
set_option maxRecDepth 100000
set_option linter.unusedVariables false
--! C:Draw C:Bstr M:Derived.Lib.Bytealg
/-! ## More on strings; texts that are changed -/

theorem bcat (a : ByteArray) (l : List UInt8) : a ++ bstr l = bstr (a.data.toList ++ l) := by
  conv => lhs; rw [← bstr_self a]
  rw [bstr_append]

theorem ext_pre {s : ByteArray} {pre post : List UInt8} (h : s.data.toList = pre ++ post) : s.extract 0 pre.length = bstr pre := by
  unfold bstr
  apply ByteArray.ext
  apply Array.ext'
  simp [h]

theorem bstr_data (l : List UInt8) : (bstr l).data.toList = l := by simp [bstr]

theorem first_unique {c : UInt8} : ∀ {p q r t : List UInt8}, p ++ c :: r = q ++ c :: t → c ∉ p → c ∉ q → p = q
  | [], [], _, _, _, _, _ => rfl
  | [], x :: q, r, t, h, _, hq => by simp at h; exact absurd (by rw [h.1]; exact List.mem_cons_self) hq
  | x :: p, [], r, t, h, hp, _ => by simp at h; exact absurd (by rw [← h.1]; exact List.mem_cons_self) hp
  | x :: p, y :: q, r, t, h, hp, hq => by
    simp only [List.cons_append, List.cons.injEq] at h
    rw [h.1, first_unique h.2 (fun hm => hp (List.mem_cons_of_mem _ hm)) (fun hm => hq (List.mem_cons_of_mem _ hm))]

theorem indexByte_spec (c : UInt8) : ∀ l : List UInt8, (Lib.indexByte l c = -1 ∧ c ∉ l) ∨ ∃ pre post, l = pre ++ c :: post ∧ c ∉ pre ∧ Lib.indexByte l c = (pre.length : Int)
  | [] => .inl ⟨rfl, by simp⟩
  | b :: l => by
    by_cases hb : b = c
    · subst hb
      exact .inr ⟨[], l, rfl, by simp, by simp [Lib.indexByte]⟩
    · have hb' : (b == c) = false := by simpa using hb
      rcases indexByte_spec c l with ⟨h1, h2⟩ | ⟨pre, post, h1, h2, h3⟩
      · exact .inl ⟨by simp [Lib.indexByte, hb', h1], by simp [Ne.symm hb, h2]⟩
      · refine .inr ⟨b :: pre, post, by rw [h1]; rfl, by simp [Ne.symm hb, h2], ?_⟩
        rw [Lib.indexByte, hb', h3]
        have : ((pre.length : Int) == -1) = false := by simp
        rw [this]; simp

theorem sStr_of {w : World} {s : Sl} {bs : List UInt8} {K : ByteArray → Prop} (h : Bytes w s bs) (hK : K (bstr bs)) : sStr s w K := by
  refine ⟨bs, h.len.symm, fun j c hj => ?_, hK⟩
  obtain ⟨a, ha, hc⟩ := SlOf.cell1 h cU_len hj rfl
  refine ⟨a, ha, ?_⟩
  rw [Int.toNat_natCast, Nat.mul_one] at hc
  exact hc

theorem flat_cU : ∀ bs : List UInt8, bs.flatMap cU = bs.map fun c => Value.int .u8 c.toNat
  | [] => rfl
  | c :: r => by rw [List.flatMap_cons, flat_cU r]; rfl

theorem row_bytes {w : World} {b n : Nat} {bs : List UInt8} {e : TypeId} (h : Row w b (bs.map fun c => Value.int .u8 c.toNat) e) (hn : n = bs.length) : Bytes w ⟨some ⟨b, 0, none⟩, n, n⟩ bs := by
  subst hn
  refine Row.slOf (c := cU) (e := e) ?_ (Nat.le_refl _)
  rw [flat_cU]; exact h

theorem app_size (a b : ByteArray) : (a ++ b).size = a.size + b.size := by
  conv => lhs; rw [← bstr_self a, ← bstr_self b]
  rw [bstr_append, bstr_size, List.length_append, size_eq a, size_eq b]

theorem ext_size_le (s : ByteArray) (i j : Nat) : (s.extract i j).size ≤ s.size := by simp; omega

theorem c_spec_mutate {w : World} {b : Nat} {bs : List UInt8} {B : Nat} (s : ByteArray) (h : Rd w b bs B) (hB : B ≤ 549755813888) (hs : s.size ≤ 100000) :
    CallR Tryd.prog 28 [.pointer (some ⟨b, 0, none⟩), .string s] w (fun v w' => (∃ x, v = .string x ∧ x.size ≤ 300000) ∧ Rd w' b bs (B + 3) ∧ Chg b w w') := by
  refine fn_spec_mutate _ _ _ _ ?_
  unfold g_spec_mutate
  refine ⟨inR_i64 (by omega) (by omega), (c_spec_reader_pick _ h (by omega) (by omega)).mono ?_⟩
  rintro _ w1 ⟨⟨k, rfl, hk⟩, h1, c1⟩
  have hk' : (k : Int) < (s.size : Int) + 1 := hk (by omega)
  refine ⟨_, rfl, (c_spec_reader_pick _ h1 (by omega) (by omega)).mono ?_⟩
  rintro _ w2 ⟨⟨q, rfl, _⟩, h2, c2⟩
  have c02 := c1.trans c2
  refine ⟨_, rfl, br_i (fun _ => br_d (fun hlt => ?_) (fun _ => ⟨⟨s, rfl, by omega⟩, h2.mono (by omega), c02⟩)) (fun _ => br_i (fun _ => ?_) (fun _ => br_i (fun _ => letW_i fun w3 hw3 => ?_) (fun _ => ⟨⟨s, rfl, by omega⟩, h2.mono (by omega), c02⟩)))⟩
  · intro w3 e3
    refine ⟨⟨by omega, by omega, by omega⟩, letW_i fun w4 hw4 => ?_⟩
    have e4 : Ext w3 w4 := by rw [hw4]; exact (Ext.refl w3).alloc _
    have r4 : Row w4 w3.heap.size (([⟨#[48]⟩, ⟨#[49]⟩, ⟨#[32]⟩, ⟨#[45]⟩, ⟨#[44]⟩, ⟨#[97]⟩, ⟨#[34]⟩, ⟨#[93]⟩] : List ByteArray).flatMap cS) 9 := by rw [hw4]; exact Row.new w3 _ _
    have hlt3 := (h2.ext e3).lt
    refine (c_spec_reader_of ((h2.ext e3).ext e4) (by omega) (r4.slOf (cap := 8) (by simp)) (apart_new (by omega)) (by simp) (by simp)).mono ?_
    rintro _ w5 ⟨⟨x, hx, rfl⟩, h5, c5⟩
    have hx1 : x.size ≤ 16 := by
      simp only [List.mem_cons, List.not_mem_nil, or_false] at hx
      rcases hx with rfl | rfl | rfl | rfl | rfl | rfl | rfl | rfl <;> decide
    have z1 := ext_size_le s (0 : Int).toNat (k : Int).toNat
    have z2 := ext_size_le s ((k : Int) + 1).toNat (s.size : Int).toNat
    refine ⟨_, rfl, by omega, inR_i64 (by omega) (by omega), ⟨by omega, by omega, by omega⟩, by rw [app_size]; omega, ⟨_, rfl, by rw [app_size, app_size]; omega⟩, h5.mono (by omega), ((c02.trans (Chg.of_ext e3)).trans (Chg.of_ext e4)).trans c5⟩
  · have z1 := ext_size_le s (0 : Int).toNat (k : Int).toNat
    exact ⟨⟨by omega, by omega, by omega⟩, ⟨_, rfl, by omega⟩, h2.mono (by omega), c02⟩
  · have e3 : Ext w2 w3 := by rw [hw3]; exact (Ext.refl w2).alloc _
    have r3 : Row w3 w2.heap.size (([⟨#[48]⟩, ⟨#[32]⟩, ⟨#[110, 117, 108, 108]⟩, ⟨#[44, 49]⟩, ⟨#[120]⟩, ⟨#[126]⟩] : List ByteArray).flatMap cS) 9 := by rw [hw3]; exact Row.new w2 _ _
    have hlt2 := h2.lt
    refine (c_spec_reader_of (h2.ext e3) (by omega) (r3.slOf (cap := 6) (by simp)) (apart_new (by omega)) (by simp) (by simp)).mono ?_
    rintro _ w5 ⟨⟨x, hx, rfl⟩, h5, c5⟩
    have hx1 : x.size ≤ 16 := by
      simp only [List.mem_cons, List.not_mem_nil, or_false] at hx
      rcases hx with rfl | rfl | rfl | rfl | rfl | rfl <;> decide
    exact ⟨_, rfl, by omega, ⟨_, rfl, by rw [app_size]; omega⟩, h5.mono (by omega), (c02.trans (Chg.of_ext e3)).trans c5⟩

end Go.Proofs
