/-
  What functions of this seat compute, part 'TagsDraw': contracts over their readable predicates. Conditions: each theorem's own hypotheses.
-/
import Derived.Test.YtpofoikpmafnbaaDoorBase
import Derived.Test.YtpofoikpmafnbaaDoorOpen
import Derived.Test.YtpofoikpmafnbaaDoorGen
import Derived.Test.YtpofoikpmafnbaaDoorCTags
import Derived.Test.YtpofoikpmafnbaaDoorCDraw
namespace Go.Proofs
open Go Go.Vc Go.RowKit
set_option maxRecDepth 100000
set_option linter.unusedVariables false
--! C:Tags C:Draw
/-! ## Draws of tags -/

theorem c_spec_anyTags {w : World} {b : Nat} {bs : List UInt8} {B : Nat} (tag : ByteArray) (h : Rd w b bs B) (hB : B ≤ 549755813888) (ht : tag.size ≤ 16) :
    CallR Tryd.prog 20 [.pointer (some ⟨b, 0, none⟩), .string tag] w (fun v w' => (∃ (s : Sl) (xs : List ByteArray), v = .slice s.a s.len s.cap ∧ Strs w' s xs ∧ Apart s b ∧ xs.length ≤ 5 ∧ (∀ x ∈ xs, x.size ≤ 16) ∧ (∀ a, s.a = some a → w.heap.size ≤ a.block)) ∧ Rd w' b bs (B + 20) ∧ Chg b w w') := by
  refine fn_spec_anyTags _ _ _ _ ?_
  unfold g_spec_anyTags
  have hlt := h.lt
  refine letW_i fun w1 hw1 => letW_i fun w2 hw2 => ?_
  have e1 : Ext w w1 := by rw [hw1]; exact (Ext.refl w).alloc _
  have e12 : Ext w1 w2 := by rw [hw2]; exact (Ext.refl w1).alloc _
  have hs1 : w1.heap.size = w.heap.size + 1 := by rw [hw1]; simp
  have o1 : Own w.heap.size 9 1 w1 ⟨some ⟨w.heap.size, 0, none⟩, 0, 0⟩ [] := by rw [hw1]; exact Own.fresh w _ 1 _ (Nat.le_refl _)
  have r2 : Row w2 w1.heap.size (([0, 1, 0, 2, 0, 4, 5] : List Int).flatMap cI) 3 := by rw [hw2]; exact Row.new w1 _ _
  refine (c_spec_reader_one (h.ext (e1.trans e12)) (by omega) (r2.slOf (cap := 7) (by simp)) (apart_new (by omega)) (by simp) (by simp)).mono ?_
  rintro _ w3 ⟨⟨n, hn, rfl⟩, h3, hc3⟩
  refine ⟨_, rfl, ?_⟩
  obtain ⟨m, rfl, hm⟩ : ∃ m : Nat, n = m ∧ m ≤ 5 := by
    have : 0 ≤ n ∧ n ≤ 5 := by simp at hn; omega
    exact ⟨n.toNat, by omega, by omega⟩
  have c03 : Chg b w w3 := (Chg.of_ext (e1.trans e12)).trans hc3
  have o3 : Own w.heap.size 9 1 w3 ⟨some ⟨w.heap.size, 0, none⟩, 0, 0⟩ [] := (o1.ext e12).chg hc3 hlt
  refine sLoop_down m (fun k t w' => Chg b w w' ∧ Rd w' b bs (B + 1 + (m - k)) ∧ ∃ xs : List ByteArray, Own w.heap.size 9 1 w' t.1 (xs.flatMap cS) ∧ xs.length = m - k ∧ ∀ x ∈ xs, x.size ≤ 16) ⟨c03, by simpa using h3, [], o3, by simp, by simp⟩ ?_ ?_
  · rintro K k ⟨l, u⟩ w4 hk ⟨hc4, h4, xs, o4, hl, hsz⟩ hK _
    refine br_dt (by omega) (letW_i fun w5 hw5 => ?_)
    have e45 : Ext w4 w5 := by rw [hw5]; exact (Ext.refl w4).alloc _
    have r5 : Row w5 w4.heap.size (([star, ⟨#[48, 48, 48, 48]⟩, ⟨#[49, 50, 97, 98]⟩, ⟨#[102, 102, 102, 102]⟩, tag, tag] : List ByteArray).flatMap cS) 9 := by rw [hw5]; exact Row.new w4 _ _
    have hb4 := h4.lt
    refine (c_spec_reader_of (h4.ext e45) (by omega) (r5.slOf (cap := 6) (by simp)) (apart_new (by omega)) (by simp) (by simp)).mono ?_
    rintro _ w6 ⟨⟨x, hx, rfl⟩, h6, hc6⟩
    have hx16 : x.size ≤ 16 := by
      simp only [List.mem_cons, List.not_mem_nil, or_false] at hx
      rcases hx with rfl | rfl | rfl | rfl | rfl | rfl <;> first | exact ht | decide
    refine ⟨_, rfl, letW_i fun w7 hw7 => ?_⟩
    have e67 : Ext w6 w7 := by rw [hw7]; exact (Ext.refl w6).alloc _
    have r7 : Row w7 w6.heap.size (cS x) 9 := by rw [hw7]; exact Row.new w6 _ _
    have o7 : Own w.heap.size 9 1 w7 l (xs.flatMap cS) := ((o4.ext e45).chg hc6 hlt).ext e67
    have hll : l.len = xs.length := by have := o7.1; rw [flatMap_len cS_len] at this; omega
    have hsz0 : w.heap.size ≤ w7.heap.size := Nat.le_trans hc4.size (Nat.le_trans e45.size (Nat.le_trans hc6.size e67.size))
    refine sAppend_i o7 (Src.row r7 rfl (by intro u hu; simp [cS] at hu; subst hu; rfl)) (by simp only [hll]; omega) (by simp only [hll]; omega) hsz0 (fun s' w8 hl8 o8 hg8 => ?_)
    refine ⟨inR_i64 (by omega) (by omega), hK _ _ ⟨?_, ?_, xs ++ [x], by simpa using o8, by simp [hl]; omega, ?_⟩⟩
    · have c7 : Chg b w w7 := ((hc4.trans (Chg.of_ext e45)).trans hc6).trans (Chg.of_ext e67)
      refine ⟨hg8.os.trans c7.os, hg8.tape.trans c7.tape, hg8.output.trans c7.output, Nat.le_trans c7.size hg8.size, fun i hi hn => ?_⟩
      refine (hg8.block i (Nat.lt_of_lt_of_le hi c7.size) (fun hr => ?_)).trans (c7.block i hi hn)
      have := (o7.lt i hr.symm).1
      omega
    · have := ((h6.ext e67).own o7 hg8 hlt)
      exact this.mono (by omega)
    · intro y hy
      rcases List.mem_append.1 hy with hy | hy
      · exact hsz y hy
      · simp at hy; rw [hy]; exact hx16
  · rintro K ⟨l, u⟩ w4 ⟨hc4, h4, xs, o4, hl, hsz⟩ _
    refine br_df (by omega) ?_
    have sl4 : Strs w4 l xs := o4.slOf cS_len (by omega)
    have hap := o4.apart hlt
    have hge : ∀ a, l.a = some a → w.heap.size ≤ a.block := fun a ha => by
      have : l.v.ownBlock = some a.block := by simp [Sl.v, Value.ownBlock, ha]
      exact (o4.lt _ this).1
    have hll := sl4.len
    have fin : ∀ w', Chg b w4 w' → Rd w' b bs (B + 20) → (∃ (s : Sl) (xs : List ByteArray), Value.slice l.a l.len l.cap = .slice s.a s.len s.cap ∧ Strs w' s xs ∧ Apart s b ∧ xs.length ≤ 5 ∧ (∀ x ∈ xs, x.size ≤ 16) ∧ (∀ a, s.a = some a → w.heap.size ≤ a.block)) ∧ Rd w' b bs (B + 20) ∧ Chg b w w' := fun w' hc hr =>
      ⟨⟨l, xs, rfl, sl4.chg hc hap, hap, by omega, hsz, hge⟩, hr, hc4.trans hc⟩
    refine br_d (fun h0 => ?_) (fun h0 => fin _ (Chg.refl _ _) (h4.mono (by omega)))
    refine (c_spec_reader_pick _ h4 (by omega) (by omega)).mono ?_
    rintro _ w5 ⟨⟨k, rfl, hk⟩, h5, hc5⟩
    refine ⟨_, rfl, br_i (fun h1 => letW_i fun w6 hw6 => ?_) (fun h1 => fin _ hc5 (h5.mono (by omega)))⟩
    have e56 : Ext w5 w6 := by rw [hw6]; exact (Ext.refl w5).alloc _
    have r6 : Row w6 w5.heap.size (([⟨#[]⟩, ⟨#[49, 50, 97, 66]⟩, ⟨#[49, 50, 51]⟩, ⟨#[49, 50, 51, 52, 53]⟩] : List ByteArray).flatMap cS) 9 := by rw [hw6]; exact Row.new w5 _ _
    have hb5 := h5.lt
    refine (c_spec_reader_of (h5.ext e56) (by omega) (r6.slOf (cap := 4) (by simp)) (apart_new (by omega)) (by simp) (by simp)).mono ?_
    rintro _ w7 ⟨⟨x, hx, rfl⟩, h7, hc7⟩
    have hx16 : x.size ≤ 16 := by
      simp only [List.mem_cons, List.not_mem_nil, or_false] at hx
      rcases hx with rfl | rfl | rfl | rfl <;> decide
    refine ⟨_, rfl, ?_⟩
    have o7 : Own w.heap.size 9 1 w7 l (xs.flatMap cS) := ((o4.chg hc5 hlt).ext e56).chg hc7 hlt
    have c47 : Chg b w4 w7 := (hc5.trans (Chg.of_ext e56)).trans hc7
    rcases o7.2 with ⟨hv, hn⟩ | ⟨g, cap0, cur, hv, hbg, hg, hnc, hcm, hcs, htake⟩
    · exfalso
      have hz : l.len = 0 := by
        simp only [Sl.v, Value.slice.injEq] at hv
        exact hv.2.1
      have h0' : (0 : Int) < (l.len : Int) := h0
      omega
    obtain ⟨la, ll, lc⟩ := l
    simp only [Sl.v, Value.slice.injEq] at hv
    obtain ⟨rfl, _, rfl⟩ := hv
    simp only at *
    have hpos : 0 < xs.length := by omega
    have hgr : Row w7 g cur.toList 9 := by unfold Row; simpa using hg
    have hz : (⟨g, 0, none⟩ : Addr).add ((0 : Int).toNat * 1) = (⟨g, 0, none⟩ : Addr).add 0 := rfl
    have hcurlen : cur.toList.length = lc * 1 := by simpa using hcs
    refine ⟨⟨by omega, by omega⟩, by rw [hz]; exact hgr.wr (by omega), letW_i fun w8 hw8 => ?_⟩
    have c78 : Chg b w w8 := by
      rw [hw8]
      refine ⟨(hc4.trans c47).os, (hc4.trans c47).tape, (hc4.trans c47).output, by simp [World.setCell]; exact (hc4.trans c47).size, fun i hi hn => ?_⟩
      rw [Below.heap_setCell _ _ _ i (by rw [hz, add_b]; show i ≠ g; omega)]
      exact (hc4.trans c47).block i hi hn
    have hr8 : Row w8 g (cur.toList.set 0 (.string x)) 9 := by rw [hw8, hz]; exact hgr.set 0 _
    have hrd8 : Rd w8 b bs (B + 20) := by
      rw [hw8]
      refine (h7.set ?_ _).mono (by omega)
      rw [hz, add_b]; show b < g; omega
    refine ⟨⟨⟨some ⟨g, 0, none⟩, ll, lc⟩, x :: xs.drop 1, rfl, ⟨?_, hnc, ?_⟩, hap, by simp; omega, ?_, hge⟩, hrd8, c78⟩
    · simp only [List.length_cons, List.length_drop]; omega
    · intro i v hi
      refine ⟨_, rfl, hr8.cell ?_⟩
      cases i with
      | zero =>
        simp [cS] at hi
        subst hi
        rw [List.getElem?_set_self (by omega)]
      | succ i =>
        have h1 : (xs.flatMap cS)[i + 1]? = some v := by
          obtain ⟨y, r, rfl⟩ : ∃ y r, xs = y :: r := by
            cases xs with
            | nil => simp at hpos
            | cons y r => exact ⟨y, r, rfl⟩
          simpa [cS] using hi
        rw [← htake, List.getElem?_take] at h1
        split at h1
        · rw [List.getElem?_set_ne (by omega)]; exact h1
        · cases h1
    · intro y hy
      rcases List.mem_cons.1 hy with rfl | hy
      · exact hx16
      · exact hsz y (List.mem_of_mem_drop hy)
end Go.Proofs
