/-
  What functions of this seat compute, part 'CallsDraw': contracts over their readable predicates. Conditions: each theorem's own hypotheses.
-/
import Derived.Test.YtneehnkdgjijiaaBase
import Derived.Test.YtneehnkdgjijiaaOpen
import Derived.Test.YtneehnkdgjijiaaGen
import Derived.Test.YtneehnkdgjijiaaCDraw
import Derived.Test.YtneehnkdgjijiaaCCalls
import Derived.Test.YtneehnkdgjijiaaCCalls2
import Derived.Test.YtneehnkdgjijiaaCCalls3
import Derived.Test.YtneehnkdgjijiaaCCallsHelp
import Derived.Test.YtneehnkdgjijiaaCIntsHelp
namespace Go.Proofs
open Go Go.Vc Go.RowKit
set_option maxRecDepth 100000
set_option linter.unusedVariables false
--! C:Draw C:Calls C:Calls2 C:Calls3 C:CallsHelp C:IntsHelp
/-! ## Draws of calls -/

def smallC (c : Cz) : Prop := (-1000 ≤ c.1 ∧ c.1 ≤ 2000) ∧ -1000 ≤ c.2.1 ∧ c.2.1 ≤ 2000

/-- A list of calls as it is drawn. -/
structure DrawnC (w : World) (base : Nat) (l : Sl) (xs : List Cz) : Prop where
  ls : Calls4 w l xs
  len : xs.length ≤ 7
  small : ∀ x ∈ xs, smallC x
  late : ∀ a, l.a = some a → base ≤ a.block

theorem DrawnC.chg {w w' : World} {base b : Nat} {l : Sl} {xs : List Cz} (h : DrawnC w base l xs) (hc : Chg b w w') (hb : b < base) : DrawnC w' base l xs :=
  ⟨h.ls.chg hc (fun a ha => by have := h.late a ha; omega), h.len, h.small, h.late⟩
theorem DrawnC.ext {w w' : World} {base : Nat} {l : Sl} {xs : List Cz} (h : DrawnC w base l xs) (he : Ext w w') : DrawnC w' base l xs := ⟨h.ls.ext he, h.len, h.small, h.late⟩
theorem DrawnC.le {w : World} {base base' : Nat} {l : Sl} {xs : List Cz} (h : DrawnC w base l xs) (hb : base' ≤ base) : DrawnC w base' l xs := ⟨h.ls, h.len, h.small, fun a ha => Nat.le_trans hb (h.late a ha)⟩
theorem DrawnC.max {w : World} {base : Nat} {l : Sl} {xs : List Cz} (h : DrawnC w base l xs) : xs.length ≤ maxLen := by
  have := h.len
  unfold maxLen; omega

theorem lateOwn {base n : Nat} {e : TypeId} {w : World} {l : Sl} {vs : List Value} (o : Own base e n w l vs) : ∀ a, l.a = some a → base ≤ a.block := fun a ha => by
  have : l.v.ownBlock = some a.block := by simp [Sl.v, Value.ownBlock, ha]
  exact (o.lt _ this).1

set_option maxHeartbeats 2000000 in
theorem c_spec_anyCalls {w : World} {b : Nat} {bs : List UInt8} {B : Nat} (h : Rd w b bs B) (hB : B ≤ 274877906944) :
    CallR Try.prog 26 [.pointer (some ⟨b, 0, none⟩)] w (fun v w' => (∃ (l : Sl) (xs : List Cz), v = .slice l.a l.len l.cap ∧ DrawnC w' w.heap.size l xs) ∧ Rd w' b bs (B + 80) ∧ Chg b w w') := by
  refine fn_spec_anyCalls _ _ _ ?_
  unfold g_spec_anyCalls
  have hlt := h.lt
  refine letW_i fun w1 hw1 => letW_i fun w2 hw2 => ?_
  have e1 : Ext w w1 := by rw [hw1]; exact (Ext.refl w).alloc _
  have e12 : Ext w1 w2 := by rw [hw2]; exact (Ext.refl w1).alloc _
  have hs1 : w1.heap.size = w.heap.size + 1 := by rw [hw1]; simp
  have o1 : Own w.heap.size 30 4 w1 ⟨some ⟨w.heap.size, 0, none⟩, 0, 0⟩ [] := by rw [hw1]; exact Own.fresh w _ 4 _ (Nat.le_refl _)
  have r2 : Row w2 w1.heap.size (([3, 4, 2, 5, 1, 0, 6, 7] : List Int).flatMap cI) 3 := by rw [hw2]; exact Row.new w1 _ _
  refine (c_spec_reader_one (h.ext (e1.trans e12)) (by omega) (r2.slOf (cap := 8) (by simp)) (apart_new (by omega)) (by simp) (by simp)).mono ?_
  rintro _ w3 ⟨⟨n, hn, rfl⟩, h3, hc3⟩
  refine ⟨_, rfl, ?_⟩
  obtain ⟨m, rfl, hm⟩ : ∃ m : Nat, n = m ∧ m ≤ 7 := by
    have : 0 ≤ n ∧ n ≤ 7 := by simp at hn; omega
    exact ⟨n.toNat, by omega, by omega⟩
  have c03 : Chg b w w3 := (Chg.of_ext (e1.trans e12)).trans hc3
  have o3 : Own w.heap.size 30 4 w3 ⟨some ⟨w.heap.size, 0, none⟩, 0, 0⟩ [] := (o1.ext e12).chg hc3 hlt
  refine sLoop_down m (fun k t w' => Chg b w w' ∧ Rd w' b bs (B + 1 + 4 * (m - k)) ∧ (0 ≤ t.2.1 ∧ t.2.1 ≤ 4 * (m - k : Nat)) ∧ ∃ xs : List Cz, Own w.heap.size 30 4 w' t.1 (xs.flatMap cC) ∧ xs.length = m - k ∧ ∀ x ∈ xs, smallC x) ⟨c03, by simpa using h3, ⟨Int.le_refl _, by simp⟩, [], o3, by simp, by simp⟩ ?_ ?_
  · rintro K k ⟨l, at_, u⟩ w4 hk ⟨hc4, h4, hat, xs, o4, hl, hsz⟩ hK _
    simp only at hat o4
    simp only
    refine br_dt (by omega) ((c_spec_reader_pick _ h4 (by omega) (by omega)).mono ?_)
    rintro _ w5 ⟨⟨k5, rfl, hk5⟩, h5, c5⟩
    have hk5' := hk5 (by omega)
    refine ⟨_, rfl, inR_i64 (by omega) (by omega), (c_spec_reader_pick _ h5 (by omega) (by omega)).mono ?_⟩
    rintro _ w6 ⟨⟨k6, rfl, hk6⟩, h6, c6⟩
    have hk6' := hk6 (by omega)
    refine ⟨_, rfl, inR_i64 (by omega) (by omega), (c_spec_reader_pick _ h6 (by omega) (by omega)).mono ?_⟩
    rintro _ w7 ⟨⟨k7, rfl, hk7⟩, h7, c7⟩
    refine ⟨_, rfl, (c_spec_reader_pick _ h7 (by omega) (by omega)).mono ?_⟩
    rintro _ w8 ⟨⟨k8, rfl, hk8⟩, h8, c8⟩
    have c48 : Chg b w4 w8 := ((c5.trans c6).trans c7).trans c8
    have o8 := o4.chg c48 hlt
    have c08 := hc4.trans c48
    refine ⟨_, rfl, push1 (x := (at_ + (k5 : Int), at_ + (k5 : Int) + (k6 : Int), ((k7 : Int) == (0 : Int)), (k8 : Int))) cC_len (by decide) (cC_one _) o8 c08.size (by omega) (by decide) (fun s' wm w' hl' o' em om hg => ⟨inR_i64 (by omega) (by omega), hK _ _ ⟨(c08.trans (Chg.of_ext em)).own om hg (Nat.le_refl _), ((h8.ext em).own om hg hlt).mono (by omega), ⟨by simp only; omega, by simp only; omega⟩, _, o', by simp; omega, ?_⟩⟩)⟩
    intro y hy
    rcases List.mem_append.1 hy with hy | hy
    · exact hsz y hy
    · simp at hy; subst hy
      unfold smallC
      simp only
      omega
  · rintro K ⟨l, at_, u⟩ w4 ⟨hc4, h4, hat, xs, o4, hl, hsz⟩ _
    simp only at hat o4
    have hll := o4.len cC_len (by decide)
    have fin : ∀ {w'}, Chg b w w' → Rd w' b bs (B + 80) → Own w.heap.size 30 4 w' l (xs.flatMap cC) → ((∃ (l' : Sl) (xs : List Cz), Value.slice l.a l.len l.cap = .slice l'.a l'.len l'.cap ∧ DrawnC w' w.heap.size l' xs) ∧ Rd w' b bs (B + 80) ∧ Chg b w w') := fun hc hr ho =>
      ⟨⟨l, xs, rfl, ho.slOf cC_len (by decide), by omega, hsz, lateOwn ho⟩, hr, hc⟩
    refine br_df (by omega) (br_d (fun g0 => ?_) (fun g0 => fin hc4 (h4.mono (by omega)) o4))
    refine (c_spec_reader_pick _ h4 (by omega) (by omega)).mono ?_
    rintro _ w5 ⟨⟨k5, rfl, hk5⟩, h5, c5⟩
    have c05 := hc4.trans c5
    have o5 := o4.chg c5 hlt
    refine ⟨_, rfl, br_i (fun g => ?_) (fun g => fin c05 (h5.mono (by omega)) o5)⟩
    refine letW_i fun w6 hw6 => ?_
    have e6 : Ext w5 w6 := by rw [hw6]; exact (Ext.refl w5).alloc _
    have r6 : Row w6 w5.heap.size (([-1, 5, 999] : List Int).flatMap cI) 3 := by rw [hw6]; exact Row.new w5 _ _
    have hb5 := h5.lt
    refine (c_spec_reader_one (h5.ext e6) (by omega) (r6.slOf (cap := 3) (by simp)) (apart_new (by omega)) (by simp) (by simp)).mono ?_
    rintro _ w7 ⟨⟨n7, hn7, rfl⟩, h7, c7⟩
    refine ⟨_, rfl, letW_i fun w8 hw8 => ?_⟩
    have e8 : Ext w7 w8 := by rw [hw8]; exact (Ext.refl w7).alloc _
    have r8 : Row w8 w7.heap.size (([4, 999, 1000] : List Int).flatMap cI) 3 := by rw [hw8]; exact Row.new w7 _ _
    have hb7 := h7.lt
    refine (c_spec_reader_one (h7.ext e8) (by omega) (r8.slOf (cap := 3) (by simp)) (apart_new (by omega)) (by simp) (by simp)).mono ?_
    rintro _ w9 ⟨⟨n9, hn9, rfl⟩, h9, c9⟩
    refine ⟨_, rfl, letW_i fun w10 hw10 => ?_⟩
    have e10 : Ext w9 w10 := by rw [hw10]; exact (Ext.refl w9).alloc _
    have r10 : Row w10 w9.heap.size (([-1, 0, 1000000] : List Int).flatMap cI) 3 := by rw [hw10]; exact Row.new w9 _ _
    have hb9 := h9.lt
    refine (c_spec_reader_one (h9.ext e10) (by omega) (r10.slOf (cap := 3) (by simp)) (apart_new (by omega)) (by simp) (by simp)).mono ?_
    rintro _ w11 ⟨⟨n11, hn11, rfl⟩, h11, c11⟩
    have c511 : Chg b w5 w11 := ((((Chg.of_ext e6).trans c7).trans (Chg.of_ext e8)).trans c9).trans ((Chg.of_ext e10).trans c11)
    have o11 := o5.chg c511 hlt
    have c011 := c05.trans c511
    have hne : xs ≠ [] := fun e => by subst e; simp at hll; simp only at g0; omega
    obtain ⟨x, r, rfl⟩ : ∃ x r, xs = x :: r := by
      cases xs with
      | nil => exact absurd rfl hne
      | cons x r => exact ⟨x, r, rfl⟩
    obtain ⟨a, ha, _, hput⟩ := Own.put4 (A := []) (y := (n7, n9, false, n11)) cC_len o11 rfl (K := fun w' => (∃ (l' : Sl) (xs : List Cz), Value.slice l.a l.len l.cap = .slice l'.a l'.len l'.cap ∧ DrawnC w' w.heap.size l' xs) ∧ Rd w' b bs (B + 80) ∧ Chg b w w') (fun w12 o12 g12 =>
      ⟨⟨l, (n7, n9, false, n11) :: r, rfl, o12.slOf cC_len (by decide), by simp at hl ⊢; omega, fun y hy => by
        rcases List.mem_cons.1 hy with rfl | hy
        · simp only [List.mem_cons, List.not_mem_nil, or_false] at hn7 hn9
          unfold smallC
          simp only
          omega
        · exact hsz y (List.mem_cons_of_mem _ hy), lateOwn o12⟩, (h11.own o11 g12 hlt).mono (by omega), c011.own o11 g12 (Nat.le_refl _)⟩)
    exact ⟨_, rfl, onSome_i ha ⟨⟨Int.le_refl _, g0⟩, hput⟩⟩

theorem c_spec_DrawFindOrder {w : World} {s : Sl} {bs : List UInt8} (hs : Bytes w s bs) :
    CallR Try.prog 11 [.slice s.a s.len s.cap] w (fun v w' => (∃ (l : Sl) (xs : List Cz), v = .slice l.a l.len l.cap ∧ DrawnC w' w.heap.size l xs) ∧ Ext w w') := by
  refine fn_spec_DrawFindOrder _ _ _ ?_
  unfold g_spec_DrawFindOrder
  refine (c_spec_newReader hs).mono ?_
  rintro _ w1 ⟨rfl, h1, e1⟩
  refine ⟨_, rfl, (c_spec_anyCalls h1 (by omega)).mono ?_⟩
  rintro _ w2 ⟨⟨l, xs, rfl, d⟩, h2, c2⟩
  exact ⟨l, rfl, ⟨l, xs, rfl, d.le e1.size⟩, e1.chg c2 (Nat.le_refl _)⟩

set_option maxHeartbeats 2000000 in
theorem c_spec_DrawCheckOrder {w : World} {s : Sl} {bs : List UInt8} (hs : Bytes w s bs) :
    CallR Try.prog 22 [.slice s.a s.len s.cap] w (fun v w' => (∃ (l : Sl) (xs : List Cz) (lo : Sl) (ord : List Int), v = .tuple #[.slice l.a l.len l.cap, .slice lo.a lo.len lo.cap] ∧ DrawnC w' w.heap.size l xs ∧ Ints w' lo ord) ∧ Ext w w') := by
  refine fn_spec_DrawCheckOrder _ _ _ ?_
  unfold g_spec_DrawCheckOrder
  refine (c_spec_newReader hs).mono ?_
  rintro _ w1 ⟨rfl, h1, e1⟩
  have hlt := h1.lt
  refine ⟨_, rfl, (c_spec_anyCalls h1 (by omega)).mono ?_⟩
  rintro _ w2 ⟨⟨l, xs, rfl, d⟩, h2, c2⟩
  have hl := d.ls.len
  have hl7 := d.len
  have e02 := e1.chg c2 (Nat.le_refl _)
  refine ⟨l, rfl, (c_spec_FindOrder d.ls d.max).mono ?_⟩
  rintro _ w3 ⟨⟨lo, rfl, o3⟩, e3⟩
  have d3 := d.ext e3
  have h3 := h2.ext e3
  have e03 := e02.trans e3
  have hb2 : w.heap.size < w2.heap.size := h2.lt
  refine ⟨lo, _, rfl, ?_⟩
  -- numbers drawn one by one
  have build : ∀ (w4 : World), Rd w4 w.heap.size (bs.take 2000) 82 → DrawnC w4 w1.heap.size l xs → Ext w w4 → letW (w4.alloc (.cells #[] 3)) (fun w28 => sLoop (σ := Int × Sl × Unit) ((0 : Int), ⟨(some (⟨w4.heap.size, 0, none⟩ : Addr)), 0, 0⟩, ()) w28 (fun K30 st29 w31 => ∀ H32 : Fr, br (decide (st29.1 < (l.len : Int))) (CallR Try.prog 36 [.pointer (some ⟨w.heap.size, 0, none⟩), .int .i64 (l.len : Int)] w31 (fun r33 w34 => ∃ n35 : Int, r33 = .int .i64 n35 ∧
      letW (w34.alloc (.cells #[.int .i64 n35] 3)) (fun w36 => sAppend 3 1 8 ⟨st29.2.1.a, st29.2.1.len, st29.2.1.cap⟩ ⟨(some (⟨w34.heap.size, 0, none⟩ : Addr)), 1, 1⟩ w36 (fun l37 w38 => InR .i64 (st29.1 + (1 : Int)) ∧ K30 ((st29.1 + (1 : Int)), ⟨l37.a, l37.len, l37.cap⟩, ()) w38))))
      ((∃ (l' : Sl) (xs : List Cz) (lo' : Sl) (ord : List Int), Value.tuple #[.slice l.a l.len l.cap, .slice st29.2.1.a st29.2.1.len st29.2.1.cap] = .tuple #[.slice l'.a l'.len l'.cap, .slice lo'.a lo'.len lo'.cap] ∧ DrawnC w31 w.heap.size l' xs ∧ Ints w31 lo' ord) ∧ Ext w w31))) := by
    intro w4 h4 d4 e04
    refine letW_i fun w5 hw5 => ?_
    have e5 : Ext w4 w5 := by rw [hw5]; exact (Ext.refl w4).alloc _
    have o5 : Own w4.heap.size 3 1 w5 ⟨some ⟨w4.heap.size, 0, none⟩, 0, 0⟩ (([] : List Int).flatMap cI) := by rw [hw5]; exact Own.fresh w4 _ 1 _ (Nat.le_refl _)
    have hb4 := h4.lt
    have hsz5 := e5.size
    refine sLoop_list xs (fun pre t w' => Ext w w' ∧ w4.heap.size ≤ w'.heap.size ∧ Rd w' w.heap.size (bs.take 2000) (82 + pre.length) ∧ Calls4 w' l xs ∧ ∃ ys : List Int, ys.length = pre.length ∧ Own w4.heap.size 3 1 w' t.1 (ys.flatMap cI)) ⟨e04.trans e5, hsz5, h4.ext e5, d4.ls.ext e5, [], rfl, o5⟩ ?_ ?_
    · rintro K pre post c ⟨t, u⟩ w6 hx ⟨he, hs6, hr, hls, ys, hys, ho⟩ hK _
      have hm := mid_len hx
      refine br_dt (by omega) ((c_spec_reader_pick _ hr (by omega) (by omega)).mono ?_)
      rintro _ w7 ⟨⟨k7, rfl, hk7⟩, h7, c7⟩
      have o7 := ho.chg c7 (by omega)
      have hls7 : Calls4 w7 l xs := hls.chg c7 (fun a ha => by have := d4.late a ha; omega)
      refine ⟨_, rfl, push1 (x := (k7 : Int)) cI_len (by decide) (cI_one _) o7 (Nat.le_trans hs6 c7.size) (by omega) (by decide) (fun s' wm w' hl' o' em om hg => ⟨inR_i64 (by omega) (by omega), hK _ _ ⟨((he.chg c7 (Nat.le_refl _)).trans em).own om hg e04.size, Nat.le_trans hs6 (Nat.le_trans c7.size (Nat.le_trans em.size hg.size)), ((h7.ext em).own om hg (by omega)).mono (by simp; omega), ?_, ys ++ [(k7 : Int)], by simp [hys], o'⟩⟩)⟩
      exact (hls7.ext em).grown hg fun a ha hk => by
        have h9 := (om.lt _ hk.symm).1
        have h10 := d4.ls.block_lt cC_len (by decide) (by rw [hx]; simp) ha
        omega
    · rintro K ⟨t, u⟩ w6 ⟨he, hs6, hr, hls, ys, hys, ho⟩ _
      exact br_df (by omega) ⟨⟨l, xs, t, ys, rfl, ⟨hls, d4.len, d4.small, fun a ha => Nat.le_trans (by have := d4.late a ha; omega) (d4.late a ha)⟩, ho.slOf cI_len (by decide)⟩, he⟩
  have fin : ∀ w' (ord : List Int), DrawnC w' w1.heap.size l xs → Ints w' lo ord → Ext w w' → ((∃ (l' : Sl) (xs : List Cz) (lo' : Sl) (ord : List Int), Value.tuple #[.slice l.a l.len l.cap, .slice lo.a lo.len lo.cap] = .tuple #[.slice l'.a l'.len l'.cap, .slice lo'.a lo'.len lo'.cap] ∧ DrawnC w' w.heap.size l' xs ∧ Ints w' lo' ord) ∧ Ext w w') := fun w' ord hd hi he =>
    ⟨⟨l, xs, lo, ord, rfl, hd.le e1.size, hi⟩, he⟩
  refine br_i (fun g => ?_) (fun g => build w3 (h3.mono (by omega)) d3 e03)
  obtain ⟨r, hr⟩ := Option.isSome_iff_exists.1 g
  rw [hr] at o3
  have o3' : Own w2.heap.size 3 1 w3 lo ((castL r).flatMap cI) := o3
  have hlr := o3'.len cI_len (by decide)
  refine (c_spec_reader_pick _ h3 (by omega) (by omega)).mono ?_
  rintro _ w4 ⟨⟨k4, rfl, hk4⟩, h4, c4⟩
  have d4 := d3.chg c4 hlt
  have o4 := o3'.chg c4 hb2
  have e04 := e03.chg c4 (Nat.le_refl _)
  refine ⟨_, rfl, br_i (fun g4 => ?_) (fun g4 => build w4 (h4.mono (by omega)) d4 e04)⟩
  have i4 := o4.slOf cI_len (by decide)
  refine br_d (fun g5 => ?_) (fun g5 => fin w4 _ d4 i4 e04)
  refine (c_spec_reader_pick _ h4 (by omega) (by omega)).mono ?_
  rintro _ w5 ⟨⟨k5, rfl, hk5⟩, h5, c5⟩
  have d5 := d4.chg c5 hlt
  have o5 := o4.chg c5 hb2
  have e05 := e04.chg c5 (Nat.le_refl _)
  have i5 := o5.slOf cI_len (by decide)
  have hcap := i5.cap
  refine ⟨_, rfl, br_i (fun g6 => ?_) (fun g6 => fin w5 _ d5 i5 e05)⟩
  have hrl : r.length ≤ 1000000 := by
    have : findO xs = some r := hr
    unfold findO at this
    have hmm : r.length ≤ 1000000 ∨ ¬ r.length ≤ 1000000 := Nat.lt_or_ge 1000000 r.length |>.symm.imp id (fun h => by omega)
    rcases hmm with h | h
    · exact h
    · exfalso
      split at this
      · exact h (Nat.le_trans (srch_len xs _ _ _ _ this (by simp)) (by omega))
      · cases this
  have hcl : (castL r).length = r.length := by simp [castL]
  refine ⟨inR_i64 (by omega) (by omega), (c_spec_reader_pick _ h5 (by omega) (by omega)).mono ?_⟩
  rintro _ w6 ⟨⟨k6, rfl, hk6⟩, h6, c6⟩
  have hk6' := hk6 (by omega)
  have d6 := d5.chg c6 hlt
  have o6 := o5.chg c6 hb2
  have e06 := e05.chg c6 (Nat.le_refl _)
  obtain ⟨A, x, y, Bq, hsplit, hAl⟩ : ∃ A x y Bq, castL r = A ++ x :: y :: Bq ∧ A.length = k6 := by
    refine ⟨(castL r).take k6, (castL r)[k6]'(by omega), (castL r)[k6 + 1]'(by omega), (castL r).drop (k6 + 2), ?_, by simp; omega⟩
    rw [← List.drop_eq_getElem_cons, ← List.drop_eq_getElem_cons, List.take_append_drop]
  rw [hsplit] at o6
  have i6 := o6.slOf cI_len (by decide)
  obtain ⟨a, ha, cx⟩ := i6.im (pre := A) (post := y :: Bq) (x := x) rfl
  obtain ⟨a', ha', cy⟩ := i6.im (pre := A ++ [x]) (post := Bq) (x := y) (by simp)
  rw [hAl] at cx
  have hA1 : ((A ++ [x]).length : Int) = (k6 : Int) + 1 := by simp [hAl]
  rw [hA1] at cy
  refine ⟨_, rfl, onSome_i ha ⟨⟨by omega, by omega⟩, _, cx, inR_i64 (by omega) (by omega), onSome_i ha' ⟨⟨by omega, by omega⟩, _, cy, ?_⟩⟩⟩
  obtain ⟨a1, ha1, _, p1, q1⟩ := Own.put1 (A := A) (B := y :: Bq) (x := x) (y := y) (v0 := .int .i64 y) cI_len o6 rfl (K := fun w7 => InR .i64 ((k6 : Int) + 1) ∧ onSome lo.a (fun a26 => ((0 : Int) ≤ ((k6 : Int) + (1 : Int)) ∧ ((k6 : Int) + (1 : Int)) < (lo.len : Int)) ∧ Wr w7 (a26.add (((k6 : Int) + (1 : Int)).toNat * 1)) ∧ letW (w7.setCell (a26.add (((k6 : Int) + (1 : Int)).toNat * 1)) (.int .i64 x)) (fun w27 => (∃ (l' : Sl) (xs : List Cz) (lo' : Sl) (ord : List Int), Value.tuple #[.slice l.a l.len l.cap, .slice lo.a lo.len lo.cap] = .tuple #[.slice l'.a l'.len l'.cap, .slice lo'.a lo'.len lo'.cap] ∧ DrawnC w27 w.heap.size l' xs ∧ Ints w27 lo' ord) ∧ Ext w w27))) (fun w7 o7 g7 => by
    have hx7 : A ++ y :: y :: Bq = (A ++ [y]) ++ y :: Bq := by simp
    rw [hx7] at o7
    obtain ⟨a2, ha2, _, p2, q2⟩ := Own.put1 (A := A ++ [y]) (B := Bq) (x := y) (y := x) (v0 := .int .i64 x) cI_len o7 rfl (K := fun w27 => (∃ (l' : Sl) (xs : List Cz) (lo' : Sl) (ord : List Int), Value.tuple #[.slice l.a l.len l.cap, .slice lo.a lo.len lo.cap] = .tuple #[.slice l'.a l'.len l'.cap, .slice lo'.a lo'.len lo'.cap] ∧ DrawnC w27 w.heap.size l' xs ∧ Ints w27 lo' ord) ∧ Ext w w27) (fun w8 o8 g8 => by
      have g68 := grown_trans g7 g8
      refine fin w8 _ ⟨?_, d6.len, d6.small, d6.late⟩ (o8.slOf cI_len (by decide)) ((e06.own o6 g68 (by omega)))
      by_cases hxs : xs = []
      · have := d6.ls
        subst hxs
        exact ⟨this.len, this.cap, fun k v hv => by simp at hv⟩
      · exact d6.ls.grown g68 fun a ha hk => by
          have h9 := (o6.lt _ hk.symm).1
          have h10 := d.ls.block_lt cC_len (by decide) hxs ha
          omega)
    have hA2 : ((A ++ [y]).length : Int) = (k6 : Int) + 1 := by simp [hAl]
    rw [hA2] at p2 q2
    exact ⟨inR_i64 (by omega) (by omega), onSome_i ha2 ⟨⟨by omega, by omega⟩, p2, q2⟩⟩)
  rw [hAl] at p1 q1
  exact onSome_i ha1 ⟨⟨by omega, by omega⟩, p1, q1⟩
end Go.Proofs
