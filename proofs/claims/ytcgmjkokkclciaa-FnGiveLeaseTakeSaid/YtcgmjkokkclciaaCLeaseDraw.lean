/-
  What functions of this seat compute, part 'LeaseDraw': contracts over their readable predicates. Conditions: each theorem's own hypotheses.
-/
import Derived.Test.YtcgmjkokkclciaaBase
import Derived.Test.YtcgmjkokkclciaaOpen
import Derived.Test.YtcgmjkokkclciaaGen
import Derived.Test.YtcgmjkokkclciaaCDraw
import Derived.Test.YtcgmjkokkclciaaCLease
import Derived.Test.YtcgmjkokkclciaaCLease2
import Derived.Test.YtcgmjkokkclciaaCLease5
namespace Go.Proofs
open Go Go.Vc Go.RowKit
set_option maxRecDepth 100000
set_option linter.unusedVariables false
--! C:Draw C:Lease C:Lease2 C:Lease5
/-! ## Draws of leases -/

theorem c_spec_itemName {w : World} {b : Nat} {bs : List UInt8} {B : Nat} (h : Rd w b bs B) (hB : B ≤ 549755813888) :
    CallR Try.prog 60 [.pointer (some ⟨b, 0, none⟩)] w (fun v w' => (∃ x : ByteArray, v = .string x ∧ x.size ≤ 8) ∧ Rd w' b bs (B + 1) ∧ Chg b w w') := by
  refine fn_spec_itemName _ _ _ ?_
  unfold g_spec_itemName
  refine letW_i fun w1 hw1 => ?_
  have e1 : Ext w w1 := by rw [hw1]; exact (Ext.refl w).alloc _
  have hlt := h.lt
  have r1 : Row w1 w.heap.size (([⟨#[97]⟩, ⟨#[98]⟩, ⟨#[100, 111, 99]⟩, ⟨#[122, 122]⟩, ⟨#[97, 49]⟩, ⟨#[109]⟩, ⟨#[120, 57]⟩, ⟨#[98, 111, 111, 107]⟩, ⟨#[97, 98, 99, 100, 101, 102, 103, 104]⟩, ⟨#[113]⟩] : List ByteArray).flatMap cS) 9 := by rw [hw1]; exact Row.new w _ _
  refine (c_spec_reader_of (h.ext e1) (by omega) (r1.slOf (cap := 10) (by simp)) (apart_new (by omega)) (by simp) (by simp)).mono ?_
  rintro _ w2 ⟨⟨x, hx, rfl⟩, h2, c2⟩
  refine ⟨_, rfl, ⟨x, rfl, ?_⟩, h2, (Chg.of_ext e1).trans c2⟩
  simp only [List.mem_cons, List.not_mem_nil, or_false] at hx
  rcases hx with rfl | rfl | rfl | rfl | rfl | rfl | rfl | rfl | rfl | rfl <;> decide

theorem takeL_len {xs : List Lz} {name : ByteArray} {owner now span : Int} {ys : List Lz} (h : takeL xs name owner now span = some ys) : vLs ys = true ∧ ys = putL xs name (name, owner, now + span) := by
  unfold takeL at h
  split at h
  · rename_i hh
    obtain rfl := Option.some.inj h
    exact ⟨hh.2.2, rfl⟩
  · cases h

/-- A list of leases as it is drawn: where it lies, how long it is. -/
structure Drawn (w : World) (base : Nat) (l : Sl) (xs : List Lz) : Prop where
  ls : Leases w l xs
  len : xs.length ≤ 13
  names : ∀ x ∈ xs, x.1.size ≤ 8
  late : ∀ a, l.a = some a → base ≤ a.block

theorem Drawn.chg {w w' : World} {base b : Nat} {l : Sl} {xs : List Lz} (h : Drawn w base l xs) (hc : Chg b w w') (hb : b < base) : Drawn w' base l xs :=
  ⟨h.ls.chg hc (fun a ha => by have := h.late a ha; omega), h.len, h.names, h.late⟩
theorem Drawn.ext {w w' : World} {base : Nat} {l : Sl} {xs : List Lz} (h : Drawn w base l xs) (he : Ext w w') : Drawn w' base l xs := ⟨h.ls.ext he, h.len, h.names, h.late⟩
theorem Drawn.le {w : World} {base base' : Nat} {l : Sl} {xs : List Lz} (h : Drawn w base l xs) (hb : base' ≤ base) : Drawn w base' l xs := ⟨h.ls, h.len, h.names, fun a ha => Nat.le_trans hb (h.late a ha)⟩
theorem Drawn.max {w : World} {base : Nat} {l : Sl} {xs : List Lz} (h : Drawn w base l xs) : xs.length ≤ maxLen ∧ ∀ x ∈ xs, x.1.size ≤ maxLen := by
  have := h.len
  exact ⟨by unfold maxLen; omega, fun x hx => by have := h.names x hx; unfold maxLen; omega⟩

set_option maxHeartbeats 2000000 in
theorem c_spec_anyLeases {w : World} {b : Nat} {bs : List UInt8} {B : Nat} (h : Rd w b bs B) (hB : B ≤ 274877906944) :
    CallR Try.prog 45 [.pointer (some ⟨b, 0, none⟩)] w (fun v w' => (∃ (l : Sl) (xs : List Lz), v = .slice l.a l.len l.cap ∧ Drawn w' w.heap.size l xs) ∧ Rd w' b bs (B + 80) ∧ Chg b w w') := by
  refine fn_spec_anyLeases _ _ _ ?_
  unfold g_spec_anyLeases
  have hlt := h.lt
  refine letW_i fun w1 hw1 => letW_i fun w2 hw2 => ?_
  have e1 : Ext w w1 := by rw [hw1]; exact (Ext.refl w).alloc _
  have e12 : Ext w1 w2 := by rw [hw2]; exact (Ext.refl w1).alloc _
  have hs1 : w1.heap.size = w.heap.size + 1 := by rw [hw1]; simp
  have o1 : Own w.heap.size 40 3 w1 ⟨some ⟨w.heap.size, 0, none⟩, 0, 0⟩ [] := by rw [hw1]; exact Own.fresh w _ 3 _ (Nat.le_refl _)
  have r2 : Row w2 w1.heap.size (([3, 4, 2, 1, 0, 12] : List Int).flatMap cI) 3 := by rw [hw2]; exact Row.new w1 _ _
  refine (c_spec_reader_one (h.ext (e1.trans e12)) (by omega) (r2.slOf (cap := 6) (by simp)) (apart_new (by omega)) (by simp) (by simp)).mono ?_
  rintro _ w3 ⟨⟨n, hn, rfl⟩, h3, hc3⟩
  refine ⟨_, rfl, ?_⟩
  obtain ⟨m, rfl, hm⟩ : ∃ m : Nat, n = m ∧ m ≤ 12 := by
    have : 0 ≤ n ∧ n ≤ 12 := by simp at hn; omega
    exact ⟨n.toNat, by omega, by omega⟩
  have c03 : Chg b w w3 := (Chg.of_ext (e1.trans e12)).trans hc3
  have o3 : Own w.heap.size 40 3 w3 ⟨some ⟨w.heap.size, 0, none⟩, 0, 0⟩ [] := (o1.ext e12).chg hc3 hlt
  refine sLoop_down m (fun k t w' => Chg b w w' ∧ Rd w' b bs (B + 1 + 4 * (m - k)) ∧ ∃ xs : List Lz, Own w.heap.size 40 3 w' t.1 (xs.flatMap cL) ∧ xs.length ≤ 12 ∧ ∀ x ∈ xs, x.1.size ≤ 8) ⟨c03, by simpa using h3, [], o3, by simp, by simp⟩ ?_ ?_
  · rintro K k ⟨l, u⟩ w4 hk ⟨hc4, h4, xs, o4, hl, hsz⟩ hK _
    refine br_dt (by omega) ((c_spec_itemName h4 (by omega)).mono ?_)
    rintro _ w5 ⟨⟨x, rfl, hx8⟩, h5, c5⟩
    refine ⟨_, rfl, (c_spec_reader_pick _ h5 (by omega) (by omega)).mono ?_⟩
    rintro _ w6 ⟨⟨k6, rfl, hk6⟩, h6, c6⟩
    have hk6' := hk6 (by omega)
    refine ⟨_, rfl, inR_i64 (by omega) (by omega), (c_spec_reader_pick _ h6 (by omega) (by omega)).mono ?_⟩
    rintro _ w7 ⟨⟨k7, rfl, hk7⟩, h7, c7⟩
    have hk7' := hk7 (by omega)
    refine ⟨_, rfl, (c_spec_reader_pick _ h7 (by omega) (by omega)).mono ?_⟩
    rintro _ w8 ⟨⟨k8, rfl, hk8⟩, h8, c8⟩
    have hk8' := hk8 (by omega)
    have c48 : Chg b w4 w8 := ((c5.trans c6).trans c7).trans c8
    have o8 := o4.chg c48 hlt
    have c08 := hc4.trans c48
    refine ⟨_, rfl, inR_i64 (by omega) (by omega), (c_spec_TakeLease x (1 + (k6 : Int)) (k7 : Int) (1 + (k8 : Int)) (o8.slOf cL_len (by decide)) (by unfold maxLen; omega) (fun y hy => by have := hsz y hy; unfold maxLen; omega) (by unfold maxLen; omega)).mono ?_⟩
    rintro _ w9 ⟨⟨l9, rfl, o9⟩, e9⟩
    have h9 := (h8.ext e9).mono (show _ ≤ B + 1 + 4 * (m - k) by omega)
    have c09 := c08.trans (Chg.of_ext e9)
    refine ⟨_, _, rfl, br_i (fun g => ⟨inR_i64 (by omega) (by omega), hK _ _ ⟨c09, h9, ?_⟩⟩) (fun g => ⟨inR_i64 (by omega) (by omega), hK _ _ ⟨c09, h9, xs, o8.ext e9, hl, hsz⟩⟩)⟩
    obtain ⟨ys, hys⟩ := Option.isSome_iff_exists.1 g
    rw [hys] at o9
    obtain ⟨hv, hput⟩ := takeL_len hys
    refine ⟨ys, o9.base_le c08.size, by have := (vLs_parts hv).2.2; omega, fun y hy => ?_⟩
    rw [hput] at hy
    rcases putL_mem hy with hy | rfl
    · exact hsz y hy
    · exact hx8
  · rintro K ⟨l, u⟩ w4 ⟨hc4, h4, xs, o4, hl, hsz⟩ _
    have lateO : ∀ {w' : World} {l : Sl} {vs : List Value}, Own w.heap.size 40 3 w' l vs → ∀ a, l.a = some a → w.heap.size ≤ a.block := fun {w' l vs} o a ha => by
      have : l.v.ownBlock = some a.block := by simp [Sl.v, Value.ownBlock, ha]
      exact (o.lt _ this).1
    refine br_df (by omega) ((c_spec_reader_pick _ h4 (by omega) (by omega)).mono ?_)
    rintro _ w5 ⟨⟨k5, rfl, hk5⟩, h5, c5⟩
    have c05 := hc4.trans c5
    have o5 := o4.chg c5 hlt
    refine ⟨_, rfl, br_i (fun g => ?_) (fun g => ⟨⟨l, xs, rfl, o5.slOf cL_len (by decide), by omega, hsz, lateO o5⟩, h5.mono (by omega), c05⟩)⟩
    refine letW_i fun w6 hw6 => ?_
    have e6 : Ext w5 w6 := by rw [hw6]; exact (Ext.refl w5).alloc _
    have r6 : Row w6 w5.heap.size (([⟨#[122, 122, 122]⟩, ⟨#[]⟩, ⟨#[97]⟩] : List ByteArray).flatMap cS) 9 := by rw [hw6]; exact Row.new w5 _ _
    have hb5 := h5.lt
    refine (c_spec_reader_of (h5.ext e6) (by omega) (r6.slOf (cap := 3) (by simp)) (apart_new (by omega)) (by simp) (by simp)).mono ?_
    rintro _ w7 ⟨⟨x, hx, rfl⟩, h7, c7⟩
    have hx8 : x.size ≤ 8 := by
      simp only [List.mem_cons, List.not_mem_nil, or_false] at hx
      rcases hx with rfl | rfl | rfl <;> decide
    refine ⟨_, rfl, letW_i fun w8 hw8 => ?_⟩
    have e8 : Ext w7 w8 := by rw [hw8]; exact (Ext.refl w7).alloc _
    have r8 : Row w8 w7.heap.size (([0, 1, 6] : List Int).flatMap cI) 3 := by rw [hw8]; exact Row.new w7 _ _
    have hb7 := h7.lt
    refine (c_spec_reader_one (h7.ext e8) (by omega) (r8.slOf (cap := 3) (by simp)) (apart_new (by omega)) (by simp) (by simp)).mono ?_
    rintro _ w9 ⟨⟨n9, hn9, rfl⟩, h9, c9⟩
    refine ⟨_, rfl, letW_i fun w10 hw10 => ?_⟩
    have e10 : Ext w9 w10 := by rw [hw10]; exact (Ext.refl w9).alloc _
    have r10 : Row w10 w9.heap.size (([0, 5, 999, 1000] : List Int).flatMap cI) 3 := by rw [hw10]; exact Row.new w9 _ _
    have hb9 := h9.lt
    refine (c_spec_reader_one (h9.ext e10) (by omega) (r10.slOf (cap := 4) (by simp)) (apart_new (by omega)) (by simp) (by simp)).mono ?_
    rintro _ w11 ⟨⟨n11, hn11, rfl⟩, h11, c11⟩
    have c511 : Chg b w5 w11 := ((((Chg.of_ext e6).trans c7).trans (Chg.of_ext e8)).trans c9).trans ((Chg.of_ext e10).trans c11)
    have o11 := o5.chg c511 hlt
    have c011 := c05.trans c511
    refine ⟨_, rfl, push1 (x := (x, n9, n11)) cL_len (by decide) (cL_one _) o11 c011.size (by omega) (by decide) (fun s' wm w' hl' o' em om hg => ?_)⟩
    refine ⟨⟨s', xs ++ [(x, n9, n11)], rfl, o'.slOf cL_len (by decide), by simp; omega, ?_, lateO o'⟩, ((h11.ext em).own om hg hlt).mono (by omega), (c011.trans (Chg.of_ext em)).own om hg (Nat.le_refl _)⟩
    intro y hy
    rcases List.mem_append.1 hy with hy | hy
    · exact hsz y hy
    · simp at hy; rw [hy]; exact hx8

theorem c_spec_leaseName {w : World} {b : Nat} {bs : List UInt8} {B base : Nat} {l : Sl} {xs : List Lz} (h : Rd w b bs B) (hB : B ≤ 274877906944) (d : Drawn w base l xs) (hb : b < base) :
    CallR Try.prog 52 [.pointer (some ⟨b, 0, none⟩), .slice l.a l.len l.cap] w (fun v w' => (∃ x : ByteArray, v = .string x ∧ x.size ≤ 8) ∧ Rd w' b bs (B + 2) ∧ Chg b w w') := by
  refine fn_spec_leaseName _ _ _ _ ?_
  unfold g_spec_leaseName
  have hl0 := d.ls.len
  have hl1 := d.len
  refine br_d (fun g => ?_) (fun g => ?_)
  · refine (c_spec_reader_pick _ h (by omega) (by omega)).mono ?_
    rintro _ w1 ⟨⟨k1, rfl, hk1⟩, h1, c1⟩
    refine ⟨_, rfl, br_d (fun g1 => ?_) (fun g1 => ?_)⟩
    · refine (c_spec_reader_pick _ h1 (by omega) (by omega)).mono ?_
      rintro _ w2 ⟨⟨k2, rfl, hk2⟩, h2, c2⟩
      have hk2' := hk2 (by omega)
      have d2 := (d.chg c1 hb).chg c2 hb
      have hlt : k2 < xs.length := by omega
      obtain ⟨a, ha, c0, _, _⟩ := lz_at d2.ls (List.getElem?_eq_getElem hlt)
      exact ⟨_, rfl, onSome_i ha ⟨⟨Int.natCast_nonneg _, by omega⟩, _, c0, ⟨_, rfl, d.names _ (List.getElem_mem hlt)⟩, h2.mono (by omega), c1.trans c2⟩⟩
    · refine (c_spec_itemName h1 (by omega)).mono ?_
      rintro _ w2 ⟨⟨x, rfl, hx⟩, h2, c2⟩
      exact ⟨_, rfl, ⟨x, rfl, hx⟩, h2.mono (by omega), c1.trans c2⟩
  · refine (c_spec_itemName h (by omega)).mono ?_
    rintro _ w1 ⟨⟨x, rfl, hx⟩, h1, c1⟩
    exact ⟨_, rfl, ⟨x, rfl, hx⟩, h1.mono (by omega), c1⟩

theorem c_spec_DrawValidLeases {w : World} {s : Sl} {bs : List UInt8} (hs : Bytes w s bs) :
    CallR Try.prog 23 [.slice s.a s.len s.cap] w (fun v w' => (∃ (l : Sl) (xs : List Lz), v = .slice l.a l.len l.cap ∧ Drawn w' w.heap.size l xs) ∧ Ext w w') := by
  refine fn_spec_DrawValidLeases _ _ _ ?_
  unfold g_spec_DrawValidLeases
  refine (c_spec_newReader hs).mono ?_
  rintro _ w1 ⟨rfl, h1, e1⟩
  refine ⟨_, rfl, (c_spec_anyLeases h1 (by omega)).mono ?_⟩
  rintro _ w2 ⟨⟨l, xs, rfl, d⟩, h2, c2⟩
  exact ⟨l, rfl, ⟨l, xs, rfl, d.le e1.size⟩, e1.chg c2 (Nat.le_refl _)⟩

theorem c_spec_DrawHolderOf {w : World} {s : Sl} {bs : List UInt8} (hs : Bytes w s bs) :
    CallR Try.prog 32 [.slice s.a s.len s.cap] w (fun v w' => (∃ (l : Sl) (xs : List Lz) (name : ByteArray) (now : Int), v = .tuple #[.slice l.a l.len l.cap, .string name, .int .i64 now] ∧ Drawn w' w.heap.size l xs ∧ name.size ≤ 8 ∧ -1 ≤ now ∧ now ≤ 1000) ∧ Ext w w') := by
  refine fn_spec_DrawHolderOf _ _ _ ?_
  unfold g_spec_DrawHolderOf
  refine (c_spec_newReader hs).mono ?_
  rintro _ w1 ⟨rfl, h1, e1⟩
  have hlt := h1.lt
  refine ⟨_, rfl, (c_spec_anyLeases h1 (by omega)).mono ?_⟩
  rintro _ w2 ⟨⟨l, xs, rfl, d⟩, h2, c2⟩
  refine ⟨l, rfl, (c_spec_leaseName h2 (by omega) d hlt).mono ?_⟩
  rintro _ w3 ⟨⟨name, rfl, hn⟩, h3, c3⟩
  refine ⟨_, rfl, (c_spec_reader_pick _ h3 (by omega) (by omega)).mono ?_⟩
  rintro _ w4 ⟨⟨k, rfl, hk⟩, h4, c4⟩
  have hk' := hk (by omega)
  refine ⟨_, rfl, letW_i fun w5 hw5 => ?_⟩
  have e5 : Ext w4 w5 := by rw [hw5]; exact (Ext.refl w4).alloc _
  have r5 : Row w5 w4.heap.size (([0, 20, 50, 80, 999, 1000, -1, (k : Int)] : List Int).flatMap cI) 3 := by rw [hw5]; exact Row.new w4 _ _
  have hlt4 := h4.lt
  refine (c_spec_reader_one (h4.ext e5) (by omega) (r5.slOf (cap := 8) (by simp)) (apart_new (by omega)) (by simp) (by simp)).mono ?_
  rintro _ w6 ⟨⟨n, hn6, rfl⟩, h6, c6⟩
  have hnow : -1 ≤ n ∧ n ≤ 1000 := by
    simp only [List.mem_cons, List.not_mem_nil, or_false] at hn6
    omega
  refine ⟨_, rfl, ⟨l, xs, name, n, rfl, ((((d.chg c3 hlt).chg c4 hlt).ext e5).chg c6 hlt).le e1.size, hn, hnow⟩, ?_⟩
  exact ((((e1.chg c2 (Nat.le_refl _)).chg c3 (Nat.le_refl _)).chg c4 (Nat.le_refl _)).trans e5).chg c6 (Nat.le_refl _)

theorem c_spec_DrawLiveLeases {w : World} {s : Sl} {bs : List UInt8} (hs : Bytes w s bs) :
    CallR Try.prog 30 [.slice s.a s.len s.cap] w (fun v w' => (∃ (l : Sl) (xs : List Lz) (now : Int), v = .tuple #[.slice l.a l.len l.cap, .int .i64 now] ∧ Drawn w' w.heap.size l xs ∧ -1 ≤ now ∧ now ≤ 1000) ∧ Ext w w') := by
  refine fn_spec_DrawLiveLeases _ _ _ ?_
  unfold g_spec_DrawLiveLeases
  refine (c_spec_DrawHolderOf hs).mono ?_
  rintro _ w1 ⟨⟨l, xs, name, now, rfl, d, hn, hnow⟩, e1⟩
  exact ⟨l, name, now, rfl, ⟨l, xs, now, rfl, d, hnow⟩, e1⟩

theorem c_spec_DrawTakeLease {w : World} {s : Sl} {bs : List UInt8} (hs : Bytes w s bs) :
    CallR Try.prog 37 [.slice s.a s.len s.cap] w (fun v w' => (∃ (l : Sl) (xs : List Lz) (name : ByteArray) (owner now span : Int), v = .tuple #[.slice l.a l.len l.cap, .string name, .int .i64 owner, .int .i64 now, .int .i64 span] ∧ Drawn w' w.heap.size l xs ∧ name.size ≤ 8 ∧ (-1 ≤ now ∧ now ≤ 1000) ∧ (0 ≤ owner ∧ owner ≤ 6) ∧ 0 ≤ span ∧ span ≤ 101) ∧ Ext w w') := by
  refine fn_spec_DrawTakeLease _ _ _ ?_
  unfold g_spec_DrawTakeLease
  refine (c_spec_newReader hs).mono ?_
  rintro _ w1 ⟨rfl, h1, e1⟩
  have hlt := h1.lt
  refine ⟨_, rfl, (c_spec_DrawHolderOf (hs.ext e1)).mono ?_⟩
  rintro _ w2 ⟨⟨l, xs, name, now, rfl, d, hn, hnow⟩, e2⟩
  refine ⟨l, name, now, rfl, letW_i fun w3 hw3 => ?_⟩
  have e3 : Ext w2 w3 := by rw [hw3]; exact (Ext.refl w2).alloc _
  have r3 : Row w3 w2.heap.size (([1, 2, 3, 4, 5, 0, 6] : List Int).flatMap cI) 3 := by rw [hw3]; exact Row.new w2 _ _
  have hs2 := e2.size
  refine (c_spec_reader_one ((h1.ext e2).ext e3) (by omega) (r3.slOf (cap := 7) (by simp)) (apart_new (by omega)) (by simp) (by simp)).mono ?_
  rintro _ w4 ⟨⟨n4, hn4, rfl⟩, h4, c4⟩
  refine ⟨_, rfl, letW_i fun w5 hw5 => ?_⟩
  have e5 : Ext w4 w5 := by rw [hw5]; exact (Ext.refl w4).alloc _
  have r5 : Row w5 w4.heap.size (([1, 10, 50, 100, 101, 0] : List Int).flatMap cI) 3 := by rw [hw5]; exact Row.new w4 _ _
  have hlt4 := h4.lt
  refine (c_spec_reader_one (h4.ext e5) (by omega) (r5.slOf (cap := 6) (by simp)) (apart_new (by omega)) (by simp) (by simp)).mono ?_
  rintro _ w6 ⟨⟨n6, hn6, rfl⟩, h6, c6⟩
  refine ⟨_, rfl, ⟨l, xs, name, n4, now, n6, rfl, ((((d.ext e3).chg c4 hlt).ext e5).chg c6 hlt).le e1.size, hn, hnow, ?_, ?_⟩, ?_⟩
  · simp only [List.mem_cons, List.not_mem_nil, or_false] at hn4
    omega
  · simp only [List.mem_cons, List.not_mem_nil, or_false] at hn6
    omega
  · exact ((((e1.trans e2).trans e3).chg c4 (Nat.le_refl _)).trans e5).chg c6 (Nat.le_refl _)

theorem c_spec_DrawGiveLease {w : World} {s : Sl} {bs : List UInt8} (hs : Bytes w s bs) :
    CallR Try.prog 35 [.slice s.a s.len s.cap] w (fun v w' => (∃ (l : Sl) (xs : List Lz) (name : ByteArray) (owner now : Int), v = .tuple #[.slice l.a l.len l.cap, .string name, .int .i64 owner, .int .i64 now] ∧ Drawn w' w.heap.size l xs ∧ name.size ≤ 8 ∧ (-1 ≤ now ∧ now ≤ 1000) ∧ 0 ≤ owner ∧ owner ≤ 6) ∧ Ext w w') := by
  refine fn_spec_DrawGiveLease _ _ _ ?_
  unfold g_spec_DrawGiveLease
  refine (c_spec_newReader hs).mono ?_
  rintro _ w1 ⟨rfl, h1, e1⟩
  have hlt := h1.lt
  refine ⟨_, rfl, (c_spec_DrawHolderOf (hs.ext e1)).mono ?_⟩
  rintro _ w2 ⟨⟨l, xs, name, now, rfl, d, hn, hnow⟩, e2⟩
  refine ⟨l, name, now, rfl, (c_spec_HolderOf name now d.ls d.max.1 d.max.2).go fun w3 e3 => ⟨_, rfl, ?_⟩⟩
  have hho := holderOf_bounds xs name now
  refine (c_spec_reader_pick _ ((h1.ext e2).ext e3) (by omega) (by omega)).mono ?_
  rintro _ w4 ⟨⟨k4, rfl, hk4⟩, h4, c4⟩
  have e04 := ((e1.trans e2).trans e3).chg c4 (Nat.le_refl _)
  have d4 := ((d.ext e3).chg c4 hlt)
  refine ⟨_, rfl, br_i (fun g => ?_) (fun g => ⟨⟨l, xs, name, _, now, rfl, d4.le e1.size, hn, hnow, by omega, by omega⟩, e04⟩)⟩
  refine (c_spec_reader_pick _ h4 (by omega) (by omega)).mono ?_
  rintro _ w5 ⟨⟨k5, rfl, hk5⟩, h5, c5⟩
  have hk5' := hk5 (by omega)
  exact ⟨_, rfl, ⟨l, xs, name, _, now, rfl, (d4.chg c5 hlt).le e1.size, hn, hnow, by omega, by omega⟩, e04.chg c5 (Nat.le_refl _)⟩
end Go.Proofs
