/-
  What functions of this seat compute, part 'CallsHelp': contracts over their readable predicates. Conditions: each theorem's own hypotheses.
-/
import Derived.Test.YtneehnkdgjijiaaBase
import Derived.Test.YtneehnkdgjijiaaOpen
import Derived.Test.YtneehnkdgjijiaaGen
import Derived.Test.YtneehnkdgjijiaaCCalls
namespace Go.Proofs
open Go Go.Vc Go.RowKit
set_option maxRecDepth 100000
set_option linter.unusedVariables false
--! C:Calls
/-! ## The helpers on lists of calls -/

def zeroC : Cz := (0, 0, false, 0)

section
variable {H : Type} {enc : TypeId × Value → H} {w : World} {base : Nat} {spare : Nat → Bool} {held : Bool}

theorem read_calls {v : Value} {a : Option Addr} {len cap : Nat} {d : DataW H} {ps : List MemPlace} (hv : v = .slice a len cap) (h : DataW.Trod enc Try.prog w base spare held 32 v d ps) :
    ∃ (s : Sl) (xs : List Cz), v = .slice s.a s.len s.cap ∧ Calls4 w s xs ∧ s.cap ≤ maxLen ∧ ∀ x ∈ xs, True := by
  obtain ⟨fuel, hf⟩ := h
  obtain ⟨s, xs, hs, h1, h2, h3⟩ := read_slice (c := cC) (Q := fun _ => True) (k := 4) Try.underlying32 (by kernel_rfl) hf (fun m cs y _ hl hy => by
    obtain ⟨ys, n, _, _, _, hys, hfd⟩ := DataW.trod_struct Try.underlying54 hy
    have g0 : DataW.trod enc Try.prog w base spare held n 3 ((cs.drop 0).take (Program.cellsOf Try.prog 3)) = ys[0]? := hfd 0 _ rfl
    have g1 : DataW.trod enc Try.prog w base spare held n 3 ((cs.drop 1).take (Program.cellsOf Try.prog 3)) = ys[1]? := hfd 1 _ rfl
    have g2 : DataW.trod enc Try.prog w base spare held n 4 ((cs.drop 2).take (Program.cellsOf Try.prog 4)) = ys[2]? := hfd 2 _ rfl
    have g3 : DataW.trod enc Try.prog w base spare held n 3 ((cs.drop 3).take (Program.cellsOf Try.prog 3)) = ys[3]? := hfd 3 _ rfl
    have k4 : Program.cellsOf Try.prog 4 = 1 := by kernel_rfl
    have k3 : Program.cellsOf Try.prog 3 = 1 := by kernel_rfl
    rw [k4] at g2
    rw [k3] at g0 g1 g3
    match cs, hl with
    | [u0, u1, u2, u3], _ =>
      have l0 : ∃ y0, ys[0]? = some y0 := ⟨ys[0]'(by rw [hys]; decide), List.getElem?_eq_getElem _⟩
      have l1 : ∃ y1, ys[1]? = some y1 := ⟨ys[1]'(by rw [hys]; decide), List.getElem?_eq_getElem _⟩
      have l2 : ∃ y2, ys[2]? = some y2 := ⟨ys[2]'(by rw [hys]; decide), List.getElem?_eq_getElem _⟩
      have l3 : ∃ y3, ys[3]? = some y3 := ⟨ys[3]'(by rw [hys]; decide), List.getElem?_eq_getElem _⟩
      obtain ⟨y0, e0⟩ := l0
      obtain ⟨y1, e1⟩ := l1
      obtain ⟨y2, e2⟩ := l2
      obtain ⟨y3, e3⟩ := l3
      rw [e0] at g0
      rw [e1] at g1
      rw [e2] at g2
      rw [e3] at g3
      obtain ⟨t0, f0, _, _⟩ := DataW.trod_int Try.underlying3 g0
      obtain ⟨t1, f1, _, _⟩ := DataW.trod_int Try.underlying3 g1
      obtain ⟨t2, f2, _⟩ := DataW.trod_bool Try.underlying4 g2
      obtain ⟨t3, f3, _, _⟩ := DataW.trod_int Try.underlying3 g3
      simp at f0 f1 f2 f3
      exact ⟨(t0, t1, t2, t3), by simp [cC, f0, f1, f2, f3], trivial⟩)
  exact ⟨s, xs, sl_arg hv hs, h1, h2, h3⟩
end

theorem c_laws_szCallS {s : Sl} {xs : List Cz} {w : World} (left : Int) (h : Calls4 w s xs) (h0 : 0 ≤ left) (h1 : left ≤ 1048576) (hl : xs.length ≤ maxLen) :
    CallR Try.prog 15 [.slice s.a s.len s.cap, .int .i64 left] w (fun v w' => (v = .int .i64 (-1) ∨ (v = .int .i64 (left - xs.length) ∧ 0 ≤ left - xs.length)) ∧ Ext w w') := by
  refine fn_laws_szCallS _ _ _ _ ?_
  unfold g_laws_szCallS
  unfold maxLen at hl
  have hl0 := h.len
  exact ⟨inR_i64 (by omega) (by omega), br_d (fun h2 => ⟨.inl rfl, Ext.refl _⟩) (fun h2 => ⟨.inr ⟨by rw [hl0], by omega⟩, Ext.refl _⟩)⟩

theorem c_laws_toCall (l : Cz) (w : World) : CallR Try.prog 33 [.agg #[.int .i64 l.1, .int .i64 l.2.1, .bool l.2.2.1, .int .i64 l.2.2.2]] w (fun v w' => v = .agg #[.int .i64 l.1, .int .i64 l.2.1, .bool l.2.2.1, .int .i64 l.2.2.2] ∧ Ext w w') := by
  refine fn_laws_toCall _ _ _ _ _ _ ?_
  unfold g_laws_toCall
  refine letW_i fun w1 hw1 => letW_i fun w2 hw2 => letW_i fun w3 hw3 => ?_
  have s1 : w1.heap.size = w.heap.size + 1 := by rw [hw1]; simp
  have s2 : w2.heap.size = w1.heap.size + 1 := by rw [hw2]; simp
  have e1 : Ext w w1 := by rw [hw1]; exact (Ext.refl w).alloc _
  have e2 : Ext w1 w2 := by rw [hw2]; exact (Ext.refl w1).alloc _
  have e3 : Ext w2 w3 := by rw [hw3]; exact (Ext.refl w2).alloc _
  have ra : Row w3 w.heap.size (cC l) 54 := by
    have : Row w1 w.heap.size (cC l) 54 := by rw [hw1]; exact Row.new w (cC l) _
    exact (this.ext e2).ext e3
  have rb : Row w3 w1.heap.size (cC zeroC) 30 := by
    have : Row w2 w1.heap.size (cC zeroC) 30 := by rw [hw2]; exact Row.new w1 (cC zeroC) _
    exact this.ext e3
  have rc : Row w3 w2.heap.size (cC zeroC) 30 := by rw [hw3]; exact Row.new w2 (cC zeroC) _
  have e03 := (e1.trans e2).trans e3
  clear hw1 hw2 hw3
  have hz : ∀ a : Addr, a.add 0 = a := add_nought
  -- the inner copy
  obtain ⟨p0, q0⟩ := Row.setMid (A := []) (B := [.int .i64 0, .bool false, .int .i64 0]) (p := (⟨w2.heap.size, 0, none⟩ : Addr).add 0) rc rfl (.int .i64 l.1)
  refine ⟨_, ra.cell rfl, p0, letW_i fun w4 h4 => ?_⟩
  rw [← h4] at q0
  have c4 : Chg w2.heap.size w3 w4 := by rw [h4]; exact (Chg.refl _ _).set (by rw [add_block]) _
  have a4 := ra.chg c4 (by omega)
  have b4 := rb.chg c4 (by omega)
  obtain ⟨p1, q1⟩ := Row.setMid (A := [.int .i64 l.1]) (B := [.bool false, .int .i64 0]) (p := (⟨w2.heap.size, 0, none⟩ : Addr).add 1) q0 rfl (.int .i64 l.2.1)
  refine ⟨_, a4.cell rfl, p1, letW_i fun w5 h5 => ?_⟩
  rw [← h5] at q1
  have c5 : Chg w2.heap.size w4 w5 := by rw [h5]; exact (Chg.refl _ _).set (by rw [add_block]) _
  have a5 := a4.chg c5 (by omega)
  have b5 := b4.chg c5 (by omega)
  obtain ⟨p2, q2⟩ := Row.setMid (A := [.int .i64 l.1, .int .i64 l.2.1]) (B := [.int .i64 0]) (p := (⟨w2.heap.size, 0, none⟩ : Addr).add 2) q1 rfl (.bool l.2.2.1)
  refine ⟨_, a5.cell rfl, p2, letW_i fun w6 h6 => ?_⟩
  rw [← h6] at q2
  have c6 : Chg w2.heap.size w5 w6 := by rw [h6]; exact (Chg.refl _ _).set (by rw [add_block]) _
  have a6 := a5.chg c6 (by omega)
  have b6 := b5.chg c6 (by omega)
  obtain ⟨p3, q3⟩ := Row.setMid (A := [.int .i64 l.1, .int .i64 l.2.1, .bool l.2.2.1]) (B := []) (p := (⟨w2.heap.size, 0, none⟩ : Addr).add 3) q2 rfl (.int .i64 l.2.2.2)
  refine ⟨_, a6.cell rfl, p3, letW_i fun w7 h7 => ?_⟩
  rw [← h7] at q3
  have c7 : Chg w2.heap.size w6 w7 := by rw [h7]; exact (Chg.refl _ _).set (by rw [add_block]) _
  have b7 := b6.chg c7 (by omega)
  have e07 : Ext w w7 := (((e03.chg c4 (by omega)).chg c5 (by omega)).chg c6 (by omega)).chg c7 (by omega)
  refine ⟨_, q3.cell rfl, _, q3.cell rfl, _, q3.cell rfl, _, q3.cell rfl, ?_⟩
  obtain ⟨r0, t0⟩ := Row.setMid (A := []) (B := [.int .i64 0, .bool false, .int .i64 0]) (p := (⟨w1.heap.size, 0, none⟩ : Addr)) b7 rfl (.int .i64 l.1)
  refine ⟨r0, letW_i fun w8 h8 => ?_⟩
  rw [← h8] at t0
  have e08 : Ext w w8 := by rw [h8]; exact e07.set (by show w.heap.size ≤ w1.heap.size; omega) _
  obtain ⟨r1, t1⟩ := Row.setMid (A := [.int .i64 l.1]) (B := [.bool false, .int .i64 0]) (p := (⟨w1.heap.size, 0, none⟩ : Addr).add 1) t0 rfl (.int .i64 l.2.1)
  refine ⟨r1, letW_i fun w9 h9 => ?_⟩
  rw [← h9] at t1
  have e09 : Ext w w9 := by rw [h9]; exact e08.set (by rw [add_b]; show w.heap.size ≤ w1.heap.size; omega) _
  obtain ⟨r2, t2⟩ := Row.setMid (A := [.int .i64 l.1, .int .i64 l.2.1]) (B := [.int .i64 0]) (p := (⟨w1.heap.size, 0, none⟩ : Addr).add 2) t1 rfl (.bool l.2.2.1)
  refine ⟨r2, letW_i fun w10 h10 => ?_⟩
  rw [← h10] at t2
  have e10 : Ext w w10 := by rw [h10]; exact e09.set (by rw [add_b]; show w.heap.size ≤ w1.heap.size; omega) _
  obtain ⟨r3, t3⟩ := Row.setMid (A := [.int .i64 l.1, .int .i64 l.2.1, .bool l.2.2.1]) (B := []) (p := (⟨w1.heap.size, 0, none⟩ : Addr).add 3) t2 rfl (.int .i64 l.2.2.2)
  refine ⟨r3, letW_i fun w11 h11 => ?_⟩
  rw [← h11] at t3
  have e11 : Ext w w11 := by rw [h11]; exact e10.set (by rw [add_b]; show w.heap.size ≤ w1.heap.size; omega) _
  exact ⟨_, t3.cell rfl, _, t3.cell rfl, _, t3.cell rfl, _, t3.cell rfl, rfl, e11⟩

theorem toC {s : Sl} {xs : List Cz} {w : World} (h : Calls4 w s xs) (hl : xs.length ≤ 1048576) {K : Value → World → Prop}
    (hk : ∀ (t : Sl) w', t.a = some ⟨w.heap.size, 0, none⟩ → Calls4 w' t xs → w.heap.size < w'.heap.size → Own w.heap.size 30 4 w' t (xs.flatMap cC) → Ext w w' → K (.slice t.a t.len t.cap) w') : CallR Try.prog 17 [.slice s.a s.len s.cap] w K := by
  refine fn_laws_toCallS _ _ _ ?_
  unfold g_laws_toCallS
  have hl0 := h.len
  refine ⟨⟨by omega, by omega, by omega, by omega⟩, letW_i fun w1 hw1 => ?_⟩
  have e1 : Ext w w1 := by rw [hw1]; exact (Ext.refl w).alloc _
  have o1 : Own w.heap.size 30 4 w1 ⟨some ⟨w.heap.size, 0, none⟩, xs.length, xs.length⟩ ((List.replicate xs.length zeroC).flatMap cC) := by
    rw [hw1, hl0, Int.toNat_natCast]
    exact Own.made cC_len zeroC w 30 xs.length (by decide) (by unfold maxLen; omega)
  have hs1 : w.heap.size < w1.heap.size := by rw [hw1]; simp
  clear hw1
  refine sLoop_list xs (fun pre _ w' => Ext w w' ∧ w.heap.size < w'.heap.size ∧ Own w.heap.size 30 4 w' ⟨some ⟨w.heap.size, 0, none⟩, xs.length, xs.length⟩ ((pre ++ List.replicate (xs.length - pre.length) zeroC).flatMap cC)) ⟨e1, hs1, by simpa using o1⟩ ?_ ?_
  · rintro K2 pre post c t w2 hx ⟨he, hs, ho⟩ hK _
    have hm := mid_len hx
    obtain ⟨a, ha, c0, c1, c2, c3⟩ := cz_mid (h.ext he) hx
    refine br_dt (by omega) (onSome_i ha ⟨⟨by omega, by omega⟩, _, c0, _, c1, _, c2, _, c3, (c_laws_toCall c w2).go fun w3 e3 => ⟨_, _, _, _, rfl, ⟨by omega, by rw [Int.toNat_natCast]; omega⟩, ?_⟩⟩)
    have ho3 := ho.ext e3
    rw [show xs.length - pre.length = (xs.length - (pre ++ [c]).length) + 1 by simp; omega, List.replicate_succ] at ho3
    obtain ⟨a', ha', _, p1, q1⟩ := Own.put4 (y := c) cC_len ho3 rfl (K := fun w' => InR .i64 ((pre.length : Int) + 1) ∧ K2 ((pre.length : Int) + 1, ()) w') (fun w4 o4 g4 =>
      ⟨inR_i64 (by omega) (by omega), hK _ _ ⟨(he.trans e3).own ho3 g4 (Nat.le_refl _), Nat.lt_of_lt_of_le hs (Nat.le_trans e3.size g4.size), by simpa using o4⟩⟩)
    have : a' = ⟨w.heap.size, 0, none⟩ := by simpa using ha'.symm
    subst this
    exact ⟨p1, q1⟩
  · rintro K2 t w2 ⟨he, hs, ho⟩ _
    refine br_df (by omega) ?_
    have ho' : Own w.heap.size 30 4 w2 ⟨some ⟨w.heap.size, 0, none⟩, xs.length, xs.length⟩ (xs.flatMap cC) := by simpa using ho
    rw [hl0, Int.toNat_natCast]
    exact hk ⟨some ⟨w.heap.size, 0, none⟩, xs.length, xs.length⟩ w2 rfl (ho'.slOf cC_len (by decide)) hs ho' he

theorem c_laws_eqCall (l m : Cz) (w : World) : CallR Try.prog 35 [.agg #[.int .i64 l.1, .int .i64 l.2.1, .bool l.2.2.1, .int .i64 l.2.2.2], .agg #[.int .i64 m.1, .int .i64 m.2.1, .bool m.2.2.1, .int .i64 m.2.2.2]] w (fun v w' => v = .bool (decide (l = m)) ∧ Ext w w') := by
  refine fn_laws_eqCall _ _ _ _ _ _ _ _ _ _ ?_
  unfold g_laws_eqCall
  refine letW_i fun w1 hw1 => letW_i fun w2 hw2 => ?_
  have e1 : Ext w w1 := by rw [hw1]; exact (Ext.refl w).alloc _
  have e2 : Ext w1 w2 := by rw [hw2]; exact (Ext.refl w1).alloc _
  have r1 : Row w2 w.heap.size (cC l) 30 := by
    have : Row w1 w.heap.size (cC l) 30 := by rw [hw1]; exact Row.new w (cC l) _
    exact this.ext e2
  have r2 : Row w2 w1.heap.size (cC m) 30 := by rw [hw2]; exact Row.new w1 (cC m) _
  have e := e1.trans e2
  obtain ⟨l0, l1, l2, l3⟩ := l
  obtain ⟨m0, m1, m2, m3⟩ := m
  refine ⟨_, r1.cell rfl, _, r2.cell rfl, br_i (fun g => ⟨by have : l0 ≠ m0 := (by simpa using g); simp [this], e⟩) (fun g0 => ?_)⟩
  refine ⟨_, r1.cell rfl, _, r2.cell rfl, br_i (fun g => ⟨by have : l1 ≠ m1 := (by simpa using g); simp [this], e⟩) (fun g1 => ?_)⟩
  refine ⟨_, r1.cell rfl, _, r2.cell rfl, br_i (fun g => ⟨by have : l2 ≠ m2 := (by simpa using g); simp [this], e⟩) (fun g2 => ?_)⟩
  refine ⟨_, r1.cell rfl, _, r2.cell rfl, br_i (fun g => ⟨by have : l3 ≠ m3 := (by simpa using g); simp [this], e⟩) (fun g3 => ⟨?_, e⟩)⟩
  have a0 : l0 = m0 := by simpa using g0
  have a1 : l1 = m1 := by simpa using g1
  have a2 : l2 = m2 := by simpa using g2
  have a3 : l3 = m3 := by simpa using g3
  simp [a0, a1, a2, a3]

theorem c_laws_eqCallS {s t : Sl} {xs ys : List Cz} {w : World} (h : Calls4 w s xs) (h' : Calls4 w t ys) (hl : xs.length ≤ maxLen) :
    CallR Try.prog 20 [.slice s.a s.len s.cap, .slice t.a t.len t.cap] w (fun v w' => v = .bool (decide (xs = ys)) ∧ Ext w w') := by
  refine fn_laws_eqCallS _ _ _ _ ?_
  unfold g_laws_eqCallS
  unfold maxLen at hl
  have hl0 := h.len
  have hl1 := h'.len
  refine br_i (fun g => ⟨?_, Ext.refl _⟩) (fun g => ?_)
  · have : xs ≠ ys := fun e => by subst e; simp at g; omega
    simp [this]
  have hlen : xs.length = ys.length := by simp at g; omega
  refine sLoop_list xs (fun pre _ w' => Ext w w' ∧ pre = ys.take pre.length) ⟨Ext.refl _, rfl⟩ ?_ ?_
  · rintro K pre post c u w1 hx ⟨he, hp⟩ hK _
    have hm := mid_len hx
    refine br_dt (by omega) (fun w2 (e2 : Ext w1 w2) => ?_)
    have e02 := he.trans e2
    obtain ⟨a, ha1, c0, c1, c2, c3⟩ := cz_mid (h.ext e02) hx
    have hlt : pre.length < ys.length := by omega
    have hy : ys = ys.take pre.length ++ ys[pre.length] :: ys.drop (pre.length + 1) := by simp
    have hyl : (ys.take pre.length).length = pre.length := by simp; omega
    obtain ⟨b, hb1, d0, d1, d2, d3⟩ := cz_mid (h'.ext e02) hy
    rw [hyl] at d0 d1 d2 d3
    refine onSome_i ha1 ⟨⟨by omega, by omega⟩, _, c0, _, c1, _, c2, _, c3, onSome_i hb1 ⟨⟨by omega, by omega⟩, _, d0, _, d1, _, d2, _, d3, (c_laws_eqCall c ys[pre.length] w2).go fun w3 e3 => ⟨_, rfl, br_i (fun g2 => ⟨?_, e02.trans e3⟩) (fun g2 => ⟨inR_i64 (by omega) (by omega), hK _ _ ⟨e02.trans e3, ?_⟩⟩)⟩⟩⟩
    · have hne := of_decide_eq_false (nott g2)
      have : xs ≠ ys := fun e => by
        apply hne
        have h1 : xs[pre.length]? = some c := mid_get hx
        rw [e, List.getElem?_eq_getElem hlt] at h1
        exact (Option.some.inj h1).symm
      simp [this]
    · have heq := of_decide_eq_true (notf g2)
      rw [List.length_append, List.length_singleton, ← List.take_append_getElem hlt, ← heq, ← hp]
  · rintro K u w1 ⟨he, hp⟩ _
    refine br_df (by omega) ⟨?_, he⟩
    have : xs = ys := by rw [hp, hlen, List.take_length]
    simp [this]

theorem c_laws_markCallS {w : World} {l : Sl} {xs : List Cz} {base : Nat} (k : Int) (o : Own base 30 4 w l (xs.flatMap cC)) (h1 : 0 ≤ k) (h2 : k ≤ 1000) (hl : xs.length ≤ 1048576) :
    CallR Try.prog 23 [.slice l.a l.len l.cap, .int .i64 k] w (fun v w' => v = .int .i64 (k + 4 * xs.length) ∧ w.grownBy w' l.v.ownBlock) := by
  refine fn_laws_markCallS _ _ _ _ ?_
  unfold g_laws_markCallS
  have hll := o.len cC_len (by decide)
  refine sLoop_list xs (fun pre t w' => t.1 = k + 4 * pre.length ∧ (∃ ys : List Cz, ys.length = pre.length ∧ Own base 30 4 w' l ((ys ++ xs.drop pre.length).flatMap cC)) ∧ w.grownBy w' l.v.ownBlock) ⟨by simp, ⟨[], rfl, by simpa using o⟩, grown_refl _ _⟩ ?_ ?_
  · rintro K pre post c ⟨t, u⟩ w1 hx ⟨ht, ⟨ys, hys, ho⟩, hg⟩ hK _
    have hm := mid_len hx
    simp only at ht
    subst ht
    simp only
    have hd : xs.drop pre.length = c :: post := by rw [hx]; simp
    rw [hd] at ho
    obtain ⟨a, ha, hil, hput⟩ := Own.put4 (y := (k + 4 * (pre.length : Int), k + 4 * (pre.length : Int) + 1, ((k + 4 * (pre.length : Int) + 1 + 1) % 3 == (0 : Int)), k + 4 * (pre.length : Int) + 1 + 1 + 1)) cC_len ho rfl (K := fun w' => InR .i64 (k + 4 * (pre.length : Int) + 1 + 1 + 1 + 1) ∧ InR .i64 ((pre.length : Int) + 1) ∧ K ((pre.length : Int) + 1, k + 4 * (pre.length : Int) + 1 + 1 + 1 + 1, ()) w') (fun w3 o3 g3 => by
      refine ⟨inR_i64 (by omega) (by omega), inR_i64 (by omega) (by omega), hK _ _ ⟨by simp; omega, ⟨ys ++ [(k + 4 * (pre.length : Int), k + 4 * (pre.length : Int) + 1, ((k + 4 * (pre.length : Int) + 1 + 1) % 3 == (0 : Int)), k + 4 * (pre.length : Int) + 1 + 1 + 1)], by simp [hys], ?_⟩, grown_trans hg g3⟩⟩
      have hd' : xs.drop (pre ++ [c]).length = post := by rw [hx]; simp
      rw [hd']
      simpa using o3)
    rw [hys] at hput hil
    obtain ⟨p1, q1⟩ := hput
    simp only [add_nought]
    refine br_dt (by omega) (onSome_i ha ⟨⟨by omega, by omega⟩, p1, ?_⟩)
    unfold letW at q1 ⊢
    obtain ⟨p2, p3, p4, q4⟩ := q1
    exact ⟨inR_i64 (by omega) (by omega), onSome_i ha ⟨⟨by omega, by omega⟩, p2, inR_i64 (by omega) (by omega), ⟨by omega, by omega⟩, onSome_i ha ⟨⟨by omega, by omega⟩, p3, inR_i64 (by omega) (by omega), onSome_i ha ⟨⟨by omega, by omega⟩, p4, q4⟩⟩⟩⟩
  · rintro K ⟨t, u⟩ w1 ⟨ht, _, hg⟩ _
    simp only at ht
    refine br_df (by omega) ⟨by rw [ht], hg⟩
end Go.Proofs
