/-
  What functions of this seat compute, part 'LeaseHelp': contracts over their readable predicates. Conditions: each theorem's own hypotheses.
-/
import Derived.Test.YtcgmjkokkclciaaBase
import Derived.Test.YtcgmjkokkclciaaOpen
import Derived.Test.YtcgmjkokkclciaaGen
import Derived.Test.YtcgmjkokkclciaaCLease
namespace Go.Proofs
open Go Go.Vc Go.RowKit
set_option maxRecDepth 100000
set_option linter.unusedVariables false
--! C:Lease
/-! ## Leases: what the laws do with lists, and the arguments read -/

section
variable {H : Type} {enc : TypeId × Value → H} {w : World} {base : Nat} {spare : Nat → Bool} {held : Bool}

theorem read_leases {v : Value} {a : Option Addr} {len cap : Nat} {d : DataW H} {ps : List MemPlace} (hv : v = .slice a len cap) (h : DataW.Trod enc Try.prog w base spare held 22 v d ps) :
    ∃ (s : Sl) (xs : List Lz), v = .slice s.a s.len s.cap ∧ Leases w s xs ∧ s.cap ≤ maxLen ∧ ∀ x ∈ xs, x.1.size ≤ maxLen := by
  obtain ⟨fuel, hf⟩ := h
  obtain ⟨s, xs, hs, h1, h2, h3⟩ := read_slice (c := cL) (Q := fun x => x.1.size ≤ maxLen) (k := 3) Try.underlying22 (by kernel_rfl) hf (fun m cs y _ hl hy => by
    obtain ⟨ys, n, _, _, _, _, hfd⟩ := DataW.trod_struct Try.underlying53 hy
    have g0 : DataW.trod enc Try.prog w base spare held n 9 ((cs.drop 0).take (Program.cellsOf Try.prog 9)) = ys[0]? := hfd 0 _ rfl
    have g1 : DataW.trod enc Try.prog w base spare held n 3 ((cs.drop 1).take (Program.cellsOf Try.prog 3)) = ys[1]? := hfd 1 _ rfl
    have g2 : DataW.trod enc Try.prog w base spare held n 3 ((cs.drop 2).take (Program.cellsOf Try.prog 3)) = ys[2]? := hfd 2 _ rfl
    have k9 : Program.cellsOf Try.prog 9 = 1 := by kernel_rfl
    have k3 : Program.cellsOf Try.prog 3 = 1 := by kernel_rfl
    rw [k9] at g0
    rw [k3] at g1 g2
    rename_i hys
    match cs, hl with
    | [u0, u1, u2], _ =>
      have l0 : ∃ y0, ys[0]? = some y0 := ⟨ys[0]'(by rw [hys]; decide), List.getElem?_eq_getElem _⟩
      have l1 : ∃ y1, ys[1]? = some y1 := ⟨ys[1]'(by rw [hys]; decide), List.getElem?_eq_getElem _⟩
      have l2 : ∃ y2, ys[2]? = some y2 := ⟨ys[2]'(by rw [hys]; decide), List.getElem?_eq_getElem _⟩
      obtain ⟨y0, e0⟩ := l0
      obtain ⟨y1, e1⟩ := l1
      obtain ⟨y2, e2⟩ := l2
      rw [e0] at g0
      rw [e1] at g1
      rw [e2] at g2
      obtain ⟨t0, f0, _, hw⟩ := DataW.trod_string Try.underlying9 g0
      obtain ⟨t1, f1, _, _⟩ := DataW.trod_int Try.underlying3 g1
      obtain ⟨t2, f2, _, _⟩ := DataW.trod_int Try.underlying3 g2
      simp at f0 f1 f2
      exact ⟨(t0, t1, t2), by simp [cL, f0, f1, f2], hw⟩)
  exact ⟨s, xs, sl_arg hv hs, h1, h2, h3⟩
end

def emptyLB : ByteArray := ⟨#[]⟩

def sizeL (xs : List Lz) : Int := (xs.map fun x => (x.1.size : Int)).sum
theorem sizeL_snoc (a : List Lz) (x : Lz) : sizeL (a ++ [x]) = sizeL a + x.1.size := by simp [sizeL]
theorem sizeL_nonneg (xs : List Lz) : 0 ≤ sizeL xs := by
  induction xs with
  | nil => simp [sizeL]
  | cons x r ih => simp only [sizeL, List.map_cons, List.sum_cons] at ih ⊢; omega

theorem c_laws_szLease (l : Lz) (left : Int) (w : World) (h0 : 0 ≤ left) (h1 : left ≤ 1048576) (hs : l.1.size ≤ maxLen) :
    CallR Try.prog 39 [.agg #[.string l.1, .int .i64 l.2.1, .int .i64 l.2.2], .int .i64 left] w (fun v w' => (v = .int .i64 (-1) ∨ (v = .int .i64 (left - l.1.size) ∧ 0 ≤ left - l.1.size)) ∧ Ext w w') := by
  refine fn_laws_szLease _ _ _ _ _ _ ?_
  unfold g_laws_szLease
  unfold maxLen at hs
  refine letW_i fun w1 hw1 => ?_
  have e1 : Ext w w1 := by rw [hw1]; exact (Ext.refl w).alloc _
  have r1 : Row w1 w.heap.size (cL l) 53 := by rw [hw1]; exact Row.new w (cL l) _
  exact ⟨_, r1.cell rfl, inR_i64 (by omega) (by omega), br_d (fun _ => ⟨.inl rfl, e1⟩) (fun _ => ⟨.inr ⟨rfl, by omega⟩, e1⟩)⟩

theorem c_laws_szLeaseS {s : Sl} {xs : List Lz} {w : World} (left : Int) (h : Leases w s xs) (h0 : 0 ≤ left) (h1 : left ≤ 1048576) (hl : xs.length ≤ maxLen) (hs : ∀ x ∈ xs, x.1.size ≤ maxLen) :
    CallR Try.prog 18 [.slice s.a s.len s.cap, .int .i64 left] w (fun v w' => (v = .int .i64 (-1) ∨ (v = .int .i64 (left - xs.length - sizeL xs) ∧ 0 ≤ left - xs.length - sizeL xs)) ∧ Ext w w') := by
  refine fn_laws_szLeaseS _ _ _ _ ?_
  unfold g_laws_szLeaseS
  unfold maxLen at hl
  have hl0 := h.len
  refine ⟨inR_i64 (by omega) (by omega), br_d (fun h2 => ⟨.inl rfl, Ext.refl _⟩) (fun h2 => ?_)⟩
  refine sLoop_list xs (fun pre t w' => Ext w w' ∧ t.1 = left - xs.length - sizeL pre ∧ 0 ≤ t.1) ⟨Ext.refl _, by simp [sizeL, hl0], by simp; omega⟩ ?_ ?_
  · rintro K pre post c ⟨t, u⟩ w1 hx ⟨he, ht, hp⟩ hK _
    have hm := mid_len hx
    obtain ⟨a, ha1, c0, c1, c2⟩ := lz_mid (h.ext he) hx
    have hn := sizeL_nonneg pre
    simp only at ht hp
    refine br_dt (by omega) (onSome_i ha1 ⟨⟨by omega, by omega⟩, _, c0, _, c1, _, c2, (c_laws_szLease c t w1 hp (by omega) (hs c (by rw [hx]; simp))).mono ?_⟩)
    rintro _ w2 ⟨hv, e2⟩
    rcases hv with rfl | ⟨rfl, h3⟩
    · exact ⟨_, rfl, br_dt (by omega) ⟨.inl rfl, he.trans e2⟩⟩
    · refine ⟨_, rfl, br_df (by omega) ⟨inR_i64 (by omega) (by omega), hK _ _ ⟨he.trans e2, ?_, h3⟩⟩⟩
      simp only [sizeL_snoc]; omega
  · rintro K ⟨t, u⟩ w1 ⟨he, ht, hp⟩ _
    simp only at ht hp
    exact br_df (by omega) ⟨.inr ⟨by rw [ht], by omega⟩, he⟩

theorem c_laws_eqLease (l m : Lz) (w : World) : CallR Try.prog 44 [.agg #[.string l.1, .int .i64 l.2.1, .int .i64 l.2.2], .agg #[.string m.1, .int .i64 m.2.1, .int .i64 m.2.2]] w (fun v w' => v = .bool (decide (l = m)) ∧ Ext w w') := by
  refine fn_laws_eqLease _ _ _ _ _ _ _ _ ?_
  unfold g_laws_eqLease
  refine letW_i fun w1 hw1 => letW_i fun w2 hw2 => ?_
  have e1 : Ext w w1 := by rw [hw1]; exact (Ext.refl w).alloc _
  have e2 : Ext w1 w2 := by rw [hw2]; exact (Ext.refl w1).alloc _
  have r1 : Row w2 w.heap.size (cL l) 40 := by
    refine Row.ext ?_ e2
    rw [hw1]; exact Row.new w (cL l) _
  have r2 : Row w2 w1.heap.size (cL m) 40 := by rw [hw2]; exact Row.new w1 (cL m) _
  have e := e1.trans e2
  obtain ⟨l0, l1, l2⟩ := l
  obtain ⟨m0, m1, m2⟩ := m
  refine ⟨_, r1.cell rfl, _, r2.cell rfl, ?_⟩
  rw [seqB_eq]
  refine br_i (fun g => ⟨by have := of_decide_eq_false (nott g); simp [this], e⟩) (fun g => ⟨_, r1.cell rfl, _, r2.cell rfl, ?_⟩)
  refine br_i (fun g' => ⟨by have : l1 ≠ m1 := (by simpa using g'); simp [this], e⟩) (fun g' => ⟨_, r1.cell rfl, _, r2.cell rfl, ?_⟩)
  refine br_i (fun g'' => ⟨by have : l2 ≠ m2 := (by simpa using g''); simp [this], e⟩) (fun g'' => ⟨?_, e⟩)
  have a0 := of_decide_eq_true (notf g)
  have a1 : l1 = m1 := by simpa using g'
  have a2 : l2 = m2 := by simpa using g''
  simp only at a0
  simp [a0, a1, a2]

theorem c_laws_eqLeaseS {s t : Sl} {xs ys : List Lz} {w : World} (h : Leases w s xs) (h' : Leases w t ys) (hl : xs.length ≤ maxLen) :
    CallR Try.prog 22 [.slice s.a s.len s.cap, .slice t.a t.len t.cap] w (fun v w' => v = .bool (decide (xs = ys)) ∧ Ext w w') := by
  refine fn_laws_eqLeaseS _ _ _ _ ?_
  unfold g_laws_eqLeaseS
  unfold maxLen at hl
  have hl0 := h.len
  have hl1 := h'.len
  refine br_i (fun g => ⟨?_, Ext.refl _⟩) (fun g => ?_)
  · have : xs ≠ ys := fun e => by subst e; simp at g; omega
    simp [this]
  have hlen : xs.length = ys.length := by simp at g; omega
  refine sLoop_list xs (fun pre _ w' => Ext w w' ∧ pre = ys.take pre.length) ⟨Ext.refl _, rfl⟩ ?_ ?_
  · rintro K pre post c u w1 hx ⟨he, hp⟩ hK _
    have hm := mid_len hx
    refine br_dt (by omega) (fun w2 (e2 : Ext w1 w2) => ?_)
    have e02 := he.trans e2
    obtain ⟨a, ha1, c0, c1, c2⟩ := lz_mid (h.ext e02) hx
    have hlt : pre.length < ys.length := by omega
    have hy : ys = ys.take pre.length ++ ys[pre.length] :: ys.drop (pre.length + 1) := by simp
    have hyl : (ys.take pre.length).length = pre.length := by simp; omega
    obtain ⟨b, hb1, d0, d1, d2⟩ := lz_mid (h'.ext e02) hy
    rw [hyl] at d0 d1 d2
    refine onSome_i ha1 ⟨⟨by omega, by omega⟩, _, c0, _, c1, _, c2, onSome_i hb1 ⟨⟨by omega, by omega⟩, _, d0, _, d1, _, d2, (c_laws_eqLease c ys[pre.length] w2).go fun w3 e3 => ⟨_, rfl, br_i (fun g2 => ⟨?_, e02.trans e3⟩) (fun g2 => ⟨inR_i64 (by omega) (by omega), hK _ _ ⟨e02.trans e3, ?_⟩⟩)⟩⟩⟩
    · have hne := of_decide_eq_false (nott g2)
      have : xs ≠ ys := fun e => by
        apply hne
        have h1 : xs[pre.length]? = some c := mid_get hx
        rw [e, List.getElem?_eq_getElem hlt] at h1
        exact (Option.some.inj h1).symm
      simp [this]
    · have heq := of_decide_eq_true (notf g2)
      rw [List.length_append, List.length_singleton, ← List.take_append_getElem hlt, ← heq, ← hp]
  · rintro K u w1 ⟨he, hp⟩ _
    refine br_df (by omega) ⟨?_, he⟩
    have : xs = ys := by rw [hp, hlen, List.take_length]
    simp [this]

theorem c_laws_toLease (l : Lz) (w : World) : CallR Try.prog 41 [.agg #[.string l.1, .int .i64 l.2.1, .int .i64 l.2.2]] w (fun v w' => v = .agg #[.string l.1, .int .i64 l.2.1, .int .i64 l.2.2] ∧ Ext w w') := by
  refine fn_laws_toLease _ _ _ _ _ ?_
  unfold g_laws_toLease
  refine letW_i fun w1 hw1 => letW_i fun w2 hw2 => letW_i fun w3 hw3 => ?_
  have e1 : Ext w w1 := by rw [hw1]; exact (Ext.refl w).alloc _
  have e2 : Ext w1 w2 := by rw [hw2]; exact (Ext.refl w1).alloc _
  have e3 : Ext w2 w3 := by rw [hw3]; exact (Ext.refl w2).alloc _
  have s1 : w1.heap.size = w.heap.size + 1 := by rw [hw1]; simp
  have s2 : w2.heap.size = w1.heap.size + 1 := by rw [hw2]; simp
  have a3 : Row w3 w.heap.size (cL l) 53 := by
    have : Row w1 w.heap.size (cL l) 53 := by rw [hw1]; exact Row.new w (cL l) _
    exact (this.ext e2).ext e3
  have b3 : Row w3 w1.heap.size [.string ⟨#[]⟩, .int .i64 0, .int .i64 0] 40 := by
    have : Row w2 w1.heap.size [.string ⟨#[]⟩, .int .i64 0, .int .i64 0] 40 := by rw [hw2]; exact Row.new w1 [.string ⟨#[]⟩, .int .i64 0, .int .i64 0] _
    exact this.ext e3
  have c3 : Row w3 w2.heap.size [.string ⟨#[]⟩, .int .i64 0, .int .i64 0] 40 := by rw [hw3]; exact Row.new w2 [.string ⟨#[]⟩, .int .i64 0, .int .i64 0] _
  have e03 := (e1.trans e2).trans e3
  have hb : ∀ (b k : Nat), ((⟨b, 0, none⟩ : Addr).add k).block = b := fun b k => by rw [add_b]
  obtain ⟨q1, c4⟩ := c3.setMid (A := []) (p := (⟨w2.heap.size, 0, none⟩ : Addr).add 0) rfl (.string l.1)
  refine ⟨_, a3.cell rfl, q1, letW_i fun w4 hw4 => ?_⟩
  rw [← hw4] at c4
  have a4 : Row w4 w.heap.size (cL l) 53 := by rw [hw4]; exact a3.set_other (by rw [hb]; omega) _
  have b4 : Row w4 w1.heap.size [.string ⟨#[]⟩, .int .i64 0, .int .i64 0] 40 := by rw [hw4]; exact b3.set_other (by rw [hb]; omega) _
  have e04 : Ext w w4 := by rw [hw4]; exact e03.set (by rw [hb]; omega) _
  obtain ⟨q2, c5⟩ := Row.setMid (A := [.string l.1]) (B := [.int .i64 0]) (o := .int .i64 0) (p := (⟨w2.heap.size, 0, none⟩ : Addr).add 1) c4 rfl (.int .i64 l.2.1)
  refine ⟨_, a4.cell rfl, q2, letW_i fun w5 hw5 => ?_⟩
  rw [← hw5] at c5
  have a5 : Row w5 w.heap.size (cL l) 53 := by rw [hw5]; exact a4.set_other (by rw [hb]; omega) _
  have b5 : Row w5 w1.heap.size [.string ⟨#[]⟩, .int .i64 0, .int .i64 0] 40 := by rw [hw5]; exact b4.set_other (by rw [hb]; omega) _
  have e05 : Ext w w5 := by rw [hw5]; exact e04.set (by rw [hb]; omega) _
  obtain ⟨q3, c6⟩ := Row.setMid (A := [.string l.1, .int .i64 l.2.1]) (B := []) (o := .int .i64 0) (p := (⟨w2.heap.size, 0, none⟩ : Addr).add 2) c5 rfl (.int .i64 l.2.2)
  refine ⟨_, a5.cell rfl, q3, letW_i fun w6 hw6 => ?_⟩
  rw [← hw6] at c6
  have b6 : Row w6 w1.heap.size [.string ⟨#[]⟩, .int .i64 0, .int .i64 0] 40 := by rw [hw6]; exact b5.set_other (by rw [hb]; omega) _
  have e06 : Ext w w6 := by rw [hw6]; exact e05.set (by rw [hb]; omega) _
  refine ⟨_, c6.cell rfl, _, c6.cell rfl, _, c6.cell rfl, ?_⟩
  obtain ⟨p1, d1⟩ := b6.setMid (A := []) (B := [.int .i64 0, .int .i64 0]) (p := ⟨w1.heap.size, 0, none⟩) rfl (.string l.1)
  refine ⟨p1, letW_i fun w7 hw7 => ?_⟩
  rw [← hw7] at d1
  have e07 : Ext w w7 := by rw [hw7]; exact e06.set (by show w.heap.size ≤ w1.heap.size; omega) _
  obtain ⟨p2, d2⟩ := Row.setMid (A := [.string l.1]) (B := [.int .i64 0]) (o := .int .i64 0) (p := (⟨w1.heap.size, 0, none⟩ : Addr).add 1) d1 rfl (.int .i64 l.2.1)
  refine ⟨p2, letW_i fun w8 hw8 => ?_⟩
  rw [← hw8] at d2
  have e08 : Ext w w8 := by rw [hw8]; exact e07.set (by rw [hb]; omega) _
  obtain ⟨p3, d3⟩ := Row.setMid (A := [.string l.1, .int .i64 l.2.1]) (B := []) (o := .int .i64 0) (p := (⟨w1.heap.size, 0, none⟩ : Addr).add 2) d2 rfl (.int .i64 l.2.2)
  refine ⟨p3, letW_i fun w9 hw9 => ?_⟩
  rw [← hw9] at d3
  have e09 : Ext w w9 := by rw [hw9]; exact e08.set (by rw [hb]; omega) _
  exact ⟨_, d3.cell rfl, _, d3.cell rfl, _, d3.cell rfl, rfl, e09⟩

theorem c_laws_toLeaseS {s : Sl} {xs : List Lz} {w : World} (h : Leases w s xs) (hl : xs.length ≤ 1048576) :
    CallR Try.prog 20 [.slice s.a s.len s.cap] w (fun v w' => v = .slice (some ⟨w.heap.size, 0, none⟩) xs.length xs.length ∧ Row w' w.heap.size (xs.flatMap cL) 40 ∧ Ext w w') := by
  refine fn_laws_toLeaseS _ _ _ ?_
  unfold g_laws_toLeaseS
  have hl0 := h.len
  refine ⟨⟨by omega, by omega, by omega, by omega⟩, letW_i fun w1 hw1 => ?_⟩
  have e01 : Ext w w1 := by rw [hw1]; exact (Ext.refl w).alloc _
  have r1 : Row w1 w.heap.size (List.replicate xs.length [.string emptyLB, .int .i64 0, .int .i64 0]).flatten 40 := by
    rw [hw1, hl0, Int.toNat_natCast]
    have := madeCells_agg [.string emptyLB, .int .i64 0, .int .i64 0] (by simp) xs.length
    rw [show #[Value.string (⟨#[]⟩ : ByteArray), .int .i64 (0 : Int), .int .i64 (0 : Int)] = [Value.string emptyLB, .int .i64 0, .int .i64 0].toArray from rfl]
    rw [show xs.length * 3 = xs.length * [Value.string emptyLB, .int .i64 0, .int .i64 0].length from rfl, this]
    exact Row.new w _ _
  refine sLoop_list xs (fun pre _ w' => Ext w w' ∧ Row w' w.heap.size (pre.flatMap cL ++ (List.replicate (xs.length - pre.length) [.string emptyLB, .int .i64 0, .int .i64 0]).flatten) 40) ⟨e01, by simpa using r1⟩ ?_ ?_
  · intro K pre post c t w2 hx ⟨he, hr⟩ hK _
    have hm := mid_len hx
    obtain ⟨a, ha1, c0, c1, c2⟩ := lz_mid (h.ext he) hx
    refine br_dt (by omega) (onSome_i ha1 ⟨⟨by omega, by omega⟩, _, c0, _, c1, _, c2, (c_laws_toLease c w2).go fun w3 e3 => ⟨_, _, _, rfl, ⟨by omega, by rw [Int.toNat_natCast]; omega⟩, ?_⟩⟩)
    have hr3 := hr.ext e3
    rw [show xs.length - pre.length = (xs.length - (pre ++ [c]).length) + 1 by simp; omega, List.replicate_succ, List.flatten_cons] at hr3
    refine put3 hr3 (by rw [flatMap_len cL_len]) (fun w4 r4 e4 => ⟨inR_i64 (by omega) (by omega), hK _ _ ⟨e4 w (he.trans e3) (Nat.le_refl _), ?_⟩⟩)
    simpa [cL] using r4
  · intro K t w2 ⟨he, hr⟩ _
    refine br_df (by omega) ⟨?_, by simpa using hr, he⟩
    rw [hl0, Int.toNat_natCast]

theorem toL {s : Sl} {xs : List Lz} {w : World} (h : Leases w s xs) (hl : xs.length ≤ 1048576) {K : Value → World → Prop}
    (hk : ∀ (t : Sl) w', t.a = some ⟨w.heap.size, 0, none⟩ → Leases w' t xs → Row w' w.heap.size (xs.flatMap cL) 40 → Ext w w' → K (.slice t.a t.len t.cap) w') : CallR Try.prog 20 [.slice s.a s.len s.cap] w K :=
  (c_laws_toLeaseS h hl).mono fun v w' ⟨hv, hr, he⟩ => by
    rw [hv]
    exact hk ⟨some ⟨w.heap.size, 0, none⟩, xs.length, xs.length⟩ w' rfl (hr.slOf (by simp)) hr he

theorem toLo {s : Sl} {xs : List Lz} {w : World} (h : Leases w s xs) (hl : xs.length ≤ 1048576) {K : Value → World → Prop}
    (hk : ∀ (t : Sl) w', t.a = some ⟨w.heap.size, 0, none⟩ → Leases w' t xs → Row w' w.heap.size (xs.flatMap cL) 40 → Own w.heap.size 40 3 w' t (xs.flatMap cL) → Ext w w' → K (.slice t.a t.len t.cap) w') : CallR Try.prog 20 [.slice s.a s.len s.cap] w K :=
  (c_laws_toLeaseS h hl).mono fun v w' ⟨hv, hr, he⟩ => by
    rw [hv]
    exact hk ⟨some ⟨w.heap.size, 0, none⟩, xs.length, xs.length⟩ w' rfl (hr.slOf (by simp)) hr (Own.ofRow hr (flatMap_len cL_len xs) (Nat.le_refl _) (by unfold maxLen; omega)) he
end Go.Proofs
