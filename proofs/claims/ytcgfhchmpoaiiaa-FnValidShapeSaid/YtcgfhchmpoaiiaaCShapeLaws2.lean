/-
  What functions of this seat compute, part 'ShapeLaws2': contracts over their readable predicates. Conditions: each theorem's own hypotheses.
-/
import Derived.Test.YtcgfhchmpoaiiaaBase
import Derived.Test.YtcgfhchmpoaiiaaOpen
import Derived.Test.YtcgfhchmpoaiiaaGen
import Derived.Test.YtcgfhchmpoaiiaaCSmall
import Derived.Test.YtcgfhchmpoaiiaaCOrder
import Derived.Test.YtcgfhchmpoaiiaaCNode
import Derived.Test.YtcgfhchmpoaiiaaCNodeText
import Derived.Test.YtcgfhchmpoaiiaaCNodeValid
import Derived.Test.YtcgfhchmpoaiiaaCNodeSpec
import Derived.Test.YtcgfhchmpoaiiaaCHelpS
import Derived.Test.YtcgfhchmpoaiiaaCNodeHelp
import Derived.Test.YtcgfhchmpoaiiaaCNodeHelp2
import Derived.Test.YtcgfhchmpoaiiaaCNodeTop
import Derived.Test.YtcgfhchmpoaiiaaCCells
import Derived.Test.YtcgfhchmpoaiiaaCShape
import Derived.Test.YtcgfhchmpoaiiaaCShape2
import Derived.Test.YtcgfhchmpoaiiaaCShapeOf
import Derived.Test.YtcgfhchmpoaiiaaCShapeOf2
import Derived.Test.YtcgfhchmpoaiiaaCShapeOf3
import Derived.Test.YtcgfhchmpoaiiaaCShapeOf4
import Derived.Test.YtcgfhchmpoaiiaaCFits
import Derived.Test.YtcgfhchmpoaiiaaCFits2
import Derived.Test.YtcgfhchmpoaiiaaCFits3
import Derived.Test.YtcgfhchmpoaiiaaCNodeCopy
import Derived.Test.YtcgfhchmpoaiiaaCNodeAdd
import Derived.Test.YtcgfhchmpoaiiaaCDraw
import Derived.Test.YtcgfhchmpoaiiaaCNodeDraw
import Derived.Test.YtcgfhchmpoaiiaaCNodeDraw2
import Derived.Test.YtcgfhchmpoaiiaaCNodeDraw3
import Derived.Test.YtcgfhchmpoaiiaaCNearShape
import Derived.Test.YtcgfhchmpoaiiaaCNearShape2
import Derived.Test.YtcgfhchmpoaiiaaCNearShape3
import Derived.Test.YtcgfhchmpoaiiaaCAnyShape
namespace Go.Proofs
open Go Go.Vc Go.RowKit
set_option maxRecDepth 100000
set_option linter.unusedVariables false
--! C:Small C:Order C:Node C:NodeText C:NodeValid C:NodeSpec C:HelpS C:NodeHelp C:NodeHelp2 C:NodeTop C:Cells C:Shape C:Shape2 C:ShapeOf C:ShapeOf2 C:ShapeOf3 C:ShapeOf4 C:Fits C:Fits2 C:Fits3 C:NodeCopy C:NodeAdd C:Draw C:NodeDraw C:NodeDraw2 C:NodeDraw3 C:NearShape C:NearShape2 C:NearShape3 C:AnyShape
/-! ## Shapes lose names; needing less fits more -/

theorem c_nearShape4 {b : Nat} {bs : List UInt8} {m : Nat} {w : World} {c : NdC} {n : Nd} {B : Nat} (hs : shp m n = true) (h : NdAt (fun k => b < k) w c n) (hR : Rd w b bs B) (hB : B ≤ 900000000) :
    CallR Try.prog 61 [.pointer (some ⟨b, 0, none⟩), c.v, .int .i64 4] w (fun v w' => ∃ (e : ShC) (x : Sh), v = e.v ∧ Dsh w.heap.size w' e x ∧ Rd w' b bs (B + 100000) ∧ Chg b w w') :=
  (c_spec_nearShape 4 m w c n B hs h hR (by have : nc 4 = 5440 := rfl; omega) (by omega)).mono fun v w' ⟨e, x, h1, h2, h3, h4⟩ => ⟨e, x, h1, h2, h3.mono (by have : nc 4 = 5440 := rfl; omega), h4⟩

set_option maxHeartbeats 1000000 in
theorem c_spec_anyShape {w : World} {b : Nat} {bs : List UInt8} {B : Nat} (h : Rd w b bs B) (hB : B ≤ 1000000) {Φ : Value → World → Prop}
    (hk : ∀ e x c n w', ShAt (fun k => w.heap.size ≤ k) w' e x → NdAt (fun k => w.heap.size ≤ k) w' c n → Chg b w w' → Φ (.tuple #[ShC.v e, NdC.v c]) w') : CallR Try.prog 39 [.pointer (some ⟨b, 0, none⟩)] w Φ := by
  refine fn_spec_anyShape _ _ _ ?_
  unfold g_spec_anyShape
  simp only [add_nought]
  have hlt := h.lt
  refine letW_i fun w1 hw1 => letW_i fun w2 hw2 => ?_
  have e1 : Ext w w1 := by rw [hw1]; exact (Ext.refl w).alloc _
  have e2 : Ext w1 w2 := by rw [hw2]; exact (Ext.refl w1).alloc _
  have r1 : Row w1 w.heap.size (cSh zeroSh) 31 := by rw [hw1]; exact Row.new w (cSh zeroSh) _
  have r2 : Row w2 w1.heap.size (cN zeroN) 40 := by rw [hw2]; exact Row.new w1 (cN zeroN) _
  clear hw1 hw2
  have z1 := r1.lt
  have z2 := r2.lt
  have e02 := e1.trans e2
  refine c_anyNodeR (h.ext e02) (by omega) fun c n w4 hn hR4 c4 => ⟨_, _, _, _, _, rfl, local5 fun w5 r5 e5 => ?_⟩
  have z4 := c4.size
  have hn5 : NdAt (fun k => w1.heap.size < k ∧ k < w4.heap.size) w5 c n := (hn.mono (S' := fun k => w1.heap.size < k ∧ k < w4.heap.size) fun k hk hlt => ⟨by omega, hlt⟩).ext e5
  have c05 : Chg b w w5 := ((Chg.of_ext e02).trans c4).trans (Chg.of_ext e5)
  have q1 := ((r1.ext e2).chg c4 (by omega)).ext e5
  have q2 := (r2.chg c4 (by omega)).ext e5
  have ry : Row w5 w4.heap.size (cN c) 40 := r5
  have hR5 := hR4.ext e5
  have z5 := ry.lt
  refine local4c fun w6 r6 e6 => ?_
  have rx : Row w6 w5.heap.size (cSh zeroSh) 31 := r6
  have z6 := rx.lt
  have ry6 := ry.ext e6
  obtain ⟨k0, k1, k2, k3, k4⟩ := Row.nd ry6
  rw [add_nought] at k0
  simp only [exI k0, exI k1, exS k2, exL k3, exL k4]
  have hn6 := hn5.ext e6
  have hR6 := hR5.ext e6
  have c06 := c05.trans (Chg.of_ext e6)
  refine (c_spec_validNode hn6).go fun w7 e7 => ⟨_, rfl, ?_⟩
  have hn7 := hn6.ext e7
  have hR7 := hR6.ext e7
  have c07 := c06.trans (Chg.of_ext e7)
  have ry7 := ry6.ext e7
  have rx7 := rx.ext e7
  have e57 := e6.trans e7
  have z7 := e7.size
  refine br_i (fun g => ?_) (fun g => ?_)
  · simp only [exI (e7.get k0), exI (e7.get k1), exS (e7.get k2), exL (e7.get k3), exL (e7.get k4)]
    refine (c_nearShape4 (vNd_shp g) (hn7.mono (S' := fun k => b < k) fun k hk _ => by omega) hR7 (by omega)).mono ?_
    rintro _ w8 ⟨e, x, rfl, hD, hR8, c8⟩
    refine ⟨_, _, _, _, rfl, ?_⟩
    refine row_set4c (rx7.chg c8 (by omega)) fun w9 r9 c9 => ?_
    refine any_tail (base := w7.heap.size) (e := e) (x := x) (c := c) (n := n) r9 ((ry7.chg c8 (by omega)).chg c9 (by omega)) (((q1.ext e57).chg c8 (by omega)).chg c9 (by omega)) (((q2.ext e57).chg c8 (by omega)).chg c9 (by omega)) hlt z1 (by omega) z5 (by omega)
      (hD.chg c9 (by omega)) ((hn7.chg c8 (by omega)).chg c9 (by omega)) (hR8.grown c9 (fun k hk => by have := Option.some.inj hk; omega)) (by omega) fun e' x' c' n' w' h1 h2 tr => hk e' x' c' n' w' h1 h2 (tr w (Nat.le_refl _) (Chg.fresh (c07.trans c8) c9 (by omega)))
  · refine any_tail (base := w7.heap.size) (e := zeroSh) (x := .mk 0 [] [] []) (c := c) (n := n) rx7 ry7 (q1.ext e57) (q2.ext e57) hlt z1 (by omega) z5 (by omega)
      (Dsh.leaf _ _ 0) hn7 hR7 (by omega) fun e' x' c' n' w' h1 h2 tr => hk e' x' c' n' w' h1 h2 (tr w (Nat.le_refl _) c07)

theorem c_spec_DrawValidShape {w : World} {s : Sl} {bs : List UInt8} (hs : Bytes w s bs) {Φ : Value → World → Prop} (hk : ∀ e x w', ShAt (fun _ => True) w' e x → Ext w w' → Φ (ShC.v e) w') : CallR Try.prog 13 [.slice s.a s.len s.cap] w Φ := by
  refine fn_spec_DrawValidShape _ _ _ ?_
  unfold g_spec_DrawValidShape
  simp only [add_nought]
  refine letW_i fun w1 hw1 => ?_
  have e1 : Ext w w1 := by rw [hw1]; exact (Ext.refl w).alloc _
  have ra : Row w1 w.heap.size (cSh zeroSh) 31 := by rw [hw1]; exact Row.new w (cSh zeroSh) _
  clear hw1
  have z1 := ra.lt
  refine (c_spec_newReader (hs.ext e1)).mono ?_
  rintro _ w3 ⟨rfl, h3, e3⟩
  have z3 := e3.size
  refine ⟨_, rfl, c_spec_anyShape h3 (by omega) fun e x c n w4 hx hn c4 => ⟨_, _, _, _, _, _, _, _, _, rfl, letW_i fun w5 hw5 => letW_i fun w6 hw6 => ?_⟩⟩
  have e5 : Ext w4 w5 := by rw [hw5]; exact (Ext.refl w4).alloc _
  have e6 : Ext w5 w6 := by rw [hw6]; exact (Ext.refl w5).alloc _
  have r5 : Row w5 w4.heap.size (cSh zeroSh) 31 := by rw [hw5]; exact Row.new w4 (cSh zeroSh) _
  have r6 : Row w6 w5.heap.size (cN zeroN) 40 := by rw [hw6]; exact Row.new w5 (cN zeroN) _
  clear hw5 hw6
  have z4 := c4.size
  have z5 := r5.lt
  have hx6 := (hx.mono (S' := fun k => k < w4.heap.size ∧ k ≠ w.heap.size) fun k hk hlt => ⟨hlt, by omega⟩)
  · have e46 := e5.trans e6
    refine row_set4c (r5.ext e6) fun w7 r7 c7 => ?_
    refine Row.set5 (r6.chg c7 (by omega)) fun w8 r8 c8 => ?_
    have r78 : Row w8 w4.heap.size (cSh e) 31 := Row.chg (vs := cSh e) r7 c8 (by omega)
    obtain ⟨m0, m1, m2, m3⟩ := Row.sh r78
    simp only [exI m0, exL m1, exL m2, exL m3]
    have ra8 := ((((ra.ext e3).chg c4 (by omega)).ext e46).chg c7 (by omega)).chg c8 (by omega)
    refine shOut ra8 fun w9 r9 c9 => ?_
    refine hk e x w9 ((((((hx6.ext e46).chg c7 (fun hh => by have := hh.1; omega)).chg c8 (fun hh => by have := hh.1; omega))).chg c9 (fun hh => hh.2 rfl)).mono fun _ _ _ => trivial) ?_
    have c04 : Chg w1.heap.size w w4 := ((Chg.of_ext e1).trans (Chg.of_ext e3)).trans c4
    have e04 : Ext w w4 := (e1.trans e3).chg c4 (by omega)
    exact (((e04.trans e46).chg c7 (by omega)).chg c8 (by omega)).chg c9 (Nat.le_refl _)

theorem c_spec_DrawFitsShape {w : World} {s : Sl} {bs : List UInt8} (hs : Bytes w s bs) {Φ : Value → World → Prop} (hk : ∀ e x c n w', ShAt (fun _ => True) w' e x → NdAt (fun _ => True) w' c n → Ext w w' → Φ (.tuple #[ShC.v e, NdC.v c]) w') : CallR Try.prog 14 [.slice s.a s.len s.cap] w Φ := by
  refine fn_spec_DrawFitsShape _ _ _ ?_
  unfold g_spec_DrawFitsShape
  simp only [add_nought]
  refine letW_i fun w1 hw1 => letW_i fun w2 hw2 => ?_
  have e1 : Ext w w1 := by rw [hw1]; exact (Ext.refl w).alloc _
  have e2 : Ext w1 w2 := by rw [hw2]; exact (Ext.refl w1).alloc _
  have ra : Row w1 w.heap.size (cSh zeroSh) 31 := by rw [hw1]; exact Row.new w (cSh zeroSh) _
  have rb : Row w2 w1.heap.size (cN zeroN) 40 := by rw [hw2]; exact Row.new w1 (cN zeroN) _
  clear hw1 hw2
  have z1 := ra.lt
  have z2 := rb.lt
  have e02 := e1.trans e2
  refine (c_spec_newReader (hs.ext e02)).mono ?_
  rintro _ w3 ⟨rfl, h3, e3⟩
  have z3 := e3.size
  refine ⟨_, rfl, c_spec_anyShape h3 (by omega) fun e x c n w4 hx hn c4 => ⟨_, _, _, _, _, _, _, _, _, rfl, ?_⟩⟩
  refine row_set4c (((ra.ext e2).ext e3).chg c4 (by omega)) fun w7 r7 c7 => ?_
  refine Row.set5 (((rb.ext e3).chg c4 (by omega)).chg c7 (by omega)) fun w8 r8 c8 => ?_
  have r78 : Row w8 w.heap.size (cSh e) 31 := Row.chg (vs := cSh e) r7 c8 (by omega)
  obtain ⟨m0, m1, m2, m3⟩ := Row.sh r78
  obtain ⟨o0, o1, o2, o3, o4⟩ := Row.nd (c := c) r8
  rw [add_nought] at o0
  simp only [exI m0, exL m1, exL m2, exL m3, exI o0, exI o1, exS o2, exL o3, exL o4]
  have e04 : Ext w w4 := (e02.trans e3).chg c4 (by omega)
  exact hk e x c n w8 (((hx.chg c7 (by omega)).chg c8 (by omega)).mono fun _ _ _ => trivial) (((hn.chg c7 (by omega)).chg c8 (by omega)).mono fun _ _ _ => trivial) ((e04.chg c7 (Nat.le_refl _)).chg c8 (by omega))

/-! ### The plain laws -/

theorem ascN_take : ∀ (xs : List ByteArray) (m : Nat), ascN xs = true → ascN (xs.take m) = true
  | [], m, _ => by cases m <;> rfl
  | [a], m, _ => by cases m <;> simp [ascN]
  | a :: b :: r, 0, _ => rfl
  | a :: b :: r, 1, _ => rfl
  | a :: b :: r, m + 2, h => by
    simp only [ascN, Bool.and_eq_true] at h
    have := ascN_take (b :: r) (m + 1) h.2
    simp only [List.take_succ_cons] at this ⊢
    simp only [ascN, Bool.and_eq_true]
    exact ⟨h.1, this⟩

theorem okNames_take {ns : List ByteArray} (m : Nat) (h : okNames ns = true) : okNames (ns.take m) = true := by
  simp only [okNames, Bool.and_eq_true, List.all_eq_true] at h ⊢
  exact ⟨fun x hx => h.1 x (List.mem_of_mem_take hx), ascN_take ns m h.2⟩

theorem vSh_take {d : Nat} {k : Int} {ns : List ByteArray} {bs : List Bool} {ks : List Sh} {m : Nat} (h : vSh (d + 1) (.mk k ns bs ks) = true) (hm : m ≤ ns.length) : vSh (d + 1) (.mk k (ns.take m) (bs.take m) (ks.take m)) = true := by
  obtain ⟨h1, h2, h3, h4, h5, h6, h7⟩ := vSh_out h
  simp only [Sh.k, Sh.ns, Sh.bs, Sh.ks] at h1 h2 h3 h4 h5 h6 h7
  have hp : partS k (ns.take m) (bs.take m).length (ks.take m).length = true := by
    simp only [partS, List.length_take, Bool.and_eq_true, Bool.or_eq_true, decide_eq_true_eq]
    exact ⟨⟨⟨⟨⟨h1, okNames_take m h2⟩, by omega⟩, by omega⟩, by omega⟩, by omega⟩
  simp only [vSh, Sh.k, Sh.ns, Sh.bs, Sh.ks, hp, Bool.true_and, List.all_eq_true]
  exact fun y hy => h7 y (List.mem_of_mem_take hy)

theorem ShAt.take {w : World} {c : ShC} {x : Sh} (h : ShAt (fun _ => True) w c x) {m : Nat} (h1 : m ≤ c.sn.len) (h2 : m ≤ c.sb.len) (h3 : m ≤ c.sk.len) :
    ShAt (fun _ => True) w ⟨c.k, ⟨c.sn.a, m, c.sn.cap⟩, ⟨c.sb.a, m, c.sb.cap⟩, ⟨c.sk.a, m, c.sk.cap⟩⟩ (.mk x.k (x.ns.take m) (x.bs.take m) (x.ks.take m)) := by
  cases h with
  | mk _ names needs kids cs hn hb hk hl hS1 hS2 hS3 hm h =>
    refine ShAt.mk ⟨c.k, ⟨c.sn.a, m, c.sn.cap⟩, ⟨c.sb.a, m, c.sb.cap⟩, ⟨c.sk.a, m, c.sk.cap⟩⟩ (names.take m) (needs.take m) (kids.take m) (cs.take m) (hn.front h1) (hb.front h2) (hk.front h3) (by simp [hl]) (fun _ _ _ => trivial) (fun _ _ _ => trivial) (fun _ _ _ => trivial)
      ⟨by simp; omega, by simp; omega, by simp; omega, fun x hx => hm.2.2.2 x (List.mem_of_mem_take hx)⟩ (fun i d n hd hn => ?_)
    rw [List.getElem?_take] at hd hn
    split at hd
    · rename_i hi
      rw [if_pos hi] at hn
      exact h i d n hd hn
    · cases hd

theorem c_laws_FnValidShape {w : World} {s : Sl} {bs : List UInt8} (hs : Bytes w s bs) (hm : s.cap ≤ maxLen) : CallR Try.prog 4 [.slice s.a s.len s.cap] w (fun v w' => v = .bool true ∧ Ext w w') := by
  refine fn_laws_FnValidShape _ _ _ ?_
  unfold g_laws_FnValidShape
  simp only [add_nought]
  refine br_d (fun _ => ⟨by simp, Ext.refl _⟩) (fun _ => ?_)
  refine c_spec_DrawValidShape hs fun e x w1 hx e1 => ⟨_, _, _, _, rfl, local4c fun w2 r2 e2 => ?_⟩
  have rx : Row w2 w1.heap.size (cSh e) 31 := r2
  obtain ⟨p0, p1, p2, p3⟩ := Row.sh rx
  simp only [exI p0, exL p1, exL p2, exL p3]
  have e02 := e1.trans e2
  have hx2 := hx.ext e2
  refine (c_impl_ValidShape hx2).go fun w3 e3 => ⟨_, rfl, ?_⟩
  simp only [exI (e3.get p0), exL (e3.get p1), exL (e3.get p2), exL (e3.get p3)]
  refine (c_spec_ValidShape (hx2.ext e3)).go fun w4 e4 => ⟨_, rfl, br_f (by simp) ?_⟩
  have e24 := e3.trans e4
  have e04 := e02.trans e24
  simp only [exI (e24.get p0), exL (e24.get p1), exL (e24.get p2), exL (e24.get p3)]
  have hx4 := hx2.ext e24
  refine br_i (fun g => ?_) (fun g => ?_)
  · exact (c_spec_ValidShape hx4).go fun w5 e5 => ⟨_, rfl, by simp, e04.trans e5⟩
  have hv : vSh 5 x = true := notf g
  refine br_i (fun g2 => ?_) (fun g2 => ?_)
  · exact (c_spec_ValidShape hx4).go fun w5 e5 => ⟨_, rfl, by simp, e04.trans e5⟩
  obtain ⟨_, hn, hb, hnl, hbl, hkl, _⟩ := hx4.out
  obtain ⟨l3, l1, l2, l4⟩ := hx4.klen
  obtain ⟨_, _, v6, v4, v5, _, _⟩ := vSh_out hv
  have hpos : 0 < x.ns.length := by simp at g2; omega
  have hcn := hn.cap
  have hcb := hb.cap
  refine ⟨inR_i64 (by omega) (by omega), fun w5 (e5 : Ext w4 w5) => ?_⟩
  have e25 := e24.trans e5
  simp only [exI (e25.get p0), exL (e25.get p1), exL (e25.get p2), exL (e25.get p3)]
  refine ⟨⟨by omega, by omega, by omega⟩, ⟨by omega, by omega, by omega⟩, ⟨by omega, by omega, by omega⟩, ?_⟩
  have z0 : (0 : Int).toNat = 0 := rfl
  have ht : ((e.sn.len : Int) - 1).toNat = e.sn.len - 1 := by omega
  simp only [z0, resl_zero, Nat.sub_zero, ht]
  have htk := (hx4.ext e5).take (m := e.sn.len - 1) (by omega) (by omega) (by omega)
  have hvt : vSh 5 (.mk x.k (x.ns.take (e.sn.len - 1)) (x.bs.take (e.sn.len - 1)) (x.ks.take (e.sn.len - 1))) = true := by
    cases x with
    | mk k ns nb ks => exact vSh_take hv (by simp only [Sh.ns] at hpos l1 ⊢; omega)
  exact (c_impl_ValidShape htk).go fun w6 e6 => ⟨_, rfl, by rw [hvt], (e04.trans e5).trans e6⟩

theorem fitUp_get {rec : Sh → Nd → Bool} {n : Nd} {x : Sh} : ∀ {m j : Nat}, fitUp rec n x m = true → j < m → fitAt rec n x j = true
  | m + 1, j, h, hj => by
    simp only [fitUp, Bool.and_eq_true] at h
    by_cases e : j = m
    · subst e; exact h.2
    · exact fitUp_get h.1 (by omega)
theorem fitUp_mk {rec : Sh → Nd → Bool} {n : Nd} {x : Sh} : ∀ {m : Nat}, (∀ j, j < m → fitAt rec n x j = true) → fitUp rec n x m = true
  | 0, _ => rfl
  | m + 1, h => by rw [fitUp, fitUp_mk (m := m) fun j hj => h j (by omega), h m (by omega)]; rfl

def noNeeds (x : Sh) : Sh := .mk x.k x.ns (List.replicate x.ns.length false) x.ks

theorem vSh_noNeeds {d : Nat} {x : Sh} (h : vSh (d + 1) x = true) : vSh (d + 1) (noNeeds x) = true := by
  obtain ⟨h1, h2, h3, h4, h5, h6, h7⟩ := vSh_out h
  cases x with
  | mk k ns nb ks =>
    simp only [Sh.k, Sh.ns, Sh.bs, Sh.ks] at h1 h2 h3 h4 h5 h6 h7
    have hp : partS k ns (List.replicate ns.length false).length ks.length = true := by
      simp only [partS, List.length_replicate, Bool.and_eq_true, Bool.or_eq_true, decide_eq_true_eq]
      exact ⟨⟨⟨⟨⟨h1, h2⟩, h3⟩, trivial⟩, h5⟩, by omega⟩
    show vSh (d + 1) (.mk k ns (List.replicate ns.length false) ks) = true
    simp only [vSh, Sh.k, Sh.ns, Sh.bs, Sh.ks, hp, Bool.true_and, List.all_eq_true]
    exact h7

theorem fit_noNeeds {d : Nat} {x : Sh} {n : Nd} (hv : vSh (d + 1) x = true) (h : fit (d + 1) x n = true) : fit (d + 1) (noNeeds x) n = true := by
  obtain ⟨h1, h2, h3, h4, h5, h6, h7⟩ := vSh_out hv
  simp only [fit, Bool.and_eq_true] at h ⊢
  refine ⟨h.1, fitUp_mk fun j hj => ?_⟩
  have hj' : j < x.ns.length := hj
  have hat := fitUp_get h.2 hj'
  obtain ⟨nm, hnm⟩ : ∃ y, x.ns[j]? = some y := ⟨x.ns[j], List.getElem?_eq_getElem hj'⟩
  obtain ⟨b, hbi⟩ : ∃ y, x.bs[j]? = some y := ⟨x.bs[j]'(by omega), List.getElem?_eq_getElem (by omega)⟩
  obtain ⟨y, hy⟩ : ∃ y, x.ks[j]? = some y := ⟨x.ks[j]'(by omega), List.getElem?_eq_getElem (by omega)⟩
  rw [fitAt_eq hnm hbi hy] at hat
  rw [fitAt_eq (x := noNeeds x) (nm := nm) (b := false) (y := y) hnm (by simp [noNeeds, Sh.bs, hj']) hy]
  unfold fit1 at hat ⊢
  cases hl : look nm n.ns n.ks with
  | none => rfl
  | some z => rw [hl] at hat; exact hat

theorem fits_noNeeds {x : Sh} {n : Nd} (h : fits x n = true) : fits (noNeeds x) n = true := by
  simp only [fits, Bool.and_eq_true] at h ⊢
  exact ⟨⟨vSh_noNeeds h.1.1, h.1.2⟩, fit_noNeeds h.1.1 h.2⟩

theorem ShAt.noNeeds {w : World} {c : ShC} {x : Sh} {l : Sl} (h : ShAt (fun _ => True) w c x) (hb : Bools w l (List.replicate x.ns.length false)) : ShAt (fun _ => True) w ⟨c.k, c.sn, l, c.sk⟩ (noNeeds x) := by
  cases h with
  | mk _ names needs kids cs hn hb0 hk hl hS1 hS2 hS3 hm h =>
    exact ShAt.mk ⟨c.k, c.sn, l, c.sk⟩ names (List.replicate names.length false) kids cs hn hb hk hl (fun _ _ _ => trivial) (fun _ _ _ => trivial) (fun _ _ _ => trivial) ⟨hm.1, by simp; exact hm.1, hm.2.2⟩ h

theorem c_laws_FnFitsShapeNeeds {w : World} {s : Sl} {bs : List UInt8} (hs : Bytes w s bs) (hm : s.cap ≤ maxLen) : CallR Try.prog 5 [.slice s.a s.len s.cap] w (fun v w' => v = .bool true ∧ Ext w w') := by
  refine fn_laws_FnFitsShapeNeeds _ _ _ ?_
  unfold g_laws_FnFitsShapeNeeds
  simp only [add_nought]
  refine br_d (fun _ => ⟨by simp, Ext.refl _⟩) (fun _ => ?_)
  refine c_spec_DrawFitsShape hs fun e x c n w1 hx hn e1 => ⟨_, _, _, _, _, _, _, _, _, rfl, letW_i fun w2 hw2 => letW_i fun w3 hw3 => ?_⟩
  have e2 : Ext w1 w2 := by rw [hw2]; exact (Ext.refl w1).alloc _
  have e3 : Ext w2 w3 := by rw [hw3]; exact (Ext.refl w2).alloc _
  have ra : Row w2 w1.heap.size (cSh zeroSh) 31 := by rw [hw2]; exact Row.new w1 (cSh zeroSh) _
  have rb : Row w3 w2.heap.size (cN zeroN) 40 := by rw [hw3]; exact Row.new w2 (cN zeroN) _
  clear hw2 hw3
  have z2 := ra.lt
  have e13 := e2.trans e3
  have hx3 := (hx.mono (S' := fun k => k < w1.heap.size) fun k _ hlt => hlt).ext e13
  have hn3 := (hn.mono (S' := fun k => k < w1.heap.size) fun k _ hlt => hlt).ext e13
  refine row_set4c (ra.ext e3) fun w4 r4 c4 => ?_
  refine Row.set5 (rb.chg c4 (by omega)) fun w5 r5 c5 => ?_
  have rx : Row w5 w1.heap.size (cSh e) 31 := Row.chg (vs := cSh e) r4 c5 (by omega)
  have ry : Row w5 w2.heap.size (cN c) 40 := r5
  obtain ⟨p0, p1, p2, p3⟩ := Row.sh rx
  obtain ⟨q0, q1, q2, q3, q4⟩ := Row.nd ry
  rw [add_nought] at q0
  simp only [exI p0, exL p1, exL p2, exL p3, exI q0, exI q1, exS q2, exL q3, exL q4]
  have hx5 := ((hx3.chg c4 (by omega)).chg c5 (by omega)).mono (S' := fun _ => True) fun _ _ _ => trivial
  have hn5 := ((hn3.chg c4 (by omega)).chg c5 (by omega)).mono (S' := fun _ => True) fun _ _ _ => trivial
  have e05 : Ext w w5 := ((e1.trans e13).chg c4 (by have := e1.size; omega)).chg c5 (by have := e1.size; omega)
  refine (c_impl_FitsShape hx5 hn5).go fun w6 e6 => ⟨_, rfl, ?_⟩
  simp only [exI (e6.get p0), exL (e6.get p1), exL (e6.get p2), exL (e6.get p3), exI (e6.get q0), exI (e6.get q1), exS (e6.get q2), exL (e6.get q3), exL (e6.get q4)]
  refine (c_spec_FitsShape (hx5.ext e6) (hn5.ext e6)).go fun w7 e7 => ⟨_, rfl, br_f (by simp) ?_⟩
  have e57 := e6.trans e7
  have e07 := e05.trans e57
  have hx7 := hx5.ext e57
  have hn7 := hn5.ext e57
  simp only [exI (e57.get p0), exL (e57.get p1), exL (e57.get p2), exL (e57.get p3), exI (e57.get q0), exI (e57.get q1), exS (e57.get q2), exL (e57.get q3), exL (e57.get q4)]
  refine br_i (fun g => ?_) (fun g => ?_)
  · exact (c_spec_FitsShape hx7 hn7).go fun w8 e8 => ⟨_, rfl, by simp, e07.trans e8⟩
  have hf : fits x n = true := notf g
  obtain ⟨_, hnn, hbb, hnl, hbl, hkl, _⟩ := hx7.out
  obtain ⟨l3, l1, l2, l4⟩ := hx7.klen
  have hv : vSh 5 x = true := by simp only [fits, Bool.and_eq_true] at hf; exact hf.1.1
  obtain ⟨_, _, v6, v4, v5, _, _⟩ := vSh_out hv
  refine ⟨fun w' => Ext w7 w', fun w' h => h, fun w8 (e8 : Ext w7 w8) => ⟨e8, e.k, fun w' h => (e57.trans h).get p0, e8, e.sn, fun w' h => (e57.trans h).get p1, ?_⟩⟩
  have e58 := e57.trans e8
  simp only [exL (e58.get p1)]
  refine ⟨e8, ⟨by omega, by omega, by omega, by omega⟩, letW_i fun w9 hw9 => ?_⟩
  have e9 : Ext w8 w9 := by rw [hw9]; exact (Ext.refl w8).alloc _
  have r9 : Row w9 w8.heap.size ((List.replicate x.ns.length false).flatMap cB) 4 := by
    have : (List.replicate x.ns.length false).flatMap cB = List.replicate x.ns.length (.bool false) := by simp [cB, List.flatMap_replicate]
    rw [hw9, madeCells_eq, l1, Int.toNat_natCast, Nat.mul_one, this]
    exact Row.new w8 _ _
  clear hw9
  have e79 := e8.trans e9
  refine ⟨e79, e79, e.sk, fun w' h => (e57.trans h).get p3, e79, c.k, fun w' h => (e57.trans h).get q0, c.m, fun w' h => (e57.trans h).get q1, c.t, fun w' h => (e57.trans h).get q2, c.sn, fun w' h => (e57.trans h).get q3, c.sk, fun w' h => (e57.trans h).get q4, ?_⟩
  have hb9 : Bools w9 ⟨some ⟨w8.heap.size, 0, none⟩, (e.sn.len : Int).toNat, (e.sn.len : Int).toNat⟩ (List.replicate x.ns.length false) := by
    have := r9.slOf (cap := x.ns.length) (by simp)
    rw [List.length_replicate] at this
    rw [l1, Int.toNat_natCast]; exact this
  exact (c_impl_FitsShape ((hx7.ext e79).noNeeds hb9) (hn7.ext e79)).go fun w10 e10 => ⟨_, rfl, by rw [fits_noNeeds hf], (e07.trans e79).trans e10⟩
end Go.Proofs
