/-
  What functions of this seat compute, part 'StoreDraw3': contracts over their readable predicates. Conditions: each theorem's own hypotheses.
-/
import Derived.Test.YtiohmpihadcpaaaBase
import Derived.Test.YtiohmpihadcpaaaOpen
import Derived.Test.YtiohmpihadcpaaaGen
import Derived.Test.YtiohmpihadcpaaaCSmall
import Derived.Test.YtiohmpihadcpaaaCOrder
import Derived.Test.YtiohmpihadcpaaaCNode
import Derived.Test.YtiohmpihadcpaaaCNodeText
import Derived.Test.YtiohmpihadcpaaaCNodeValid
import Derived.Test.YtiohmpihadcpaaaCNodeSpec
import Derived.Test.YtiohmpihadcpaaaCHelpS
import Derived.Test.YtiohmpihadcpaaaCNodeHelp
import Derived.Test.YtiohmpihadcpaaaCNodeHelp2
import Derived.Test.YtiohmpihadcpaaaCNodeTop
import Derived.Test.YtiohmpihadcpaaaCCells
import Derived.Test.YtiohmpihadcpaaaCItem
import Derived.Test.YtiohmpihadcpaaaCItem2
import Derived.Test.YtiohmpihadcpaaaCStoreLaws
import Derived.Test.YtiohmpihadcpaaaCNodeCopy
import Derived.Test.YtiohmpihadcpaaaCNodeAdd
import Derived.Test.YtiohmpihadcpaaaCDraw
import Derived.Test.YtiohmpihadcpaaaCNodeDraw
import Derived.Test.YtiohmpihadcpaaaCNodeDraw2
import Derived.Test.YtiohmpihadcpaaaCNodeDraw3
import Derived.Test.YtiohmpihadcpaaaCStoreDraw
import Derived.Test.YtiohmpihadcpaaaCStoreDraw2
namespace Go.Proofs
open Go Go.Vc Go.RowKit
set_option maxRecDepth 100000
set_option linter.unusedVariables false
--! C:Small C:Order C:Node C:NodeText C:NodeValid C:NodeSpec C:HelpS C:NodeHelp C:NodeHelp2 C:NodeTop C:Cells C:Item C:Item2 C:StoreLaws C:NodeCopy C:NodeAdd C:Draw C:NodeDraw C:NodeDraw2 C:NodeDraw3 C:StoreDraw C:StoreDraw2
/-! ## Documents put and dropped -/

/-- A store given out. -/
theorem stOut {w : World} {R : Nat} {z0 z1 : Value} {T : TypeId} {l : Sl} {c : Int} {Φ : Sl → Int → World → Prop} (r : Row w R [z0, z1] T) (hk : ∀ w', Row w' R (cSt l c) T → Chg R w w' → Φ l c w') :
    Wr w (⟨R, 0, none⟩ : Addr) ∧ letW (w.setCell (⟨R, 0, none⟩ : Addr) (.slice l.a l.len l.cap)) (fun w1 => Wr w1 ((⟨R, 0, none⟩ : Addr).add 1) ∧ letW (w1.setCell ((⟨R, 0, none⟩ : Addr).add 1) (.int .i64 c)) (fun w2 => ∃ l1 : Sl, w2.cell? (⟨R, 0, none⟩ : Addr) = some (.slice l1.a l1.len l1.cap) ∧ ∃ n : Int, w2.cell? ((⟨R, 0, none⟩ : Addr).add 1) = some (.int .i64 n) ∧ Φ l1 n w2)) := by
  refine stSet r fun w' r' c' => ?_
  obtain ⟨o0, o1⟩ := Row.st r'
  simp only [exL o0, exI o1]
  exact hk w' r' c'

/-- What PutItem and DropItem give. -/
def Given (w : World) (v : Value) (w' : World) : Prop := ∃ (l' : Sl) (c' : Int) (b : Bool) (ys : List It), v = .tuple #[svE l' c', .bool b] ∧ IOwn w.heap.size w' l' ys ∧ (0 ≤ c' ∧ c' ≤ 1000 ∧ ys.length ≤ 1000) ∧ Ext w w'

theorem Given.zero {w w' : World} (e : Ext w w') : Given w (.tuple #[.agg #[.slice none 0 0, .int .i64 0], .bool false]) w' := ⟨⟨none, 0, 0⟩, 0, false, [], rfl, IOwn.nil _ _, by simp, e⟩

theorem c_spec_PutItem {S S' : Nat → Prop} {w : World} {l : Sl} {c : Int} {xs : List It} {cn : NdC} {n : Nd} (name : ByteArray) (hnm : name.size ≤ maxLen) (h : ItsAt S w l xs) (hn : NdAt S' w cn n) :
    CallR Try.prog 59 [svE l c, .string name, cn.v] w (Given w) := by
  refine fn_spec_PutItem _ _ _ _ _ _ _ _ _ _ ?_
  unfold g_spec_PutItem
  simp only [add_nought]
  refine stBox fun w1 e1 r1 => ndStart fun w2 e2 rn => letW_i fun w3 hw3 => ?_
  have e3 : Ext w2 w3 := by rw [hw3]; exact (Ext.refl w2).alloc _
  have ro : Row w3 w2.heap.size [.slice none 0 0, .int .i64 0] 29 := by rw [hw3]; exact Row.new w2 [.slice none 0 0, .int .i64 0] _
  clear hw3
  have e02 := e1.trans e2
  have e03 := e02.trans e3
  have r3 := (r1.ext e2).ext e3
  have rn3 := rn.ext e3
  have z1 := e02.size
  have zo := ro.lt
  obtain ⟨q0, q1⟩ := Row.st r3
  obtain ⟨p0, p1, p2, p3, p4⟩ := Row.nd rn3
  rw [add_nought] at p0
  simp only [exL q0, exI q1]
  have zero : ∀ w', Ext w3 w' → Wr w' (⟨w2.heap.size, 0, none⟩ : Addr) ∧ letW (w'.setCell (⟨w2.heap.size, 0, none⟩ : Addr) (.slice none 0 0)) (fun w9 => Wr w9 ((⟨w2.heap.size, 0, none⟩ : Addr).add 1) ∧ letW (w9.setCell ((⟨w2.heap.size, 0, none⟩ : Addr).add 1) (.int .i64 (0 : Int))) (fun w10 => ∃ l11 : Sl, w10.cell? (⟨w2.heap.size, 0, none⟩ : Addr) = some (.slice l11.a l11.len l11.cap) ∧ ∃ n12 : Int, w10.cell? ((⟨w2.heap.size, 0, none⟩ : Addr).add 1) = some (.int .i64 n12) ∧ Given w (.tuple #[.agg #[.slice l11.a l11.len l11.cap, .int .i64 n12], .bool false]) w10)) := fun w' e' =>
    stOut (l := ⟨none, 0, 0⟩) (Φ := fun l c w' => Given w (.tuple #[.agg #[.slice l.a l.len l.cap, .int .i64 c], .bool false]) w') (ro.ext e') fun w'' r'' c'' => Given.zero ((e03.trans e').chg c'' z1)
  refine (c_spec_validStore (h.ext e03)).go fun w4 e4 => ⟨_, rfl, br_i (fun g => zero w4 e4) (fun g => ?_)⟩
  have hv : vSt xs c = true := notf g
  refine (c_spec_validName name w4 hnm).go fun w5 e5 => ⟨_, rfl, br_i (fun g2 => zero w5 (e4.trans e5)) (fun g2 => ?_)⟩
  have e35 := e4.trans e5
  simp only [exI (e35.get p0), exI (e35.get p1), exS (e35.get p2), exL (e35.get p3), exL (e35.get p4)]
  refine (c_spec_validNode (hn.ext (e03.trans e35))).go fun w6 e6 => ⟨_, rfl, br_i (fun g3 => zero w6 (e35.trans e6)) (fun g3 => ?_)⟩
  have e36 := e35.trans e6
  have hvn : vNd n = true := notf g3
  simp only [exL (e36.get q0), exI (e36.get q1), exI (e36.get p0), exI (e36.get p1), exS (e36.get p2), exL (e36.get p3), exL (e36.get p4)]
  have e06 := e03.trans e36
  refine (c_spec_put name hnm (h.ext e06) hv (hn.ext e06) (shp_tm 5 n (vNd_shp hvn))).mono ?_
  rintro _ w7 ⟨l', ys, rfl, hL, e7⟩
  obtain ⟨v1, v2, v3⟩ := vSt_out hv
  refine ⟨_, _, rfl, stLocal fun w8 r8 e8 => ?_⟩
  obtain ⟨t0, t1⟩ := Row.st r8
  simp only [exL t0, exI t1]
  have hL8 := hL.ext e8
  have e38 := (e36.trans e7).trans e8
  refine (c_spec_validStore hL8.its).go fun w9 e9 => ⟨_, rfl, br_i (fun g4 => zero w9 (e38.trans e9)) (fun g4 => ?_)⟩
  simp only [exL (e9.get t0), exI (e9.get t1)]
  have e39 := e38.trans e9
  have z6 := e06.size
  have z36 := e36.size
  have hlen := hL.len
  refine stOut (Φ := fun l c w' => Given w (.tuple #[.agg #[.slice l.a l.len l.cap, .int .i64 c], .bool true]) w') (ro.ext e39) fun w10 r10 c10 => ⟨l', c + 1, true, ys, rfl, ((hL8.ext e9).chg c10 (by omega)).base_le z6, by omega, (e03.trans e39).chg c10 z1⟩

theorem c_spec_DropItem {S : Nat → Prop} {w : World} {l : Sl} {c : Int} {xs : List It} (name : ByteArray) (h : ItsAt S w l xs) :
    CallR Try.prog 62 [svE l c, .string name] w (Given w) := by
  refine fn_spec_DropItem _ _ _ _ _ ?_
  unfold g_spec_DropItem
  simp only [add_nought]
  refine stBox fun w1 e1 r1 => letW_i fun w3 hw3 => ?_
  have e3 : Ext w1 w3 := by rw [hw3]; exact (Ext.refl w1).alloc _
  have ro : Row w3 w1.heap.size [.slice none 0 0, .int .i64 0] 29 := by rw [hw3]; exact Row.new w1 [.slice none 0 0, .int .i64 0] _
  clear hw3
  have e03 := e1.trans e3
  have r3 := r1.ext e3
  have z1 := e1.size
  have zo := ro.lt
  obtain ⟨q0, q1⟩ := Row.st r3
  simp only [exL q0, exI q1]
  have zero : ∀ w', Ext w3 w' → Wr w' (⟨w1.heap.size, 0, none⟩ : Addr) ∧ letW (w'.setCell (⟨w1.heap.size, 0, none⟩ : Addr) (.slice none 0 0)) (fun w9 => Wr w9 ((⟨w1.heap.size, 0, none⟩ : Addr).add 1) ∧ letW (w9.setCell ((⟨w1.heap.size, 0, none⟩ : Addr).add 1) (.int .i64 (0 : Int))) (fun w10 => ∃ l11 : Sl, w10.cell? (⟨w1.heap.size, 0, none⟩ : Addr) = some (.slice l11.a l11.len l11.cap) ∧ ∃ n12 : Int, w10.cell? ((⟨w1.heap.size, 0, none⟩ : Addr).add 1) = some (.int .i64 n12) ∧ Given w (.tuple #[.agg #[.slice l11.a l11.len l11.cap, .int .i64 n12], .bool false]) w10)) := fun w' e' =>
    stOut (l := ⟨none, 0, 0⟩) (Φ := fun l c w' => Given w (.tuple #[.agg #[.slice l.a l.len l.cap, .int .i64 c], .bool false]) w') (ro.ext e') fun w'' r'' c'' => Given.zero ((e03.trans e').chg c'' z1)
  refine (c_spec_validStore (h.ext e03)).go fun w4 e4 => ⟨_, rfl, br_i (fun g => zero w4 e4) (fun g => ?_)⟩
  have hv : vSt xs c = true := notf g
  obtain ⟨v1, v2, v3⟩ := vSt_out hv
  simp only [exL (e4.get q0), exI (e4.get q1)]
  refine (c_spec_find name (h.ext (e03.trans e4))).mono ?_
  rintro _ w5 ⟨⟨k, rfl⟩, e5⟩
  have e35 := e4.trans e5
  refine ⟨_, rfl, br_i (fun g2 => zero w5 e35) (fun g2 => ?_)⟩
  simp only [exL (e35.get q0), exI (e35.get q1)]
  refine br_i (fun g3 => zero w5 e35) (fun g3 => ?_)
  have e05 := e03.trans e35
  refine (c_spec_drop name (h.ext e05) hv).mono ?_
  rintro _ w6 ⟨l', ys, rfl, hL, e6⟩
  have z5 := e05.size
  have z35 := e35.size
  have hlen := hL.len
  refine ⟨_, _, rfl, stOut (Φ := fun l c w' => Given w (.tuple #[.agg #[.slice l.a l.len l.cap, .int .i64 c], .bool true]) w') ((ro.ext e35).ext e6) fun w7 r7 c7 => ⟨l', c + 1, true, ys, rfl, (hL.chg c7 (by omega)).base_le z5, by omega, (e05.trans e6).chg c7 z1⟩⟩

theorem c_spec_itemName {w : World} {b : Nat} {bs : List UInt8} {B : Nat} (h : Rd w b bs B) (hB : B ≤ 1000000000) :
    CallR Try.prog 60 [.pointer (some ⟨b, 0, none⟩)] w (fun v w' => (∃ s : ByteArray, v = .string s ∧ s.size ≤ maxLen) ∧ Rd w' b bs (B + 1) ∧ Chg b w w') := by
  refine fn_spec_itemName _ _ _ ?_
  unfold g_spec_itemName
  have hlt := h.lt
  refine letW_i fun w1 hw1 => ?_
  have e1 : Ext w w1 := by rw [hw1]; exact (Ext.refl w).alloc _
  have r1 : Row w1 w.heap.size (([⟨#[97]⟩, ⟨#[98]⟩, ⟨#[100, 111, 99]⟩, ⟨#[122, 122]⟩, ⟨#[97, 49]⟩, ⟨#[109]⟩, ⟨#[120, 57]⟩, ⟨#[98, 111, 111, 107]⟩, ⟨#[97, 98, 99, 100, 101, 102, 103, 104]⟩, ⟨#[113]⟩] : List ByteArray).flatMap cS) 9 := by rw [hw1]; exact Row.new w _ _
  clear hw1
  refine (c_spec_reader_of (h.ext e1) (by omega) (r1.slOf (cap := 10) (by simp)) (apart_new (by omega)) (by simp) (by simp)).mono ?_
  rintro _ w2 ⟨⟨s, hs, rfl⟩, h2, c2⟩
  refine ⟨_, rfl, ⟨s, rfl, ?_⟩, h2, (Chg.of_ext e1).trans c2⟩
  simp only [List.mem_cons, List.not_mem_nil, or_false] at hs
  rcases hs with rfl | rfl | rfl | rfl | rfl | rfl | rfl | rfl | rfl | rfl <;> decide

theorem c_spec_badName {w : World} {b : Nat} {bs : List UInt8} {B : Nat} (h : Rd w b bs B) (hB : B ≤ 1000000000) :
    CallR Try.prog 48 [.pointer (some ⟨b, 0, none⟩)] w (fun v w' => (∃ s : ByteArray, v = .string s ∧ s.size ≤ maxLen) ∧ Rd w' b bs (B + 1) ∧ Chg b w w') := by
  refine fn_spec_badName _ _ _ ?_
  unfold g_spec_badName
  have hlt := h.lt
  refine letW_i fun w1 hw1 => ?_
  have e1 : Ext w w1 := by rw [hw1]; exact (Ext.refl w).alloc _
  have r1 : Row w1 w.heap.size (([⟨#[]⟩, ⟨#[65]⟩, ⟨#[97, 98, 99, 100, 101, 102, 103, 104, 105]⟩, ⟨#[97, 32, 98]⟩, ⟨#[97]⟩] : List ByteArray).flatMap cS) 9 := by rw [hw1]; exact Row.new w _ _
  clear hw1
  refine (c_spec_reader_of (h.ext e1) (by omega) (r1.slOf (cap := 5) (by simp)) (apart_new (by omega)) (by simp) (by simp)).mono ?_
  rintro _ w2 ⟨⟨s, hs, rfl⟩, h2, c2⟩
  refine ⟨_, rfl, ⟨s, rfl, ?_⟩, h2, (Chg.of_ext e1).trans c2⟩
  simp only [List.mem_cons, List.not_mem_nil, or_false] at hs
  rcases hs with rfl | rfl | rfl | rfl | rfl <;> decide

/-! ### Lists in a set of blocks -/

structure IS (S : Nat → Prop) (w : World) (l : Sl) (xs : List It) : Prop where
  ex : ∃ cs : List ItC, Own 0 52 7 w l (cs.flatMap cIt) ∧ (∀ k, l.v.ownBlock = some k → S k) ∧ cs.length = xs.length ∧ ∀ (i : Nat) d x, cs[i]? = some d → xs[i]? = some x → NdAt (fun k => S k ∧ l.v.ownBlock ≠ some k) w d.2.2 x.2.2 ∧ d.1 = x.1 ∧ d.2.1 = x.2.1
  len : xs.length ≤ 1001
  sz : ∀ x ∈ xs, x.1.size ≤ maxLen

theorem IOwn.is {base : Nat} {w : World} {l : Sl} {xs : List It} (h : IOwn base w l xs) : IS (fun k => base ≤ k ∧ k < w.heap.size) w l xs := by
  obtain ⟨⟨cs, o, hl, hkk⟩, h1, h2⟩ := h
  exact ⟨⟨cs, o.base_le (Nat.zero_le _), fun k e => o.lt k e, hl, fun i d x hd hx => ⟨(hkk i d x hd hx).1.mono fun k hf hlt => ⟨⟨hf.1, hlt⟩, hf.2⟩, (hkk i d x hd hx).2⟩⟩, by omega, h2⟩

theorem IS.keep {S : Nat → Prop} {w w' : World} {l : Sl} {xs : List It} (h : IS S w l xs) (hk : ∀ k, S k → k < w.heap.size → w'.heap[k]? = w.heap[k]?) : IS S w' l xs := by
  obtain ⟨⟨cs, o, ho, hl, hkk⟩, h1, h2⟩ := h
  exact ⟨⟨cs, o.keepI fun k e => hk k (ho k e) (o.lt k e).2, ho, hl, fun i d x hd hx => ⟨(hkk i d x hd hx).1.keep fun k hf hlt => hk k hf.1 hlt, (hkk i d x hd hx).2⟩⟩, h1, h2⟩
theorem IS.ext {S : Nat → Prop} {w w' : World} {l : Sl} {xs : List It} (h : IS S w l xs) (e : Ext w w') : IS S w' l xs := h.keep fun k _ hlt => e.block k hlt
theorem IS.chg {S : Nat → Prop} {w w' : World} {l : Sl} {xs : List It} {b : Nat} (h : IS S w l xs) (c : Chg b w w') (hb : ¬ S b) : IS S w' l xs :=
  h.keep fun k hk hlt => c.block k hlt fun e => hb (by
    have : k = b := by simpa using e
    rw [← this]; exact hk)
theorem IS.mono {S S' : Nat → Prop} {w : World} {l : Sl} {xs : List It} (h : IS S w l xs) (hs : ∀ k, S k → S' k) : IS S' w l xs := by
  obtain ⟨⟨cs, o, ho, hl, hkk⟩, h1, h2⟩ := h
  exact ⟨⟨cs, o, fun k e => hs k (ho k e), hl, fun i d x hd hx => ⟨(hkk i d x hd hx).1.mono fun k hf _ => ⟨hs k hf.1, hf.2⟩, (hkk i d x hd hx).2⟩⟩, h1, h2⟩
theorem IS.its {S : Nat → Prop} {w : World} {l : Sl} {xs : List It} (h : IS S w l xs) : ItsAt S w l xs := by
  obtain ⟨⟨cs, o, ho, hl, hk⟩, h1, h2⟩ := h
  exact ⟨⟨cs, o.slOf cIt_len (by decide), hl, fun i d x hd hx => ⟨(hk i d x hd hx).1.mono fun k hf _ => hf.1, (hk i d x hd hx).2⟩⟩, by unfold maxLen; omega, h2⟩
end Go.Proofs
