/-
  What functions of this seat compute, part 'NodeDraw': contracts over their readable predicates. Conditions: each theorem's own hypotheses.
-/
import Derived.Test.YtiohmpihadcpaaaBase
import Derived.Test.YtiohmpihadcpaaaOpen
import Derived.Test.YtiohmpihadcpaaaGen
import Derived.Test.YtiohmpihadcpaaaCSmall
import Derived.Test.YtiohmpihadcpaaaCOrder
import Derived.Test.YtiohmpihadcpaaaCNode
import Derived.Test.YtiohmpihadcpaaaCNodeText
import Derived.Test.YtiohmpihadcpaaaCNodeValid
import Derived.Test.YtiohmpihadcpaaaCNodeSpec
import Derived.Test.YtiohmpihadcpaaaCHelpS
import Derived.Test.YtiohmpihadcpaaaCNodeHelp
import Derived.Test.YtiohmpihadcpaaaCNodeHelp2
import Derived.Test.YtiohmpihadcpaaaCNodeTop
import Derived.Test.YtiohmpihadcpaaaCNodeCopy
import Derived.Test.YtiohmpihadcpaaaCNodeAdd
import Derived.Test.YtiohmpihadcpaaaCDraw
namespace Go.Proofs
open Go Go.Vc Go.RowKit
set_option maxRecDepth 100000
set_option linter.unusedVariables false
--! C:Small C:Order C:Node C:NodeText C:NodeValid C:NodeSpec C:HelpS C:NodeHelp C:NodeHelp2 C:NodeTop C:NodeCopy C:NodeAdd C:Draw
/-! ## Draws of nodes -/

theorem outNd {w : World} {b : Nat} {z0 z1 z2 z3 z4 : Value} {e : TypeId} {d : NdC} {Φ : Value → World → Prop} (r : Row w b [z0, z1, z2, z3, z4] e) (hk : ∀ w', Row w' b (cN d) e → Chg b w w' → Φ d.v w') :
    Wr w (⟨b, 0, none⟩ : Addr) ∧ letW (w.setCell (⟨b, 0, none⟩ : Addr) (.int .i64 d.k)) (fun w2 => Wr w2 ((⟨b, 0, none⟩ : Addr).add 1) ∧
      letW (w2.setCell ((⟨b, 0, none⟩ : Addr).add 1) (.int .i64 d.m)) (fun w3 => Wr w3 ((⟨b, 0, none⟩ : Addr).add 2) ∧ letW (w3.setCell ((⟨b, 0, none⟩ : Addr).add 2) (.string d.t))
        (fun w4 => Wr w4 ((⟨b, 0, none⟩ : Addr).add 3) ∧ letW (w4.setCell ((⟨b, 0, none⟩ : Addr).add 3) (.slice d.sn.a d.sn.len d.sn.cap))
          (fun w5 => Wr w5 ((⟨b, 0, none⟩ : Addr).add 4) ∧ letW (w5.setCell ((⟨b, 0, none⟩ : Addr).add 4) (.slice d.sk.a d.sk.len d.sk.cap))
            (fun w6 => ∃ n0 : Int, w6.cell? ((⟨b, 0, none⟩ : Addr).add 0) = some (.int .i64 n0) ∧ ∃ n1 : Int, w6.cell? ((⟨b, 0, none⟩ : Addr).add 1) = some (.int .i64 n1) ∧ ∃ s2 : ByteArray, w6.cell? ((⟨b, 0, none⟩ : Addr).add 2) = some (.string s2) ∧
              ∃ l3 : Sl, w6.cell? ((⟨b, 0, none⟩ : Addr).add 3) = some (.slice l3.a l3.len l3.cap) ∧ ∃ l4 : Sl, w6.cell? ((⟨b, 0, none⟩ : Addr).add 4) = some (.slice l4.a l4.len l4.cap) ∧
                Φ (.agg #[.int .i64 n0, .int .i64 n1, .string s2, .slice l3.a l3.len l3.cap, .slice l4.a l4.len l4.cap]) w6))))) :=
  Row.set5 r fun w' r' c' => by
    obtain ⟨f0, f1, f2, f3, f4⟩ := Row.nd (c := d) r'
    exact ⟨_, f0, _, f1, _, f2, d.sn, f3, d.sk, f4, hk w' r' c'⟩

theorem Chg.fresh {b g : Nat} {a w w' : World} (h : Chg b a w) (hc : Chg g w w') (hg : a.heap.size ≤ g) : Chg b a w' :=
  ⟨hc.os.trans h.os, hc.tape.trans h.tape, hc.output.trans h.output, Nat.le_trans h.size hc.size, fun i hi hn => (hc.block i (Nat.lt_of_lt_of_le hi h.size) (fun e => by have := Option.some.inj e; omega)).trans (h.block i hi hn)⟩

theorem Chg.freshRow {b : Nat} {a w w' : World} {row : Option Nat} (h : Chg b a w) (hc : w.grownBy w' row) (hg : ∀ k, row = some k → a.heap.size ≤ k) : Chg b a w' :=
  ⟨hc.os.trans h.os, hc.tape.trans h.tape, hc.output.trans h.output, Nat.le_trans h.size hc.size, fun i hi hn => (hc.block i (Nat.lt_of_lt_of_le hi h.size) (fun e => by have := hg i e.symm; omega)).trans (h.block i hi hn)⟩

theorem KidsAt.push2 {base m : Nat} {w : World} {l : Sl} {ks : List Nd} {d : NdC} {x : Nd} {K : Sl → World → Prop} (h : KidsAt base w l ks) (ht : NdAt (fun k => m ≤ k) w d x) (hm : ∀ k, l.v.ownBlock = some k → k < m) (hbm : base ≤ m) (hb : base ≤ w.heap.size) (hn : ks.length ≤ 2000)
    (hk : ∀ s' w', KidsAt base w' s' (ks ++ [x]) → Ext w (w.alloc (.cells (cN d).toArray 50)) → (w.alloc (.cells (cN d).toArray 50)).grownBy w' l.v.ownBlock → K s' w') :
    letW (w.alloc (.cells #[.int .i64 d.k, .int .i64 d.m, .string d.t, .slice d.sn.a d.sn.len d.sn.cap, .slice d.sk.a d.sk.len d.sk.cap] 50)) (fun w5 => sAppend 50 5 80 ⟨l.a, l.len, l.cap⟩ ⟨some (⟨w.heap.size, 0, none⟩ : Addr), 1, 1⟩ w5 K) := by
  have r : Row (w.alloc (.cells (cN d).toArray 50)) w.heap.size (cN d) 50 := Row.new w (cN d) _
  have e5 : Ext w (w.alloc (.cells (cN d).toArray 50)) := (Ext.refl w).alloc _
  have z5 := e5.size
  refine KidsAt.append (es := [d]) (qs := [x]) (l := l) (KidsAt.ext h e5) (Src.row r (by simp [cN]) (by simpa using cN_one d)) rfl rfl ?_ (Nat.le_trans hb z5) (by simp; omega) (fun s' w' hk' hg _ _ => hk s' w' hk' e5 hg)
  intro i d' y hi hy
  have : i = 0 := by have := (List.getElem?_eq_some_iff.1 hi).1; simp at this; omega
  subst this
  simp at hi hy
  subst hi hy
  exact (ht.mono (S' := fun k => base ≤ k ∧ l.v.ownBlock ≠ some k) fun k hk _ => ⟨by omega, fun e => by have := hm k e; omega⟩).ext e5

/-- A leaf. -/
theorem Dn.leaf (base : Nat) (w : World) (k m : Int) (t : ByteArray) (ht : t.size ≤ maxLen) : Dn base w ⟨k, m, t, ⟨none, 0, 0⟩, ⟨none, 0, 0⟩⟩ (.mk k m t [] []) :=
  ⟨Own.nil w _ 1 _, NdAt.mk _ [] [] [] (SlOf.nil cS w) (SlOf.nil cN w) rfl (fun h => absurd rfl h) (fun h => absurd rfl h) ⟨ht, Nat.zero_le _, Nat.zero_le _, by simp⟩ (fun _ => rfl) (fun i d x h => by simp at h), rfl, by rw [tm_eq]; rfl, by intro x hx; cases hx⟩

theorem c_spec_someText {w : World} {b : Nat} {bs : List UInt8} {B : Nat} (h : Rd w b bs B) (hB : B ≤ 549755813888) :
    CallR Try.prog 88 [.pointer (some ⟨b, 0, none⟩)] w (fun v w' => (∃ x : ByteArray, v = .string x ∧ x.size ≤ 12) ∧ Rd w' b bs (B + 1) ∧ Chg b w w') := by
  refine fn_spec_someText _ _ _ ?_
  unfold g_spec_someText
  refine letW_i fun w1 hw1 => ?_
  have e1 : Ext w w1 := by rw [hw1]; exact (Ext.refl w).alloc _
  have hlt := h.lt
  have r1 : Row w1 w.heap.size (([⟨#[97]⟩, ⟨#[98]⟩, ⟨#[]⟩, ⟨#[97, 98, 99]⟩, ⟨#[97, 47, 98]⟩, ⟨#[126]⟩, ⟨#[120, 32, 121]⟩, ⟨#[34, 113, 34]⟩, ⟨#[98, 97, 99, 107, 92, 115]⟩, ⟨#[48]⟩, ⟨#[49]⟩, ⟨#[97, 98, 99, 100, 101, 102, 103, 104, 105, 106, 107, 108]⟩] : List ByteArray).flatMap cS) 9 := by rw [hw1]; exact Row.new w _ _
  refine (c_spec_reader_of (h.ext e1) (by omega) (r1.slOf (cap := 12) (by simp)) (apart_new (by omega)) (by simp) (by simp)).mono ?_
  rintro _ w2 ⟨⟨x, hx, rfl⟩, h2, c2⟩
  refine ⟨_, rfl, ⟨x, rfl, ?_⟩, h2, (Chg.of_ext e1).trans c2⟩
  simp only [List.mem_cons, List.not_mem_nil, or_false] at hx
  rcases hx with rfl | rfl | rfl | rfl | rfl | rfl | rfl | rfl | rfl | rfl | rfl | rfl <;> decide

theorem c_spec_someName {w : World} {b : Nat} {bs : List UInt8} {B : Nat} (h : Rd w b bs B) (hB : B ≤ 549755813888) :
    CallR Try.prog 89 [.pointer (some ⟨b, 0, none⟩)] w (fun v w' => (∃ x : ByteArray, v = .string x ∧ x.size ≤ 12) ∧ Rd w' b bs (B + 1) ∧ Chg b w w') := by
  refine fn_spec_someName _ _ _ ?_
  unfold g_spec_someName
  refine letW_i fun w1 hw1 => ?_
  have e1 : Ext w w1 := by rw [hw1]; exact (Ext.refl w).alloc _
  have hlt := h.lt
  have r1 : Row w1 w.heap.size (([⟨#[97]⟩, ⟨#[98]⟩, ⟨#[99]⟩, ⟨#[100]⟩, ⟨#[97, 47, 98]⟩, ⟨#[126, 120]⟩, ⟨#[]⟩, ⟨#[107]⟩] : List ByteArray).flatMap cS) 9 := by rw [hw1]; exact Row.new w _ _
  refine (c_spec_reader_of (h.ext e1) (by omega) (r1.slOf (cap := 8) (by simp)) (apart_new (by omega)) (by simp) (by simp)).mono ?_
  rintro _ w2 ⟨⟨x, hx, rfl⟩, h2, c2⟩
  refine ⟨_, rfl, ⟨x, rfl, ?_⟩, h2, (Chg.of_ext e1).trans c2⟩
  simp only [List.mem_cons, List.not_mem_nil, or_false] at hx
  rcases hx with rfl | rfl | rfl | rfl | rfl | rfl | rfl | rfl <;> decide

def RN (M d : Nat) : Prop := ∀ (w : World) (b : Nat) (bs : List UInt8) (B : Nat), Rd w b bs B → B ≤ M →
  CallR Try.prog 81 [.pointer (some ⟨b, 0, none⟩), .int .i64 (d : Int)] w (fun v w' => (∃ c n, v = NdC.v c ∧ Dn w.heap.size w' c n) ∧ Rd w' b bs (B + 10 ^ (d + 1)) ∧ Chg b w w')

set_option maxHeartbeats 4000000 in
theorem c_randomMap_of {d M : Nat} (hM : M ≤ 2000000000) (hp : 10 ^ (d + 1) ≤ 1000000) (hd : d ≤ 100) (ih : RN M d) {w : World} {b : Nat} {bs : List UInt8} {B : Nat} (h : Rd w b bs B) (hB : B + 10000000 ≤ M) {Φ : Value → World → Prop}
    (hk : ∀ c n w', Dn w.heap.size w' c n → Rd w' b bs (B + 5 + 4 * 10 ^ (d + 1)) → Chg b w w' → Φ (NdC.v c) w') : CallR Try.prog 82 [.pointer (some ⟨b, 0, none⟩), .int .i64 ((d + 1 : Nat) : Int)] w Φ := by
  refine fn_spec_randomMap _ _ _ _ ?_
  unfold g_spec_randomMap
  have hlt := h.lt
  generalize hpp : 10 ^ (d + 1) = p at hp hk
  refine letW_i fun w1 hw1 => letW_i fun w2 hw2 => letW_i fun w3 hw3 => letW_i fun w4 hw4 => ?_
  have e1 : Ext w w1 := by rw [hw1]; exact (Ext.refl w).alloc _
  have e2 : Ext w1 w2 := by rw [hw2]; exact (Ext.refl w1).alloc _
  have e3 : Ext w2 w3 := by rw [hw3]; exact (Ext.refl w2).alloc _
  have e4 : Ext w3 w4 := by rw [hw4]; exact (Ext.refl w3).alloc _
  have ra : Row w1 w.heap.size (cN zeroN) 50 := by rw [hw1]; exact Row.new w (cN zeroN) _
  have on : Own w1.heap.size 9 1 w2 ⟨some ⟨w1.heap.size, 0, none⟩, 0, 0⟩ [] := by rw [hw2]; exact Own.fresh w1 _ 1 _ (Nat.le_refl _)
  have s12 : w2.heap.size = w1.heap.size + 1 := by rw [hw2]; simp
  have ok : KidsAt w2.heap.size w3 ⟨some ⟨w2.heap.size, 0, none⟩, 0, 0⟩ [] := by rw [hw3]; exact KidsAt.nil (Nat.le_refl _)
  have rb : Row w4 w3.heap.size (cN zeroN) 50 := by rw [hw4]; exact Row.new w3 (cN zeroN) _
  clear hw1 hw2 hw3 hw4
  have z1 := ra.lt
  have z3 := e3.size
  have z4 := rb.lt
  refine Row.set5 rb fun w9 r9 c9 => letW_i fun w10 hw10 => ?_
  have e49 : Ext w3 w9 := e4.chg c9 (Nat.le_refl _)
  have e10 : Ext w9 w10 := by rw [hw10]; exact (Ext.refl w9).alloc _
  have r10 : Row w10 w9.heap.size (([2, 3, 1, 0, 4] : List Int).flatMap cI) 3 := by rw [hw10]; exact Row.new w9 _ _
  clear hw10
  have e39 := e49.trans e10
  have e110 := (e2.trans e3).trans e39
  have e010 := e1.trans e110
  have z9 := e49.size
  have z10 := e10.size
  have dn0 : Dn w1.heap.size w10 ⟨4, 0, ⟨#[]⟩, ⟨some ⟨w1.heap.size, 0, none⟩, 0, 0⟩, ⟨some ⟨w2.heap.size, 0, none⟩, 0, 0⟩⟩ (.mk 4 0 ⟨#[]⟩ [] []) := by
    refine Dn.ext ?_ e39
    refine ⟨on.ext e3, NdAt.mk _ [] [] [] (SlOf.nil cS _) ((ok.nd.2.2).elim fun ds hds => by
      have : ds = [] := List.eq_nil_of_length_eq_zero (by simpa using hds.2.1)
      rw [this] at hds; exact hds.1) rfl (fun h => absurd rfl h) (fun h => absurd rfl h) ⟨Nat.zero_le _, Nat.zero_le _, Nat.zero_le _, by simp⟩ (fun _ => rfl) (fun i d x h => by simp at h), rfl, by rw [tm_eq]; rfl, by intro x hx; cases hx⟩
  refine (c_spec_reader_one (h.ext e010) (by omega) (r10.slOf (cap := 5) (by simp)) (apart_new (by omega)) (by simp) (by simp)).mono ?_
  rintro _ w12 ⟨⟨m0, hm0, rfl⟩, h12, c12⟩
  obtain ⟨m, rfl, hm⟩ : ∃ m : Nat, m0 = m ∧ m ≤ 4 := by
    have : 0 ≤ m0 ∧ m0 ≤ 4 := by simp at hm0; omega
    exact ⟨m0.toNat, by omega, by omega⟩
  refine ⟨_, rfl, ?_⟩
  have z010 := e010.size
  have hmul : m * (1 + p) ≤ 4 * (1 + p) := Nat.mul_le_mul_right _ hm
  refine sLoop_down m (fun k t w' => Chg b w w' ∧ Row w' w.heap.size (cN zeroN) 50 ∧ ∃ B', Rd w' b bs B' ∧ B' + k * (1 + p) ≤ B + 1 + 4 * (1 + p) ∧
    ∃ c n, Row w' w3.heap.size (cN c) 50 ∧ Dn w1.heap.size w' c n ∧ n.k = 4 ∧ n.ns.length = n.ks.length ∧ n.ks.length + k ≤ 4) ⟨(Chg.of_ext e010).trans c12, (ra.ext e110).chg c12 (by omega), B + 1, h12, by omega, _, _, (Row.ext (b := w3.heap.size) (vs := cN ⟨4, 0, ⟨#[]⟩, ⟨some ⟨w1.heap.size, 0, none⟩, 0, 0⟩, ⟨some ⟨w2.heap.size, 0, none⟩, 0, 0⟩⟩) r9 e10).chg c12 (by omega), dn0.chg c12 (by omega), rfl, rfl, by simpa [Nd.ks] using hm⟩ ?_ ?_
  · rintro K k t w16 hkm ⟨hc, hra, B', hR, hB', c, n, hrb, hdn, h4, hl0, hkk⟩ hK _
    have hbb := hR.lt
    have zb := hrb.lt
    have hsm : (k + 1) * (1 + p) = k * (1 + p) + (1 + p) := Nat.succ_mul k (1 + p)
    refine br_dt (by first | omega | (simp only; omega)) ((c_spec_someName hR (by omega)).mono ?_)
    rintro _ w19 ⟨⟨name, rfl, hname⟩, h19, c19⟩
    have zc19 := c19.size
    have hlev : (((d + 1 : Nat) : Int)) - 1 = (d : Int) := by omega
    rw [hlev]
    refine ⟨_, rfl, inR_i64 (by omega) (by omega), (ih w19 b bs (B' + 1) h19 (by omega)).mono ?_⟩
    rintro _ w22 ⟨⟨cx, x, rfl, hx⟩, h22, c22⟩
    rw [hpp] at h22
    have zc22 := c22.size
    refine ⟨_, _, _, _, _, rfl, local5 fun w33 r33 e33 => ?_⟩
    have c1622 := c19.trans c22
    have rb22 : Row w22 w3.heap.size (cN c) 50 := hrb.chg c1622 (by omega)
    have ra22 : Row w22 w.heap.size (cN zeroN) 50 := hra.chg c1622 (by omega)
    have dn22 := hdn.chg c1622 (by omega)
    obtain ⟨f0, f1, f2, f3, f4⟩ := Row.nd (rb22.ext e33)
    obtain ⟨q0, q1, q2, q3, q4⟩ := Row.nd (c := cx) r33
    simp only [exI f0, exI f1, exS f2, exL f3, exL f4]
    have dn33 := dn22.ext e33
    refine (c_spec_place name dn33.nd h4 hl0).mono ?_
    rintro _ w40 ⟨hv, e40⟩
    have e2240 := e33.trans e40
    have c040 := (hc.trans c1622).trans (Chg.of_ext e2240)
    have h40 := h22.ext e2240
    have hBk : B' + 1 + p + k * (1 + p) ≤ B + 1 + 4 * (1 + p) := by omega
    rcases hv with ⟨i, rfl, _, _⟩ | ⟨rfl, hno⟩
    · exact ⟨_, rfl, br_df (by omega) ⟨inR_i64 (by omega) (by omega), hK _ _ ⟨c040, ra22.ext e2240, _, h40, hBk, c, n, rb22.ext e2240, dn22.ext e2240, h4, hl0, by omega⟩⟩⟩
    refine ⟨_, rfl, br_dt (by omega) ?_⟩
    simp only [exI (e40.get f0), exI (e40.get f1), exS (e40.get f2), exL (e40.get f3), exL (e40.get f4), exI (e40.get q0), exI (e40.get q1), exS (e40.get q2), exL (e40.get q3), exL (e40.get q4)]
    have dn40 := dn33.ext e40
    refine (c_spec_addHere name dn40.nd (hx.ext e2240).nd h4 hl0 hno hdn.tame hx.tame (by omega) (by unfold maxLen; omega)).mono ?_
    rintro _ w53 ⟨⟨dd, y, rfl, hy, hy4, hyl, hyk⟩, e53⟩
    have z40 := e2240.size
    have e2253 := e2240.trans e53
    refine ⟨_, _, _, _, _, _, rfl, Row.set5 (rb22.ext e2253) fun w64 r64 c64 => ⟨inR_i64 (by omega) (by omega), hK _ _ ⟨?_, (ra22.ext e2253).chg c64 (by omega), B' + 1 + p, ?_, hBk, dd, y, r64, (hy.chg c64 (by omega)).base_le (by omega), hy4, hyl, by omega⟩⟩⟩
    · have c053 := (hc.trans c1622).trans (Chg.of_ext e2253)
      exact Chg.fresh c053 c64 (by omega)
    · exact (h22.ext e2253).grown c64 (fun k hk => by have := Option.some.inj hk; omega)
  · rintro K t w16 ⟨hc, hra, B', hR, hB', c, n, hrb, hdn, h4, hl0, hkk⟩ _
    obtain ⟨f0, f1, f2, f3, f4⟩ := Row.nd hrb
    refine br_df (by first | omega | (simp only; omega)) ?_
    simp only [exI f0, exI f1, exS f2, exL f3, exL f4]
    refine outNd (d := c) hra fun w' r' c' => hk c n w' ((hdn.chg c' z1).base_le (by omega)) ?_ ?_
    · exact (hR.grown c' (fun k hk => by have := Option.some.inj hk; omega)).mono (by omega)
    · exact Chg.fresh hc c' (Nat.le_refl _)

set_option maxHeartbeats 4000000 in
theorem c_randomNode_0 : RN 2000000000 0 := by
  intro w b bs B h hB
  suffices H : ∀ Φ : Value → World → Prop, (∀ c n w', Dn w.heap.size w' c n → Rd w' b bs (B + 10 ^ (0 + 1)) → Chg b w w' → Φ (NdC.v c) w') → g_spec_randomNode ⟨b, 0, none⟩ ((0 : Nat) : Int) w Φ from
    fn_spec_randomNode _ _ _ _ (H _ fun c n w' h1 h2 h3 => ⟨⟨c, n, rfl, h1⟩, h2, h3⟩)
  intro Φ hk0
  unfold g_spec_randomNode
  have hlt := h.lt
  simp only [beqI]
  refine letW_i fun w1 hw1 => ?_
  have e1 : Ext w w1 := by rw [hw1]; exact (Ext.refl w).alloc _
  have ra : Row w1 w.heap.size (cN zeroN) 50 := by rw [hw1]; exact Row.new w (cN zeroN) _
  clear hw1
  have z1 := ra.lt
  refine (c_spec_reader_pick _ (h.ext e1) (by omega) (by omega)).mono ?_
  rintro _ w3 ⟨⟨k3, rfl, hk3⟩, h3, c3⟩
  have ra3 := ra.chg c3 (by omega)
  have c03 := (Chg.of_ext e1).trans c3
  refine ⟨_, rfl, br_dt (by omega) ?_⟩
  refine (c_spec_reader_pick _ h3 (by omega) (by omega)).mono ?_
  rintro _ w6 ⟨⟨k6, rfl, hk6⟩, h6, c6⟩
  have hk6' := hk6 (by omega)
  have ra6 := ra3.chg c6 (by omega)
  have c06 := c03.trans c6
  refine ⟨_, rfl, ?_⟩
  refine br_d (fun g1 => ?_) (fun g1 => br_d (fun g2 => ?_) (fun g2 => br_d (fun g3 => ?_) (fun g3 => br_d (fun g4 => ?_) (fun g4 => ?_))))
  · refine (c_spec_reader_pick _ h6 (by omega) (by omega)).mono ?_
    rintro _ w9 ⟨⟨k9, rfl, hk9⟩, h9, c9⟩
    refine ⟨_, rfl, letW_i fun w11 hw11 => ?_⟩
    have e11 : Ext w9 w11 := by rw [hw11]; exact (Ext.refl w9).alloc _
    have r11 : Row w11 w9.heap.size (([0, 1, 2, 7, -7, 999999, -999999, (k9 : Int)] : List Int).flatMap cI) 3 := by rw [hw11]; exact Row.new w9 _ _
    have hb9 := h9.lt
    refine (c_spec_reader_one (h9.ext e11) (by omega) (r11.slOf (cap := 8) (by simp)) (apart_new (by omega)) (by simp) (by simp)).mono ?_
    rintro _ w13 ⟨⟨x13, hx13, rfl⟩, h13, c13⟩
    have cc := (c9.trans (Chg.of_ext e11)).trans c13
    refine ⟨_, rfl, outNd (d := ⟨(k6 : Int), x13, ⟨#[]⟩, ⟨none, 0, 0⟩, ⟨none, 0, 0⟩⟩) (ra6.chg cc (by omega)) fun w' r' c' => hk0 _ _ w' (Dn.leaf _ _ _ _ _ (Nat.zero_le _)) ?_ ?_⟩
    · exact (h13.grown c' (fun k hk => by have := Option.some.inj hk; omega)).mono (by omega)
    · exact Chg.fresh (c06.trans cc) c' (Nat.le_refl _)
  · refine (c_spec_someText h6 (by omega)).mono ?_
    rintro _ w9 ⟨⟨x9, rfl, hx9⟩, h9, c9⟩
    refine ⟨_, rfl, outNd (d := ⟨(k6 : Int), 0, x9, ⟨none, 0, 0⟩, ⟨none, 0, 0⟩⟩) (ra6.chg c9 (by omega)) fun w' r' c' => hk0 _ _ w' (Dn.leaf _ _ _ _ _ (by unfold maxLen; omega)) ?_ ?_⟩
    · exact (h9.grown c' (fun k hk => by have := Option.some.inj hk; omega)).mono (by omega)
    · exact Chg.fresh (c06.trans c9) c' (Nat.le_refl _)
  · exact absurd g3 (by omega)
  · exact absurd g4 (by omega)
  · refine outNd (d := ⟨0, 0, ⟨#[]⟩, ⟨none, 0, 0⟩, ⟨none, 0, 0⟩⟩) ra6 fun w' r' c' => hk0 _ _ w' (Dn.leaf _ _ _ _ _ (Nat.zero_le _)) ?_ ?_
    · exact (h6.grown c' (fun k hk => by have := Option.some.inj hk; omega)).mono (by omega)
    · exact Chg.fresh c06 c' (Nat.le_refl _)

set_option maxHeartbeats 8000000 in
theorem c_randomNode_s {d M : Nat} (hM : M + 20000000 ≤ 2000000000) (hd : d ≤ 100) (hp : 10 ^ (d + 1) ≤ 1000000) (ih : RN (M + 20000000) d) : RN M (d + 1) := by
  intro w b bs B h hB
  suffices H : ∀ Φ : Value → World → Prop, (∀ c n w', Dn w.heap.size w' c n → Rd w' b bs (B + 10 ^ (d + 1 + 1)) → Chg b w w' → Φ (NdC.v c) w') → g_spec_randomNode ⟨b, 0, none⟩ ((d + 1 : Nat) : Int) w Φ from
    fn_spec_randomNode _ _ _ _ (H _ fun c n w' h1 h2 h3 => ⟨⟨c, n, rfl, h1⟩, h2, h3⟩)
  intro Φ hk0
  unfold g_spec_randomNode
  have hlt := h.lt
  simp only [beqI]
  refine letW_i fun w1 hw1 => ?_
  have e1 : Ext w w1 := by rw [hw1]; exact (Ext.refl w).alloc _
  have ra : Row w1 w.heap.size (cN zeroN) 50 := by rw [hw1]; exact Row.new w (cN zeroN) _
  clear hw1
  have z1 := ra.lt
  refine (c_spec_reader_pick _ (h.ext e1) (by omega) (by omega)).mono ?_
  rintro _ w3 ⟨⟨k3, rfl, hk3⟩, h3, c3⟩
  have ra3 := ra.chg c3 (by omega)
  have c03 := (Chg.of_ext e1).trans c3
  have hp10 : 10 ≤ 10 ^ (d + 1) := by rw [Nat.pow_succ]; have : 0 < 10 ^ d := Nat.pow_pos (by decide); omega
  rw [Nat.pow_succ] at hk0
  generalize hpp : 10 ^ (d + 1) = p at hp hk0 hp10
  refine ⟨_, rfl, br_d (fun hd0 => ?_) (fun hd0 => ?_)⟩
  · refine (c_spec_reader_pick _ h3 (by omega) (by omega)).mono ?_
    rintro _ w6 ⟨⟨k6, rfl, hk6⟩, h6, c6⟩
    have hk6' := hk6 (by omega)
    have ra6 := ra3.chg c6 (by omega)
    have c06 := c03.trans c6
    refine ⟨_, rfl, ?_⟩
    refine br_d (fun g1 => ?_) (fun g1 => br_d (fun g2 => ?_) (fun g2 => br_d (fun g3 => ?_) (fun g3 => br_d (fun g4 => ?_) (fun g4 => ?_))))
    · refine (c_spec_reader_pick _ h6 (by omega) (by omega)).mono ?_
      rintro _ w9 ⟨⟨k9, rfl, hk9⟩, h9, c9⟩
      refine ⟨_, rfl, letW_i fun w11 hw11 => ?_⟩
      have e11 : Ext w9 w11 := by rw [hw11]; exact (Ext.refl w9).alloc _
      have r11 : Row w11 w9.heap.size (([0, 1, 2, 7, -7, 999999, -999999, (k9 : Int)] : List Int).flatMap cI) 3 := by rw [hw11]; exact Row.new w9 _ _
      have hb9 := h9.lt
      refine (c_spec_reader_one (h9.ext e11) (by omega) (r11.slOf (cap := 8) (by simp)) (apart_new (by omega)) (by simp) (by simp)).mono ?_
      rintro _ w13 ⟨⟨x13, hx13, rfl⟩, h13, c13⟩
      have cc := (c9.trans (Chg.of_ext e11)).trans c13
      refine ⟨_, rfl, outNd (d := ⟨(k6 : Int), x13, ⟨#[]⟩, ⟨none, 0, 0⟩, ⟨none, 0, 0⟩⟩) (ra6.chg cc (by omega)) fun w' r' c' => hk0 _ _ w' (Dn.leaf _ _ _ _ _ (Nat.zero_le _)) ?_ ?_⟩
      · exact (h13.grown c' (fun k hk => by have := Option.some.inj hk; omega)).mono (by omega)
      · exact Chg.fresh (c06.trans cc) c' (Nat.le_refl _)
    · refine (c_spec_someText h6 (by omega)).mono ?_
      rintro _ w9 ⟨⟨x9, rfl, hx9⟩, h9, c9⟩
      refine ⟨_, rfl, outNd (d := ⟨(k6 : Int), 0, x9, ⟨none, 0, 0⟩, ⟨none, 0, 0⟩⟩) (ra6.chg c9 (by omega)) fun w' r' c' => hk0 _ _ w' (Dn.leaf _ _ _ _ _ (by unfold maxLen; omega)) ?_ ?_⟩
      · exact (h9.grown c' (fun k hk => by have := Option.some.inj hk; omega)).mono (by omega)
      · exact Chg.fresh (c06.trans c9) c' (Nat.le_refl _)
    · exact absurd g3 (by omega)
    · exact absurd g4 (by omega)
    · refine outNd (d := ⟨0, 0, ⟨#[]⟩, ⟨none, 0, 0⟩, ⟨none, 0, 0⟩⟩) ra6 fun w' r' c' => hk0 _ _ w' (Dn.leaf _ _ _ _ _ (Nat.zero_le _)) ?_ ?_
      · exact (h6.grown c' (fun k hk => by have := Option.some.inj hk; omega)).mono (by omega)
      · exact Chg.fresh c06 c' (Nat.le_refl _)

  · have hk3' := hk3 (by omega)
    refine ?_
    refine br_d (fun g1 => ?_) (fun g1 => br_d (fun g2 => ?_) (fun g2 => br_d (fun g3 => ?_) (fun g3 => br_d (fun g4 => ?_) (fun g4 => ?_))))
    · refine (c_spec_reader_pick _ h3 (by omega) (by omega)).mono ?_
      rintro _ w9 ⟨⟨k9, rfl, hk9⟩, h9, c9⟩
      refine ⟨_, rfl, letW_i fun w11 hw11 => ?_⟩
      have e11 : Ext w9 w11 := by rw [hw11]; exact (Ext.refl w9).alloc _
      have r11 : Row w11 w9.heap.size (([0, 1, 2, 7, -7, 999999, -999999, (k9 : Int)] : List Int).flatMap cI) 3 := by rw [hw11]; exact Row.new w9 _ _
      have hb9 := h9.lt
      refine (c_spec_reader_one (h9.ext e11) (by omega) (r11.slOf (cap := 8) (by simp)) (apart_new (by omega)) (by simp) (by simp)).mono ?_
      rintro _ w13 ⟨⟨x13, hx13, rfl⟩, h13, c13⟩
      have cc := (c9.trans (Chg.of_ext e11)).trans c13
      refine ⟨_, rfl, outNd (d := ⟨(k3 : Int), x13, ⟨#[]⟩, ⟨none, 0, 0⟩, ⟨none, 0, 0⟩⟩) (ra3.chg cc (by omega)) fun w' r' c' => hk0 _ _ w' (Dn.leaf _ _ _ _ _ (Nat.zero_le _)) ?_ ?_⟩
      · exact (h13.grown c' (fun k hk => by have := Option.some.inj hk; omega)).mono (by omega)
      · exact Chg.fresh (c03.trans cc) c' (Nat.le_refl _)
    · refine (c_spec_someText h3 (by omega)).mono ?_
      rintro _ w9 ⟨⟨x9, rfl, hx9⟩, h9, c9⟩
      refine ⟨_, rfl, outNd (d := ⟨(k3 : Int), 0, x9, ⟨none, 0, 0⟩, ⟨none, 0, 0⟩⟩) (ra3.chg c9 (by omega)) fun w' r' c' => hk0 _ _ w' (Dn.leaf _ _ _ _ _ (by unfold maxLen; omega)) ?_ ?_⟩
      · exact (h9.grown c' (fun k hk => by have := Option.some.inj hk; omega)).mono (by omega)
      · exact Chg.fresh (c03.trans c9) c' (Nat.le_refl _)
    · refine letW_i fun w38 hw38 => ?_
      have e38 : Ext w3 w38 := by rw [hw38]; exact (Ext.refl w3).alloc _
      have q38 : KidsAt w3.heap.size w38 ⟨some ⟨w3.heap.size, 0, none⟩, 0, 0⟩ [] := by rw [hw38]; exact KidsAt.nil (Nat.le_refl _)
      clear hw38
      have hbk := h3.lt
      have zk := c03.size
      have zra := ra3.lt
      refine (c_spec_reader_pick _ (h3.ext e38) (by omega) (by omega)).mono ?_
      rintro _ w40 ⟨⟨m, rfl, hm⟩, h40, c40⟩
      have hm4 := hm (by omega)
      have hmul : m * p ≤ 4 * p := Nat.mul_le_mul_right _ (by omega)
      have zk2 := c40.size
      have zk3 := e38.size
      refine ⟨_, rfl, ?_⟩
      refine sLoop_down m (fun k t w' => Chg b w3 w' ∧ ∃ B', Rd w' b bs B' ∧ B' + k * p ≤ B + 1 + 1 + 4 * p ∧ ∃ ks, KidsAt w3.heap.size w' t.1 ks ∧ ks.length + k ≤ 4 ∧ ∀ x ∈ ks, tm x = true) ⟨(Chg.of_ext e38).trans c40, _, h40, by omega, [], q38.chg c40 hbk, by simp; omega, by simp⟩ ?_ ?_
      · rintro K k ⟨l, u⟩ w44 hkm ⟨hc, B', hR, hB', ks, hks, hkk, htm⟩ hK _
        have zc := hc.size
        have hsm : (k + 1) * p = k * p + p := Nat.succ_mul k p
        have hlev : (((d + 1 : Nat)) : Int) - 1 = (d : Int) := by omega
        refine br_dt (by first | omega | (simp only; omega)) ?_
        rw [hlev]
        refine ⟨inR_i64 (by omega) (by omega), (ih w44 b bs B' hR (by omega)).mono ?_⟩
        rintro _ w47 ⟨⟨cx, x, rfl, hx⟩, h47, c47⟩
        rw [hpp] at h47
        have zc47 := c47.size
        have hown := hks.nd.2.1
        refine ⟨_, _, _, _, _, rfl, KidsAt.push2 (m := w44.heap.size) (hks.chg c47 hbk) hx.nd (fun k hk => (hown k hk).2) (by omega) (by omega) (by omega) (fun s' w8 hk8 e8 hg8 => ⟨inR_i64 (by omega) (by omega), hK _ _ ⟨?_, B' + p, ?_, by omega, ks ++ [x], hk8, by simp; omega, ?_⟩⟩)⟩
        · exact Chg.freshRow ((hc.trans c47).trans (Chg.of_ext e8)) hg8 (fun k hk => (hown k hk).1)
        · exact (h47.ext e8).grown hg8 (fun k hk => by have := (hown k hk).1; omega)
        · intro y hy
          rcases List.mem_append.1 hy with hy | hy
          · exact htm y hy
          · simp at hy; rw [hy]; exact hx.tame
      · rintro K ⟨l, u⟩ w44 ⟨hc, B', hR, hB', ks, hks, hkk, htm⟩ _
        have zc := hc.size
        refine br_df (by first | omega | (simp only; omega)) (letW_i fun w56 hw56 => ?_)
        have e56 : Ext w44 w56 := by rw [hw56]; exact (Ext.refl w44).alloc _
        have o56 : Own w44.heap.size 9 1 w56 ⟨some ⟨w44.heap.size, 0, none⟩, 0, 0⟩ [] := by rw [hw56]; exact Own.fresh w44 _ 1 _ (Nat.le_refl _)
        clear hw56
        refine outNd (d := ⟨(k3 : Int), 0, ⟨#[]⟩, ⟨some ⟨w44.heap.size, 0, none⟩, 0, 0⟩, l⟩) ((ra3.chg hc (by omega)).ext e56) fun w' r' c' => hk0 _ (.mk (k3 : Int) 0 ⟨#[]⟩ [] ks) w' ?_ ?_ ?_
        · refine Dn.base_le (Dn.make (base := w3.heap.size) (m := w44.heap.size) (w0 := w44) hks (Nat.le_refl _) zc (fun S c n hn => (hn.ext e56).chg c' (fun hh => by omega)) (o56.chg c' (by omega)) (Nat.zero_le _) (by simp) (by omega) (by simp) htm) zk
        · exact ((hR.ext e56).grown c' (fun k hk => by have := Option.some.inj hk; omega)).mono (by omega)
        · exact Chg.fresh ((c03.trans hc).trans (Chg.of_ext e56)) c' (Nat.le_refl _)
    · refine c_randomMap_of hM (by rw [hpp]; exact hp) hd ih h3 (by omega) fun cx x w68 hx h68 c68 => ?_
      rw [hpp] at h68
      have zk := c03.size
      have zra := ra3.lt
      refine ⟨_, _, _, _, _, rfl, outNd (d := cx) (ra3.chg c68 (by omega)) fun w' r' c' => hk0 _ x w' ((hx.chg c' zra).base_le zk) ?_ ?_⟩
      · exact (h68.grown c' (fun k hk => by have := Option.some.inj hk; omega)).mono (by omega)
      · exact Chg.fresh (c03.trans c68) c' (Nat.le_refl _)
    · refine outNd (d := ⟨0, 0, ⟨#[]⟩, ⟨none, 0, 0⟩, ⟨none, 0, 0⟩⟩) ra3 fun w' r' c' => hk0 _ _ w' (Dn.leaf _ _ _ _ _ (Nat.zero_le _)) ?_ ?_
      · exact (h3.grown c' (fun k hk => by have := Option.some.inj hk; omega)).mono (by omega)
      · exact Chg.fresh c03 c' (Nat.le_refl _)

theorem c_spec_randomNode_3 : RN 1940000000 3 := c_randomNode_s (by decide) (by decide) (by decide) (c_randomNode_s (by decide) (by decide) (by decide) (c_randomNode_s (by decide) (by decide) (by decide) c_randomNode_0))
theorem c_spec_randomNode_2 : RN 1960000000 2 := c_randomNode_s (by decide) (by decide) (by decide) (c_randomNode_s (by decide) (by decide) (by decide) c_randomNode_0)
end Go.Proofs
