/-
  What functions of this seat compute, part 'NearShape2': contracts over their readable predicates. Conditions: each theorem's own hypotheses.
-/
import Derived.Test.YtcgfhchmpoaiiaaBase
import Derived.Test.YtcgfhchmpoaiiaaOpen
import Derived.Test.YtcgfhchmpoaiiaaGen
import Derived.Test.YtcgfhchmpoaiiaaCSmall
import Derived.Test.YtcgfhchmpoaiiaaCOrder
import Derived.Test.YtcgfhchmpoaiiaaCNode
import Derived.Test.YtcgfhchmpoaiiaaCNodeText
import Derived.Test.YtcgfhchmpoaiiaaCNodeValid
import Derived.Test.YtcgfhchmpoaiiaaCNodeSpec
import Derived.Test.YtcgfhchmpoaiiaaCHelpS
import Derived.Test.YtcgfhchmpoaiiaaCNodeHelp
import Derived.Test.YtcgfhchmpoaiiaaCNodeHelp2
import Derived.Test.YtcgfhchmpoaiiaaCNodeTop
import Derived.Test.YtcgfhchmpoaiiaaCCells
import Derived.Test.YtcgfhchmpoaiiaaCShape
import Derived.Test.YtcgfhchmpoaiiaaCShape2
import Derived.Test.YtcgfhchmpoaiiaaCShapeOf
import Derived.Test.YtcgfhchmpoaiiaaCShapeOf2
import Derived.Test.YtcgfhchmpoaiiaaCShapeOf3
import Derived.Test.YtcgfhchmpoaiiaaCShapeOf4
import Derived.Test.YtcgfhchmpoaiiaaCNodeCopy
import Derived.Test.YtcgfhchmpoaiiaaCNodeAdd
import Derived.Test.YtcgfhchmpoaiiaaCDraw
import Derived.Test.YtcgfhchmpoaiiaaCNodeDraw
import Derived.Test.YtcgfhchmpoaiiaaCNearShape
namespace Go.Proofs
open Go Go.Vc Go.RowKit
set_option maxRecDepth 100000
set_option linter.unusedVariables false
--! C:Small C:Order C:Node C:NodeText C:NodeValid C:NodeSpec C:HelpS C:NodeHelp C:NodeHelp2 C:NodeTop C:Cells C:Shape C:Shape2 C:ShapeOf C:ShapeOf2 C:ShapeOf3 C:ShapeOf4 C:NodeCopy C:NodeAdd C:Draw C:NodeDraw C:NearShape
/-! ## A shape near that of a node -/

/-- A drawn shape: its rows are nobody else's, its kids lie apart from them. -/
structure Dsh (base : Nat) (w : World) (e : ShC) (x : Sh) : Prop where
  kd : e.k = x.k
  ol : Own base 9 1 w e.sn (x.ns.flatMap cS)
  ob : Own base 4 1 w e.sb (x.bs.flatMap cB)
  ex : ∃ cs : List ShC, Own base 31 4 w e.sk (cs.flatMap cSh) ∧ cs.length = x.ks.length ∧
    ∀ (i : Nat) d y, cs[i]? = some d → x.ks[i]? = some y → ShAt (fun k => base ≤ k ∧ e.sn.v.ownBlock ≠ some k ∧ e.sb.v.ownBlock ≠ some k ∧ e.sk.v.ownBlock ≠ some k) w d y
  nl : x.ns.length ≤ 10 ∧ x.bs.length ≤ 10 ∧ x.ks.length ≤ 10
  sz : ∀ y ∈ x.ns, y.size ≤ maxLen

theorem Dsh.keep {base : Nat} {w w' : World} {e : ShC} {x : Sh} (h : Dsh base w e x) (hk : ∀ k, base ≤ k → k < w.heap.size → w'.heap[k]? = w.heap[k]?) : Dsh base w' e x := by
  obtain ⟨h1, ol, ob, ⟨cs, ok, hl, hkids⟩, h2, h3⟩ := h
  exact ⟨h1, ol.keepB fun k e => hk k (ol.lt k e).1 (ol.lt k e).2, ob.keepB fun k e => hk k (ob.lt k e).1 (ob.lt k e).2, ⟨cs, ok.keepB fun k e => hk k (ok.lt k e).1 (ok.lt k e).2, hl, fun i d y hd hy => (hkids i d y hd hy).keep fun k hf hlt => hk k hf.1 hlt⟩, h2, h3⟩

theorem Dsh.chg {base b : Nat} {w w' : World} {e : ShC} {x : Sh} (h : Dsh base w e x) (c : Chg b w w') (hb : b < base) : Dsh base w' e x :=
  h.keep fun k hk hlt => c.block k hlt fun e => by
    have : k = b := by simpa using e
    omega
theorem Dsh.ext {base : Nat} {w w' : World} {e : ShC} {x : Sh} (h : Dsh base w e x) (c : Ext w w') : Dsh base w' e x := h.keep fun k _ hlt => c.block k hlt

theorem Dsh.base_le {base base' : Nat} {w : World} {e : ShC} {x : Sh} (h : Dsh base w e x) (hb : base' ≤ base) : Dsh base' w e x := by
  obtain ⟨h1, ol, ob, ⟨cs, ok, hl, hkids⟩, h2, h3⟩ := h
  exact ⟨h1, ol.base_le hb, ob.base_le hb, ⟨cs, ok.base_le hb, hl, fun i d y hd hy => (hkids i d y hd hy).mono fun k hf _ => ⟨by omega, hf.2⟩⟩, h2, h3⟩

theorem Dsh.at_ {base : Nat} {w : World} {e : ShC} {x : Sh} (h : Dsh base w e x) : ShAt (fun k => base ≤ k) w e x := by
  obtain ⟨h1, ol, ob, ⟨cs, ok, hl, hkids⟩, h2, h3⟩ := h
  obtain ⟨xk, xns, xbs, xks⟩ := x
  simp only [Sh.k, Sh.ns, Sh.bs, Sh.ks] at *
  subst h1
  refine ShAt.mk e xns xbs xks cs (ol.slOf cS_len (by decide)) (ob.slOf cB_len (by decide)) (ok.slOf cSh_len (by decide)) hl (fun _ a ha => (ol.lt _ (own_blk ol ha)).1) (fun _ a ha => (ob.lt _ (own_blk ob ha)).1)
    (fun _ a ha => (ok.lt _ (own_blk ok ha)).1) ⟨by unfold maxLen; omega, by unfold maxLen; omega, by unfold maxLen; omega, h3⟩ (fun i d y hd hy => (hkids i d y hd hy).mono fun k hf _ => hf.1)

theorem NSd.dsh {B N : Nat} {kd : Int} {l lb lk : Sl} {names : List ByteArray} {bs : List Bool} {cs : List ShC} {ks : List Sh} {w : World} (h : NSd B N kd l lb lk names bs cs ks w) (hl : names.length ≤ 10 ∧ bs.length ≤ 10 ∧ ks.length ≤ 10) (hs : ∀ y ∈ names, y.size ≤ maxLen) :
    Dsh B w ⟨kd, l, lb, lk⟩ (.mk kd names bs ks) :=
  ⟨rfl, h.ol, h.ob, ⟨cs, h.ok, h.kl, fun i d y hd hy => (h.kids i d y hd hy).mono fun k hf _ => ⟨hf.1, hf.2.2⟩⟩, hl, hs⟩

theorem Dsh.leaf (base : Nat) (w : World) (k : Int) : Dsh base w ⟨k, ⟨none, 0, 0⟩, ⟨none, 0, 0⟩, ⟨none, 0, 0⟩⟩ (.mk k [] [] []) :=
  ⟨rfl, Own.nil _ _ _ _, Own.nil _ _ _ _, ⟨[], Own.nil _ _ _ _, rfl, fun i d y h => by simp at h⟩, ⟨by simp [Sh.ns], by simp [Sh.bs], by simp [Sh.ks]⟩, fun y h => by simp [Sh.ns] at h⟩

/-- The shape given out. -/
theorem shOut {w : World} {R : Nat} {z0 z1 z2 z3 : Value} {T : TypeId} {e : ShC} {Φ : Value → World → Prop} (r : Row w R [z0, z1, z2, z3] T) (hk : ∀ w', Row w' R (cSh e) T → Chg R w w' → Φ e.v w') :
    Wr w (⟨R, 0, none⟩ : Addr) ∧ letW (w.setCell (⟨R, 0, none⟩ : Addr) (.int .i64 e.k)) (fun w1 => Wr w1 ((⟨R, 0, none⟩ : Addr).add 1) ∧ letW (w1.setCell ((⟨R, 0, none⟩ : Addr).add 1) (.slice e.sn.a e.sn.len e.sn.cap)) (fun w2 => Wr w2 ((⟨R, 0, none⟩ : Addr).add 2) ∧ letW (w2.setCell ((⟨R, 0, none⟩ : Addr).add 2) (.slice e.sb.a e.sb.len e.sb.cap)) (fun w3 => Wr w3 ((⟨R, 0, none⟩ : Addr).add 3) ∧ letW (w3.setCell ((⟨R, 0, none⟩ : Addr).add 3) (.slice e.sk.a e.sk.len e.sk.cap)) (fun w4 => ∃ n : Int, w4.cell? (⟨R, 0, none⟩ : Addr) = some (.int .i64 n) ∧ ∃ l1 : Sl, w4.cell? ((⟨R, 0, none⟩ : Addr).add 1) = some (.slice l1.a l1.len l1.cap) ∧ ∃ l2 : Sl, w4.cell? ((⟨R, 0, none⟩ : Addr).add 2) = some (.slice l2.a l2.len l2.cap) ∧ ∃ l3 : Sl, w4.cell? ((⟨R, 0, none⟩ : Addr).add 3) = some (.slice l3.a l3.len l3.cap) ∧ Φ (.agg #[.int .i64 n, .slice l1.a l1.len l1.cap, .slice l2.a l2.len l2.cap, .slice l3.a l3.len l3.cap]) w4)))) := by
  refine row_set4c r fun w' r' c' => ?_
  obtain ⟨m0, m1, m2, m3⟩ := Row.sh (c := e) r'
  simp only [exI m0, exL m1, exL m2, exL m3]
  exact hk w' r' c'

theorem near_tail {B N R b : Nat} {kd : Int} {l lb lk : Sl} {names : List ByteArray} {nb : List Bool} {cs : List ShC} {ks : List Sh} {w : World} {bs : List UInt8} {Bx : Nat} {z0 z1 z2 z3 : Value} {Φ : Value → World → Prop}
    (h : NSd B N kd l lb lk names nb cs ks w) (hR : Rd w b bs Bx) (hBx : Bx ≤ 1000000000) (r : Row w R [z0, z1, z2, z3] 31) (hb : b < R) (hRB : R < B) (hl : names.length ≤ 10 ∧ nb.length ≤ 10 ∧ ks.length ≤ 10) (hs : ∀ y ∈ names, y.size ≤ maxLen)
    (hk : ∀ e x w', Dsh B w' e x → Rd w' b bs (Bx + 2) → (∀ a : World, a.heap.size ≤ R → Chg b a w → Chg b a w') → Φ (ShC.v e) w') :
    CallR Try.prog 62 [.pointer (some ⟨b, 0, none⟩), .int .i64 (10 : Int)] w (fun r208 w209 => ∃ n210 : Int, r208 = .int .i64 n210 ∧ br (n210 == (0 : Int)) (CallR Try.prog 62 [.pointer (some ⟨b, 0, none⟩), .int .i64 (5 : Int)] w209 (fun r211 w212 => ∃ n213 : Int, r211 = .int .i64 n213 ∧ Wr w212 (⟨N, 0, none⟩ : Addr) ∧ letW (w212.setCell (⟨N, 0, none⟩ : Addr) (.int .i64 n213)) (fun w214 => Wr w214 ((⟨N, 0, none⟩ : Addr).add 1) ∧ letW (w214.setCell ((⟨N, 0, none⟩ : Addr).add 1) (.slice none 0 0)) (fun w215 => Wr w215 ((⟨N, 0, none⟩ : Addr).add 2) ∧ letW (w215.setCell ((⟨N, 0, none⟩ : Addr).add 2) (.slice none 0 0)) (fun w216 => Wr w216 ((⟨N, 0, none⟩ : Addr).add 3) ∧ letW (w216.setCell ((⟨N, 0, none⟩ : Addr).add 3) (.slice none 0 0)) (fun w217 => ∃ n218 : Int, w217.cell? (⟨N, 0, none⟩ : Addr) = some (.int .i64 n218) ∧ ∃ l219 : Sl, w217.cell? ((⟨N, 0, none⟩ : Addr).add 1) = some (.slice l219.a l219.len l219.cap) ∧ ∃ l220 : Sl, w217.cell? ((⟨N, 0, none⟩ : Addr).add 2) = some (.slice l220.a l220.len l220.cap) ∧ ∃ l221 : Sl, w217.cell? ((⟨N, 0, none⟩ : Addr).add 3) = some (.slice l221.a l221.len l221.cap) ∧ Wr w217 (⟨R, 0, none⟩ : Addr) ∧ letW (w217.setCell (⟨R, 0, none⟩ : Addr) (.int .i64 n218)) (fun w222 => Wr w222 ((⟨R, 0, none⟩ : Addr).add 1) ∧ letW (w222.setCell ((⟨R, 0, none⟩ : Addr).add 1) (.slice l219.a l219.len l219.cap)) (fun w223 => Wr w223 ((⟨R, 0, none⟩ : Addr).add 2) ∧ letW (w223.setCell ((⟨R, 0, none⟩ : Addr).add 2) (.slice l220.a l220.len l220.cap)) (fun w224 => Wr w224 ((⟨R, 0, none⟩ : Addr).add 3) ∧ letW (w224.setCell ((⟨R, 0, none⟩ : Addr).add 3) (.slice l221.a l221.len l221.cap)) (fun w225 => ∃ n226 : Int, w225.cell? (⟨R, 0, none⟩ : Addr) = some (.int .i64 n226) ∧ ∃ l227 : Sl, w225.cell? ((⟨R, 0, none⟩ : Addr).add 1) = some (.slice l227.a l227.len l227.cap) ∧ ∃ l228 : Sl, w225.cell? ((⟨R, 0, none⟩ : Addr).add 2) = some (.slice l228.a l228.len l228.cap) ∧ ∃ l229 : Sl, w225.cell? ((⟨R, 0, none⟩ : Addr).add 3) = some (.slice l229.a l229.len l229.cap) ∧ Φ (.agg #[.int .i64 n226, .slice l227.a l227.len l227.cap, .slice l228.a l228.len l228.cap, .slice l229.a l229.len l229.cap]) w225)))))))))) (∃ n230 : Int, w209.cell? (⟨N, 0, none⟩ : Addr) = some (.int .i64 n230) ∧ ∃ l231 : Sl, w209.cell? ((⟨N, 0, none⟩ : Addr).add 1) = some (.slice l231.a l231.len l231.cap) ∧ ∃ l232 : Sl, w209.cell? ((⟨N, 0, none⟩ : Addr).add 2) = some (.slice l232.a l232.len l232.cap) ∧ ∃ l233 : Sl, w209.cell? ((⟨N, 0, none⟩ : Addr).add 3) = some (.slice l233.a l233.len l233.cap) ∧ Wr w209 (⟨R, 0, none⟩ : Addr) ∧ letW (w209.setCell (⟨R, 0, none⟩ : Addr) (.int .i64 n230)) (fun w234 => Wr w234 ((⟨R, 0, none⟩ : Addr).add 1) ∧ letW (w234.setCell ((⟨R, 0, none⟩ : Addr).add 1) (.slice l231.a l231.len l231.cap)) (fun w235 => Wr w235 ((⟨R, 0, none⟩ : Addr).add 2) ∧ letW (w235.setCell ((⟨R, 0, none⟩ : Addr).add 2) (.slice l232.a l232.len l232.cap)) (fun w236 => Wr w236 ((⟨R, 0, none⟩ : Addr).add 3) ∧ letW (w236.setCell ((⟨R, 0, none⟩ : Addr).add 3) (.slice l233.a l233.len l233.cap)) (fun w237 => ∃ n238 : Int, w237.cell? (⟨R, 0, none⟩ : Addr) = some (.int .i64 n238) ∧ ∃ l239 : Sl, w237.cell? ((⟨R, 0, none⟩ : Addr).add 1) = some (.slice l239.a l239.len l239.cap) ∧ ∃ l240 : Sl, w237.cell? ((⟨R, 0, none⟩ : Addr).add 2) = some (.slice l240.a l240.len l240.cap) ∧ ∃ l241 : Sl, w237.cell? ((⟨R, 0, none⟩ : Addr).add 3) = some (.slice l241.a l241.len l241.cap) ∧ Φ (.agg #[.int .i64 n238, .slice l239.a l239.len l239.cap, .slice l240.a l240.len l240.cap, .slice l241.a l241.len l241.cap]) w237)))))) := by
  have hbn := h.bn
  refine (c_spec_reader_pick _ hR (by omega) (by omega)).mono ?_
  rintro _ w1 ⟨⟨k1, rfl, _⟩, h1, c1⟩
  refine ⟨_, rfl, br_i (fun g => ?_) (fun g => ?_)⟩
  · refine (c_spec_reader_pick _ h1 (by omega) (by omega)).mono ?_
    rintro _ w2 ⟨⟨k2, rfl, _⟩, h2, c2⟩
    have h' := (h.chg c1 (by omega)).chg c2 (by omega)
    refine ⟨_, rfl, row_set4c h'.r fun w3 r3 c3 => ?_⟩
    obtain ⟨m0, m1, m2, m3⟩ := Row.sh (c := ⟨(k2 : Int), ⟨none, 0, 0⟩, ⟨none, 0, 0⟩, ⟨none, 0, 0⟩⟩) r3
    simp only [exI m0, exL m1, exL m2, exL m3]
    refine shOut (e := ⟨(k2 : Int), ⟨none, 0, 0⟩, ⟨none, 0, 0⟩, ⟨none, 0, 0⟩⟩) (((r.chg c1 (by omega)).chg c2 (by omega)).chg c3 (by omega)) fun w4 r4 c4 => ?_
    refine hk _ _ w4 (Dsh.leaf B w4 k2) ((h2.grown c3 (fun k hk => by have := Option.some.inj hk; omega)).grown c4 (fun k hk => by have := Option.some.inj hk; omega)) fun a ha hab => ?_
    exact Chg.fresh (Chg.fresh ((hab.trans c1).trans c2) c3 (by omega)) c4 (by omega)
  · have h' := h.chg c1 (by omega)
    obtain ⟨m0, m1, m2, m3⟩ := Row.sh h'.r
    simp only [exI m0, exL m1, exL m2, exL m3]
    refine shOut (e := ⟨kd, l, lb, lk⟩) (r.chg c1 (by omega)) fun w4 r4 c4 => ?_
    refine hk _ _ w4 ((h'.dsh hl hs).chg c4 hRB) ((h1.grown c4 (fun k hk => by have := Option.some.inj hk; omega)).mono (by omega)) fun a ha hab => ?_
    exact Chg.fresh (hab.trans c1) c4 (by omega)
end Go.Proofs
