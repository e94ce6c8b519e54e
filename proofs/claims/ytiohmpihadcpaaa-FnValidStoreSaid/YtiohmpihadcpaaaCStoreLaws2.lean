/-
  What functions of this seat compute, part 'StoreLaws2': contracts over their readable predicates. Conditions: each theorem's own hypotheses.
-/
import Derived.Test.YtiohmpihadcpaaaBase
import Derived.Test.YtiohmpihadcpaaaOpen
import Derived.Test.YtiohmpihadcpaaaGen
import Derived.Test.YtiohmpihadcpaaaCSmall
import Derived.Test.YtiohmpihadcpaaaCOrder
import Derived.Test.YtiohmpihadcpaaaCNode
import Derived.Test.YtiohmpihadcpaaaCNodeText
import Derived.Test.YtiohmpihadcpaaaCNodeValid
import Derived.Test.YtiohmpihadcpaaaCNodeSpec
import Derived.Test.YtiohmpihadcpaaaCHelpS
import Derived.Test.YtiohmpihadcpaaaCNodeHelp
import Derived.Test.YtiohmpihadcpaaaCNodeHelp2
import Derived.Test.YtiohmpihadcpaaaCNodeTop
import Derived.Test.YtiohmpihadcpaaaCCells
import Derived.Test.YtiohmpihadcpaaaCItem
import Derived.Test.YtiohmpihadcpaaaCItem2
import Derived.Test.YtiohmpihadcpaaaCStoreLaws
import Derived.Test.YtiohmpihadcpaaaCNodeCopy
import Derived.Test.YtiohmpihadcpaaaCNodeAdd
import Derived.Test.YtiohmpihadcpaaaCDraw
import Derived.Test.YtiohmpihadcpaaaCNodeDraw
import Derived.Test.YtiohmpihadcpaaaCNodeDraw2
import Derived.Test.YtiohmpihadcpaaaCNodeDraw3
import Derived.Test.YtiohmpihadcpaaaCStoreDraw
import Derived.Test.YtiohmpihadcpaaaCStoreDraw2
import Derived.Test.YtiohmpihadcpaaaCStoreDraw3
import Derived.Test.YtiohmpihadcpaaaCStoreDraw4
import Derived.Test.YtiohmpihadcpaaaCStoreDraw5
namespace Go.Proofs
open Go Go.Vc Go.RowKit
set_option maxRecDepth 100000
set_option linter.unusedVariables false
--! C:Small C:Order C:Node C:NodeText C:NodeValid C:NodeSpec C:HelpS C:NodeHelp C:NodeHelp2 C:NodeTop C:Cells C:Item C:Item2 C:StoreLaws C:NodeCopy C:NodeAdd C:Draw C:NodeDraw C:NodeDraw2 C:NodeDraw3 C:StoreDraw C:StoreDraw2 C:StoreDraw3 C:StoreDraw4 C:StoreDraw5
/-! ## Stores can lose documents -/

set_option maxHeartbeats 4000000 in
theorem c_spec_anyStore {w : World} {b : Nat} {bs : List UInt8} {B : Nat} (h : Rd w b bs B) (hB : B ≤ 1000000) {Φ : Value → World → Prop}
    (hk : ∀ l c ys w', IS (fun k => w.heap.size < k) w' l ys → Chg b w w' → Φ (svE l c) w') : CallR Try.prog 26 [.pointer (some ⟨b, 0, none⟩)] w Φ := by
  refine fn_spec_anyStore _ _ _ ?_
  unfold g_spec_anyStore
  simp only [add_nought]
  have hlt := h.lt
  refine letW_i fun w1 hw1 => ?_
  have e1 : Ext w w1 := by rw [hw1]; exact (Ext.refl w).alloc _
  have ro : Row w1 w.heap.size [.slice none 0 0, .int .i64 0] 29 := by rw [hw1]; exact Row.new w [.slice none 0 0, .int .i64 0] _
  clear hw1
  have z1 := ro.lt
  refine (c_spec_someStore (h.ext e1) hB).mono ?_
  rintro _ w3 ⟨l, c, ys, rfl, hI3, hc, hR3, c3⟩
  have z3 := c3.size
  refine ⟨_, _, rfl, stLocal fun w4 r4 e4 => ?_⟩
  have hI4 := hI3.lim.ext e4
  have ro4 := (ro.chg c3 (by omega)).ext e4
  have c04 : Chg b w w4 := ((Chg.of_ext e1).trans c3).trans (Chg.of_ext e4)
  have zS := r4.lt
  refine (c_spec_reader_pick _ (hR3.ext e4) (by omega) (by omega)).mono ?_
  rintro _ w5 ⟨⟨pk, rfl, _⟩, hR5, c5⟩
  have r5 := r4.chg c5 (by omega)
  have hI5 := hI4.chg c5 (fun hh => by have := hh.1; omega)
  have ro5 := ro4.chg c5 (by omega)
  have c05 := c04.trans c5
  have z5 := c5.size
  -- the end: the store's row is read and given out
  have fin : ∀ (wq : World) (l' : Sl) (c' : Int) (ys' : List It) (S' : Nat → Prop), Row wq w3.heap.size (cSt l' c') 29 → Row wq w.heap.size [.slice none 0 0, .int .i64 0] 29 → IS S' wq l' ys' → (∀ k, S' k → w.heap.size < k) → Chg b w wq →
      ∃ l88 : Sl, wq.cell? (⟨w3.heap.size, 0, none⟩ : Addr) = some (.slice l88.a l88.len l88.cap) ∧ ∃ n89 : Int, wq.cell? ((⟨w3.heap.size, 0, none⟩ : Addr).add 1) = some (.int .i64 n89) ∧ Wr wq (⟨w.heap.size, 0, none⟩ : Addr) ∧ letW (wq.setCell (⟨w.heap.size, 0, none⟩ : Addr) (.slice l88.a l88.len l88.cap)) (fun w90 => Wr w90 ((⟨w.heap.size, 0, none⟩ : Addr).add 1) ∧ letW (w90.setCell ((⟨w.heap.size, 0, none⟩ : Addr).add 1) (.int .i64 n89)) (fun w91 => ∃ l92 : Sl, w91.cell? (⟨w.heap.size, 0, none⟩ : Addr) = some (.slice l92.a l92.len l92.cap) ∧ ∃ n93 : Int, w91.cell? ((⟨w.heap.size, 0, none⟩ : Addr).add 1) = some (.int .i64 n93) ∧ Φ (.agg #[.slice l92.a l92.len l92.cap, .int .i64 n93]) w91)) := by
    intro wq l' c' ys' S' hS hR hI hb hcc
    obtain ⟨t0, t1⟩ := Row.st hS
    simp only [exL t0, exI t1]
    refine stOut (Φ := fun l c w' => Φ (.agg #[.slice l.a l.len l.cap, .int .i64 c]) w') hR fun w' r' c'' => hk l' c' ys' w' ?_ (Chg.fresh hcc c'' (Nat.le_refl _))
    exact ((hI.chg c'' (fun hh => by have := hb _ hh; omega)).mono hb)
  refine ⟨_, rfl, br_i (fun g0 => ?_) (fun g0 => br_i (fun g1 => ?_) (fun g1 => br_i (fun g2 => ?_) (fun g2 => br_i (fun g3 => ?_) (fun g3 => ?_))))⟩
  · refine letW_i fun w6 hw6 => ?_
    have e6 : Ext w5 w6 := by rw [hw6]; exact (Ext.refl w5).alloc _
    have r6 : Row w6 w5.heap.size (([0, 999, 1000, -1] : List Int).flatMap cI) 3 := by rw [hw6]; exact Row.new w5 _ _
    clear hw6
    have zb := hR5.lt
    refine (c_spec_reader_one (hR5.ext e6) (by omega) (r6.slOf (cap := 4) (by simp)) (apart_new (by omega)) (by simp) (by simp)).mono ?_
    rintro _ w7 ⟨⟨v, hv, rfl⟩, hR7, c7⟩
    have c57 : Chg b w5 w7 := (Chg.of_ext e6).trans c7
    obtain ⟨p, q⟩ := Row.setMid (A := [.slice l.a l.len l.cap]) (B := []) (p := (⟨w3.heap.size, 0, none⟩ : Addr).add 1) (r5.chg c57 (by omega)) rfl (.int .i64 v)
    refine ⟨_, rfl, p, letW_i fun w8 h8 => ?_⟩
    rw [← h8] at q
    have c8 : Chg w3.heap.size w7 w8 := by rw [h8]; exact (Chg.refl _ _).set (by rw [add_block]) _
    clear h8
    exact fin w8 l v ys _ q ((ro5.chg c57 (by omega)).chg c8 (by omega)) ((hI5.chg c57 (fun hh => by have := hh.1; omega)).chg c8 (fun hh => by have := hh.2; omega)) (fun k hk => by have := hk.1; omega) (Chg.fresh (c05.trans c57) c8 (by omega))
  · refine ⟨fun w' => Chg b w5 w', fun w' h => Chg.of_ext h, fun w6 e6 => ⟨Chg.of_ext e6, l, fun w' hq => (Row.st (r5.chg hq (by omega))).1, Chg.of_ext e6, ?_⟩⟩
    refine (c_spec_badName (hR5.ext e6) (by omega)).mono ?_
    rintro _ w7 ⟨⟨nm, rfl, hnm⟩, hR7, c7⟩
    have c57 : Chg b w5 w7 := (Chg.of_ext e6).trans c7
    have hI7 := hI5.chg c57 (fun hh => by have := hh.1; omega)
    have r7 := r5.chg c57 (by omega)
    have z7 := c57.size
    refine ⟨nm, rfl, c57, c57, ?_⟩
    refine IS.push (C := fun w' => Chg b w5 w') (d := zeroN) (n := .mk 0 0 ⟨#[]⟩ [] []) (v := 1) hI7 (fun wm hm => c57.trans (Chg.of_ext hm)) (NdAt.mk zeroN [] [] [] (SlOf.nil cS w7) (SlOf.nil cN w7) rfl (fun h => absurd rfl h) (fun h => absurd rfl h) ⟨by decide, Nat.zero_le _, Nat.zero_le _, by simp⟩ (fun _ => rfl) (fun i d x h => by simp at h)) hnm hc.2.2 fun l' wm w8 hI8 em hg => ?_
    have own7 := hI7.own
    have r8 := (r7.ext em).grown hg (fun e => by have := (own7 _ e).1.2; omega)
    have ro8 := ((ro5.chg c57 (by omega)).ext em).grown hg (fun e => by have := (own7 _ e).1.1; omega)
    obtain ⟨p, q⟩ := Row.setMid (A := []) (B := [.int .i64 c]) (p := (⟨w3.heap.size, 0, none⟩ : Addr)) r8 rfl (.slice l'.a l'.len l'.cap)
    refine ⟨p, letW_i fun w9 h9 => ?_⟩
    rw [← h9] at q
    have c9 : Chg w3.heap.size w8 w9 := by rw [h9]; exact (Chg.refl _ _).set rfl _
    clear h9
    exact fin w9 l' c _ _ q (ro8.chg c9 (by omega)) (hI8.chg c9 (fun hh => by rcases hh with hh | hh <;> omega)) (fun k hk => by rcases hk with hk | hk <;> omega) (Chg.fresh (Chg.freshRow ((c05.trans c57).trans (Chg.of_ext em)) hg (fun k hk => by have := (own7 k hk).1.1; omega)) c9 (by omega))
  · obtain ⟨t0, t1⟩ := Row.st r5
    rw [exL t0]
    have hsl := hI5.its.slen
    refine br_d (fun g => ?_) (fun g => fin w5 l c ys _ r5 ro5 hI5 (fun k hk => by have := hk.1; omega) c05)
    cases ys with
    | nil => simp at hsl; omega
    | cons x r =>
      refine ⟨fun w' => Chg b w5 w', fun w' h => Chg.of_ext h, fun w6 (e6 : Ext w5 w6) => ⟨Chg.of_ext e6, l, fun w' hq => (Row.st (r5.chg hq (by omega))).1, ?_⟩⟩
      rw [exI (e6.get t1)]
      refine ⟨inR_i64 (by omega) (by omega), Chg.of_ext e6, letW_i fun w7 hw7 => ?_⟩
      have e7 : Ext w6 w7 := by rw [hw7]; exact (Ext.refl w6).alloc _
      have r7 : Row w7 w6.heap.size (([0, c + 1, 1] : List Int).flatMap cI) 3 := by rw [hw7]; exact Row.new w6 _ _
      clear hw7
      have e57 := e6.trans e7
      have zb := hR5.lt
      have z6 := e6.size
      refine ⟨Chg.of_ext e57, Chg.of_ext e57, (c_spec_reader_one (hR5.ext e57) (by omega) (r7.slOf (cap := 3) (by simp)) (apart_new (by omega)) (by simp) (by simp)).mono ?_⟩
      rintro _ w8 ⟨⟨v, hv, rfl⟩, hR8, c8⟩
      have c58 : Chg b w5 w8 := (Chg.of_ext e57).trans c8
      have hI8 := hI5.chg c58 (fun hh => by have := hh.1; omega)
      have own8 := hI8.own
      refine ⟨_, rfl, c58, IS.setVer hI8 fun w9 hI9 g9 => ?_⟩
      exact fin w9 l c _ _ ((r5.chg c58 (by omega)).grown g9 (fun e => by have := (own8 _ e).1.2; omega)) ((ro5.chg c58 (by omega)).grown g9 (fun e => by have := (own8 _ e).1.1; omega)) hI9 (fun k hk => by have := hk.1; omega) (Chg.freshRow (c05.trans c58) g9 (fun k hk => by have := (own8 k hk).1.1; omega))
  · obtain ⟨t0, t1⟩ := Row.st r5
    rw [exL t0]
    have hsl := hI5.its.slen
    refine br_d (fun g => ?_) (fun g => fin w5 l c ys _ r5 ro5 hI5 (fun k hk => by have := hk.1; omega) c05)
    cases ys with
    | nil => simp at hsl; omega
    | cons x r =>
      refine ⟨fun w' => Chg b w5 w', fun w' h => Chg.of_ext h, fun w6 (e6 : Ext w5 w6) => ⟨Chg.of_ext e6, l, fun w' hq => (Row.st (r5.chg hq (by omega))).1, Chg.of_ext e6, ?_⟩⟩
      have z6 := e6.size
      refine c_anyNode (hR5.ext e6) (by omega) fun cn n w7 hn c7 => ⟨_, _, _, _, _, rfl, ?_⟩
      have c57 : Chg b w5 w7 := (Chg.of_ext e6).trans c7
      have hI7 := hI5.chg c57 (fun hh => by have := hh.1; omega)
      have own7 := hI7.own
      refine ⟨c57, IS.setNode hI7 hn (fun k hk e => by have := (own7 k e).1.2; omega) fun w8 hI8 g8 => ?_⟩
      exact fin w8 l c _ _ ((r5.chg c57 (by omega)).grown g8 (fun e => by have := (own7 _ e).1.2; omega)) ((ro5.chg c57 (by omega)).grown g8 (fun e => by have := (own7 _ e).1.1; omega)) hI8 (fun k hk => by rcases hk with hk | hk <;> omega) (Chg.freshRow (c05.trans c57) g8 (fun k hk => by have := (own7 k hk).1.1; omega))
  · exact fin w5 l c ys _ r5 ro5 hI5 (fun k hk => by have := hk.1; omega) c05

theorem c_spec_DrawValidStore {w : World} {s : Sl} {bs : List UInt8} (hs : Bytes w s bs) {Φ : Value → World → Prop} (hk : ∀ l c ys w', ItsAt (fun _ => True) w' l ys → Ext w w' → Φ (svE l c) w') : CallR Try.prog 14 [.slice s.a s.len s.cap] w Φ := by
  refine fn_spec_DrawValidStore _ _ _ ?_
  unfold g_spec_DrawValidStore
  simp only [add_nought]
  refine letW_i fun w1 hw1 => ?_
  have e1 : Ext w w1 := by rw [hw1]; exact (Ext.refl w).alloc _
  have ra : Row w1 w.heap.size [.slice none 0 0, .int .i64 0] 29 := by rw [hw1]; exact Row.new w [.slice none 0 0, .int .i64 0] _
  clear hw1
  have z1 := ra.lt
  refine (c_spec_newReader (hs.ext e1)).mono ?_
  rintro _ w3 ⟨rfl, h3, e3⟩
  have z3 := e3.size
  refine ⟨_, rfl, c_spec_anyStore h3 (by omega) fun l c ys w4 hI c4 => ⟨_, _, rfl, ?_⟩⟩
  refine stOut (Φ := fun l c w' => Φ (.agg #[.slice l.a l.len l.cap, .int .i64 c]) w') ((ra.ext e3).chg c4 (by omega)) fun w5 r5 c5 => hk l c ys w5 ?_ (((e1.trans e3).chg c4 (by omega)).chg c5 (Nat.le_refl _))
  exact ((hI.chg c5 (fun hh => by omega)).mono (S' := fun _ => True) fun _ _ => trivial).its

/-! ### The plain law -/

theorem ascI_take : ∀ (xs : List It) (m : Nat), ascI xs = true → ascI (xs.take m) = true
  | [], m, _ => by cases m <;> rfl
  | [a], m, _ => by cases m <;> simp [ascI]
  | a :: b :: r, 0, _ => rfl
  | a :: b :: r, 1, _ => rfl
  | a :: b :: r, m + 2, h => by
    simp only [ascI, Bool.and_eq_true] at h
    have := ascI_take (b :: r) (m + 1) h.2
    simp only [List.take_succ_cons] at this ⊢
    simp only [ascI, Bool.and_eq_true]
    exact ⟨h.1, this⟩

theorem vSt_take {xs : List It} {c : Int} (m : Nat) (h : vSt xs c = true) : vSt (xs.take m) c = true := by
  simp only [vSt, Bool.and_eq_true, decide_eq_true_eq, List.all_eq_true] at h ⊢
  exact ⟨⟨⟨fun x hx => h.1.1.1 x (List.mem_of_mem_take hx), ascI_take xs m h.1.1.2⟩, by simp; omega⟩, h.2⟩

theorem ItsAt.take {S : Nat → Prop} {w : World} {l : Sl} {xs : List It} (h : ItsAt S w l xs) {k : Nat} (hk : k ≤ l.len) : ItsAt S w ⟨l.a, k, l.cap⟩ (xs.take k) := by
  obtain ⟨⟨cs, h1, h2, h3⟩, h4, h5⟩ := h
  refine ⟨⟨cs.take k, h1.front hk, by simp [h2], fun i d x hd hx => ?_⟩, by simp; omega, fun x hx => h5 x (List.mem_of_mem_take hx)⟩
  rw [List.getElem?_take] at hd hx
  split at hd
  · rename_i hi
    rw [if_pos hi] at hx
    exact h3 i d x hd hx
  · cases hd

theorem c_laws_FnValidStore {w : World} {s : Sl} {bs : List UInt8} (hs : Bytes w s bs) (hm : s.cap ≤ maxLen) : CallR Try.prog 5 [.slice s.a s.len s.cap] w (fun v w' => v = .bool true ∧ Ext w w') := by
  refine fn_laws_FnValidStore _ _ _ ?_
  unfold g_laws_FnValidStore
  simp only [add_nought]
  refine br_d (fun _ => ⟨by simp, Ext.refl _⟩) (fun _ => ?_)
  refine c_spec_DrawValidStore hs fun l c xs w1 hx e1 => ⟨_, _, rfl, stLocal fun w2 r2 e2 => ?_⟩
  obtain ⟨p0, p1⟩ := Row.st r2
  simp only [exL p0, exI p1]
  have e02 := e1.trans e2
  have hx2 := hx.ext e2
  refine (c_impl_ValidStore hx2).go fun w3 e3 => ⟨_, rfl, ?_⟩
  simp only [exL (e3.get p0), exI (e3.get p1)]
  refine (c_spec_ValidStore (hx2.ext e3)).go fun w4 e4 => ⟨_, rfl, br_f (by simp) ?_⟩
  have e24 := e3.trans e4
  have e04 := e02.trans e24
  simp only [exL (e24.get p0), exI (e24.get p1)]
  have hx4 := hx2.ext e24
  refine br_i (fun g => ?_) (fun g => ?_)
  · exact (c_spec_ValidStore hx4).go fun w5 e5 => ⟨_, rfl, by simp, e04.trans e5⟩
  have hv : vSt xs c = true := notf g
  refine br_i (fun g2 => ?_) (fun g2 => ?_)
  · exact (c_spec_ValidStore hx4).go fun w5 e5 => ⟨_, rfl, by simp, e04.trans e5⟩
  have hsl := hx4.slen
  have hl := hx4.len
  unfold maxLen at hl
  have hpos : 0 < l.len := by simp at g2; omega
  refine fun w5 (e5 : Ext w4 w5) => ?_
  have e25 := e24.trans e5
  simp only [exL (e25.get p0), exI (e25.get p1)]
  refine ⟨inR_i64 (by omega) (by omega), ⟨by omega, by omega, by omega⟩, ?_⟩
  have z0 : (0 : Int).toNat = 0 := rfl
  have ht : ((l.len : Int) - 1).toNat = l.len - 1 := by omega
  simp only [z0, resl_zero, Nat.sub_zero, ht]
  exact (c_impl_ValidStore ((hx4.ext e5).take (k := l.len - 1) (by omega))).go fun w6 e6 => ⟨_, rfl, by rw [vSt_take _ hv], (e04.trans e5).trans e6⟩
end Go.Proofs
