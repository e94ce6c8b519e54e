/-
  What functions of this seat compute, part 'StoreDraw4': contracts over their readable predicates. Conditions: each theorem's own hypotheses.
-/
import Derived.Test.YtiohmpihadcpaaaBase
import Derived.Test.YtiohmpihadcpaaaOpen
import Derived.Test.YtiohmpihadcpaaaGen
import Derived.Test.YtiohmpihadcpaaaCSmall
import Derived.Test.YtiohmpihadcpaaaCOrder
import Derived.Test.YtiohmpihadcpaaaCNode
import Derived.Test.YtiohmpihadcpaaaCNodeText
import Derived.Test.YtiohmpihadcpaaaCNodeValid
import Derived.Test.YtiohmpihadcpaaaCNodeSpec
import Derived.Test.YtiohmpihadcpaaaCHelpS
import Derived.Test.YtiohmpihadcpaaaCNodeHelp
import Derived.Test.YtiohmpihadcpaaaCNodeHelp2
import Derived.Test.YtiohmpihadcpaaaCNodeTop
import Derived.Test.YtiohmpihadcpaaaCCells
import Derived.Test.YtiohmpihadcpaaaCItem
import Derived.Test.YtiohmpihadcpaaaCItem2
import Derived.Test.YtiohmpihadcpaaaCStoreLaws
import Derived.Test.YtiohmpihadcpaaaCNodeCopy
import Derived.Test.YtiohmpihadcpaaaCNodeAdd
import Derived.Test.YtiohmpihadcpaaaCDraw
import Derived.Test.YtiohmpihadcpaaaCNodeDraw
import Derived.Test.YtiohmpihadcpaaaCNodeDraw2
import Derived.Test.YtiohmpihadcpaaaCNodeDraw3
import Derived.Test.YtiohmpihadcpaaaCStoreDraw
import Derived.Test.YtiohmpihadcpaaaCStoreDraw2
import Derived.Test.YtiohmpihadcpaaaCStoreDraw3
namespace Go.Proofs
open Go Go.Vc Go.RowKit
set_option maxRecDepth 100000
set_option linter.unusedVariables false
--! C:Small C:Order C:Node C:NodeText C:NodeValid C:NodeSpec C:HelpS C:NodeHelp C:NodeHelp2 C:NodeTop C:Cells C:Item C:Item2 C:StoreLaws C:NodeCopy C:NodeAdd C:Draw C:NodeDraw C:NodeDraw2 C:NodeDraw3 C:StoreDraw C:StoreDraw2 C:StoreDraw3
/-! ## A drawn store -/

theorem IS.lim {S : Nat → Prop} {w : World} {l : Sl} {xs : List It} (h : IS S w l xs) : IS (fun k => S k ∧ k < w.heap.size) w l xs := by
  obtain ⟨⟨cs, o, ho, hl, hkk⟩, h1, h2⟩ := h
  exact ⟨⟨cs, o, fun k e => ⟨ho k e, (o.lt k e).2⟩, hl, fun i d x hd hx => ⟨(hkk i d x hd hx).1.mono fun k hf hlt => ⟨⟨hf.1, hlt⟩, hf.2⟩, (hkk i d x hd hx).2⟩⟩, h1, h2⟩

set_option maxHeartbeats 4000000 in
theorem c_spec_someStore {w : World} {b : Nat} {bs : List UInt8} {B : Nat} (h : Rd w b bs B) (hB : B ≤ 1000000) :
    CallR Try.prog 45 [.pointer (some ⟨b, 0, none⟩)] w (fun v w' => ∃ (l : Sl) (c : Int) (ys : List It), v = svE l c ∧ IS (fun k => w.heap.size < k) w' l ys ∧ (0 ≤ c ∧ c ≤ 1000 ∧ ys.length ≤ 1000) ∧ Rd w' b bs (B + 3000000) ∧ Chg b w w') := by
  refine fn_spec_someStore _ _ _ ?_
  unfold g_spec_someStore
  simp only [add_nought]
  have hlt := h.lt
  refine letW_i fun w1 hw1 => letW_i fun w2 hw2 => ?_
  have e1 : Ext w w1 := by rw [hw1]; exact (Ext.refl w).alloc _
  have e2 : Ext w1 w2 := by rw [hw2]; exact (Ext.refl w1).alloc _
  have ro : Row w1 w.heap.size [.slice none 0 0, .int .i64 0] 29 := by rw [hw1]; exact Row.new w [.slice none 0 0, .int .i64 0] _
  have hl2 : IOwn w1.heap.size w2 ⟨some ⟨w1.heap.size, 0, none⟩, 0, 0⟩ [] := by rw [hw2]; exact IOwn.fresh (Nat.le_refl _)
  have z2 : w1.heap.size < w2.heap.size := by rw [hw2]; simp
  clear hw1 hw2
  have z1 := ro.lt
  have e02 := e1.trans e2
  refine stLocal (l := ⟨some ⟨w1.heap.size, 0, none⟩, 0, 0⟩) fun w5 r5 e5 => letW_i fun w6 hw6 => ?_
  have e6 : Ext w5 w6 := by rw [hw6]; exact (Ext.refl w5).alloc _
  have r6 : Row w6 w5.heap.size (([3, 4, 2, 5, 0, 12] : List Int).flatMap cI) 3 := by rw [hw6]; exact Row.new w5 _ _
  clear hw6
  have e26 := e5.trans e6
  have z5 := r5.lt
  refine (c_spec_reader_one ((h.ext e02).ext e26) (by omega) (r6.slOf (cap := 6) (by simp)) (apart_new (by omega)) (by simp) (by simp)).mono ?_
  rintro _ w7 ⟨⟨m0, hm0, rfl⟩, hR7, c7⟩
  have c27 : Chg b w2 w7 := (Chg.of_ext e26).trans c7
  have hm12 : ∃ m : Nat, m0 = (m : Int) ∧ m ≤ 12 := by
    simp only [List.mem_cons, List.not_mem_nil, or_false] at hm0
    rcases hm0 with rfl | rfl | rfl | rfl | rfl | rfl
    · exact ⟨3, rfl, by omega⟩
    · exact ⟨4, rfl, by omega⟩
    · exact ⟨2, rfl, by omega⟩
    · exact ⟨5, rfl, by omega⟩
    · exact ⟨0, rfl, by omega⟩
    · exact ⟨12, rfl, by omega⟩
  obtain ⟨m, rfl, hm⟩ := hm12
  have hrow7 : Row w7 w2.heap.size (cSt ⟨some ⟨w1.heap.size, 0, none⟩, 0, 0⟩ 0) 29 := (r5.ext e6).chg c7 (by omega)
  have hI7 : IS (fun k => w1.heap.size ≤ k ∧ k < w2.heap.size) w7 ⟨some ⟨w1.heap.size, 0, none⟩, 0, 0⟩ [] := (hl2.is.ext e26).chg c7 (fun hh => by have := hh.1; omega)
  refine ⟨_, rfl, sLoop.intro (fun st w' => ∃ k : Nat, st.1 = (k : Int) ∧ k ≤ 12 ∧ ∃ (l : Sl) (c : Int) (ys : List It) (S : Nat → Prop) (Bx : Nat), Row w' w2.heap.size (cSt l c) 29 ∧ IS S w' l ys ∧ (∀ k, S k → w.heap.size < k ∧ k ≠ w2.heap.size) ∧ (0 ≤ c ∧ c ≤ 1000 ∧ ys.length ≤ 1000) ∧ Rd w' b bs Bx ∧ Bx + k * 200010 ≤ B + 1 + 12 * 200010 ∧ Chg b w2 w')
    (fun st _ => st.1.toNat) ⟨m, rfl, hm, _, 0, [], _, B + 1, hrow7, hI7, fun k hk => ⟨by have := hk.1; omega, by have := hk.2; omega⟩, by simp, hR7, by omega, c27⟩ ?_⟩
  rintro ⟨i0, u⟩ wi K ⟨k, hk, hk12, l, c, ys, S1, Bx, hrow, hI1, hS1, hc, hRx, hBx, c2i⟩ hK _
  simp only at hk
  subst hk
  dsimp only
  have zi : w2.heap.size < wi.heap.size := hrow.lt
  obtain ⟨S, hSd⟩ : ∃ S : Nat → Prop, S = fun k => S1 k ∧ k < wi.heap.size := ⟨_, rfl⟩
  have hI : IS S wi l ys := by rw [hSd]; exact hI1.lim
  have hSl : ∀ k, S k → k < wi.heap.size := fun k hk => by rw [hSd] at hk; exact hk.2
  have hS : ∀ k, S k → w.heap.size < k ∧ k ≠ w2.heap.size := fun k hk => by rw [hSd] at hk; exact hS1 k hk.1
  clear hI1 hS1 hSd
  have hSb : ¬ S b := fun hh => by have := (hS b hh).1; omega
  refine br_d (fun g => ?_) (fun g => ?_)
  · have hk1 : 1 ≤ k := by omega
    have hK' : ∀ (w' : World) (l' : Sl) (c' : Int) (ys' : List It) (S' : Nat → Prop) (Bx' : Nat), Row w' w2.heap.size (cSt l' c') 29 → IS S' w' l' ys' → (∀ k, S' k → w.heap.size < k ∧ k ≠ w2.heap.size) → (0 ≤ c' ∧ c' ≤ 1000 ∧ ys'.length ≤ 1000) → Rd w' b bs Bx' → Bx' ≤ Bx + 200010 → Chg b w2 w' → InR .i64 ((k : Int) - 1) ∧ K ((k : Int) - 1, ()) w' := fun w' l' c' ys' S' Bx' h1 h2 h3 h4 h5 h6 h7 =>
      ⟨inR_i64 (by omega) (by omega), hK _ _ ⟨k - 1, by simp only; omega, by omega, l', c', ys', S', Bx', h1, h2, h3, h4, h5, by omega, h7⟩ (by simp only; omega)⟩
    refine ⟨fun st w' => ∃ (N : Nat) (l' : Sl) (c' : Int) (bk : Bool) (ys' : List It) (S' : Nat → Prop), st = (some ⟨N, 0, none⟩, bk, ()) ∧ wi.heap.size ≤ N ∧ Row w' N (cSt l' c') 29 ∧ IS S' w' l' ys' ∧ (∀ k, S' k → wi.heap.size ≤ k ∧ k ≠ N) ∧ (0 ≤ c' ∧ c' ≤ 1000 ∧ ys'.length ≤ 1000) ∧ Rd w' b bs (Bx + 200001) ∧ Chg b wi w', ?_, ?_⟩
    · have fin : ∀ (N : Nat) (wq : World) (l' : Sl) (c' : Int) (bk : Bool) (ys' : List It) (S' : Nat → Prop), Row wq N [.slice none 0 0, .int .i64 0] 29 → wi.heap.size ≤ N → IS S' wq l' ys' → (∀ k, S' k → wi.heap.size ≤ k ∧ k ≠ N) → (0 ≤ c' ∧ c' ≤ 1000 ∧ ys'.length ≤ 1000) → Rd wq b bs (Bx + 200001) → Chg b wi wq →
          Wr wq (⟨N, 0, none⟩ : Addr) ∧ letW (wq.setCell (⟨N, 0, none⟩ : Addr) (.slice l'.a l'.len l'.cap)) (fun w40 => Wr w40 ((⟨N, 0, none⟩ : Addr).add 1) ∧ letW (w40.setCell ((⟨N, 0, none⟩ : Addr).add 1) (.int .i64 c')) (fun w' => ∃ (N1 : Nat) (l1 : Sl) (c1 : Int) (bk1 : Bool) (ys1 : List It) (S1 : Nat → Prop), ((some (⟨N, 0, none⟩ : Addr), bk, ()) : Option Addr × Bool × Unit) = (some ⟨N1, 0, none⟩, bk1, ()) ∧ wi.heap.size ≤ N1 ∧ Row w' N1 (cSt l1 c1) 29 ∧ IS S1 w' l1 ys1 ∧ (∀ k, S1 k → wi.heap.size ≤ k ∧ k ≠ N1) ∧ (0 ≤ c1 ∧ c1 ≤ 1000 ∧ ys1.length ≤ 1000) ∧ Rd w' b bs (Bx + 200001) ∧ Chg b wi w')) := by
        intro N wq l' c' bk ys' S' hN hNi hIq hSq hcq hRq hcc
        refine stSet hN fun w' r' c'' => ⟨N, l', c', bk, ys', S', rfl, hNi, r', hIq.chg c'' (fun hh => (hSq N hh).2 rfl), hSq, hcq, hRq.grown c'' (fun k hk => by have := Option.some.inj hk; omega), Chg.fresh hcc c'' hNi⟩
      refine ⟨fun w' => Chg b wi w', fun w' h => Chg.of_ext h, fun wa ea => ⟨Chg.of_ext ea, l, fun w' hc' => (Row.st (hrow.chg hc' (by omega))).1, c, fun w' hc' => (Row.st (hrow.chg hc' (by omega))).2, ⟨Chg.of_ext ea, ?_⟩, Chg.of_ext ea, ?_⟩⟩
      · -- the name first
        refine (c_spec_itemName (hRx.ext ea) (by omega)).mono ?_
        rintro _ wb ⟨⟨nm, rfl, hnm⟩, hRb, cb⟩
        have cib : Chg b wi wb := (Chg.of_ext ea).trans cb
        have zb : wi.heap.size ≤ wb.heap.size := cib.size
        refine ⟨nm, rfl, cib, ⟨cib, ?_⟩, cib, ?_⟩
        · refine c_someNode hRb (by omega) fun cn n wc hDn hRc cc => ⟨_, _, _, _, _, rfl, ?_⟩
          have cic := cib.trans cc
          have zc := cc.size
          have hIc := hI.chg cic hSb
          refine ⟨cic, ⟨?_, cic, ?_⟩⟩
          · refine (c_spec_PutItem nm hnm hIc.its hDn.nd).mono ?_
            rintro _ wd ⟨l', c', bk, ys', rfl, hL, hc', ed⟩
            have cid := cic.trans (Chg.of_ext ed)
            have zd := ed.size
            refine ⟨_, _, _, rfl, cid, letW_i fun we hwe => ?_⟩
            have ee : Ext wd we := by rw [hwe]; exact (Ext.refl wd).alloc _
            have re : Row we wd.heap.size [.slice none 0 0, .int .i64 0] 29 := by rw [hwe]; exact Row.new wd [.slice none 0 0, .int .i64 0] _
            clear hwe
            refine ⟨cid.trans (Chg.of_ext ee), fin _ we l' c' bk ys' _ re (by omega) (hL.is.ext ee) (fun k hk => ⟨by have := hk.1; omega, by have := hk.2; omega⟩) hc' (((hRc.ext ed).ext ee).mono (by omega)) (cid.trans (Chg.of_ext ee))⟩
          · refine letW_i fun wd hwd => ?_
            have ed : Ext wc wd := by rw [hwd]; exact (Ext.refl wc).alloc _
            have rd : Row wd wc.heap.size [.slice none 0 0, .int .i64 0] 29 := by rw [hwd]; exact Row.new wc [.slice none 0 0, .int .i64 0] _
            clear hwd
            have zd := rd.lt
            refine ⟨cic.trans (Chg.of_ext ed), (c_spec_PutItem nm hnm (hIc.ext ed).its (hDn.nd.ext ed)).mono ?_⟩
            rintro _ we ⟨l', c', bk, ys', rfl, hL, hc', ee⟩
            refine ⟨_, _, _, rfl, fin _ we l' c' bk ys' _ (rd.ext ee) (by omega) hL.is (fun k hk => ⟨by have := hk.1; omega, by have := hk.1; omega⟩) hc' (((hRc.ext ed).ext ee).mono (by omega)) ((cic.trans (Chg.of_ext ed)).trans (Chg.of_ext ee))⟩
        · refine letW_i fun wc hwc => ?_
          have ec : Ext wb wc := by rw [hwc]; exact (Ext.refl wb).alloc _
          have rc : Row wc wb.heap.size [.slice none 0 0, .int .i64 0] 29 := by rw [hwc]; exact Row.new wb [.slice none 0 0, .int .i64 0] _
          clear hwc
          have zc := rc.lt
          have cic := cib.trans (Chg.of_ext ec)
          refine ⟨cic, cic, c_someNode (hRb.ext ec) (by omega) fun cn n wd hDn hRd cd => ⟨_, _, _, _, _, rfl, ?_⟩⟩
          have cid := cic.trans cd
          have zd := cd.size
          refine ⟨cid, (c_spec_PutItem nm hnm (hI.chg cid hSb).its hDn.nd).mono ?_⟩
          rintro _ we ⟨l', c', bk, ys', rfl, hL, hc', ee⟩
          refine ⟨_, _, _, rfl, fin _ we l' c' bk ys' _ ((rc.chg cd (by omega)).ext ee) (by omega) hL.is (fun k hk => ⟨by have := hk.1; omega, by have := hk.1; omega⟩) hc' ((hRd.ext ee).mono (by omega)) (cid.trans (Chg.of_ext ee))⟩
      · -- the variable first
        refine letW_i fun wb hwb => ?_
        have eb : Ext wa wb := by rw [hwb]; exact (Ext.refl wa).alloc _
        have rb : Row wb wa.heap.size [.slice none 0 0, .int .i64 0] 29 := by rw [hwb]; exact Row.new wa [.slice none 0 0, .int .i64 0] _
        clear hwb
        have zb := rb.lt
        have za : wi.heap.size ≤ wa.heap.size := ea.size
        have cib : Chg b wi wb := (Chg.of_ext ea).trans (Chg.of_ext eb)
        refine ⟨cib, cib, (c_spec_itemName ((hRx.ext ea).ext eb) (by omega)).mono ?_⟩
        rintro _ wc ⟨⟨nm, rfl, hnm⟩, hRc, cc⟩
        have cic := cib.trans cc
        have zc := cc.size
        refine ⟨nm, rfl, cic, cic, c_someNode hRc (by omega) fun cn n wd hDn hRd cd => ⟨_, _, _, _, _, rfl, ?_⟩⟩
        have cid := cic.trans cd
        have zd := cd.size
        refine ⟨cid, (c_spec_PutItem nm hnm (hI.chg cid hSb).its hDn.nd).mono ?_⟩
        rintro _ we ⟨l', c', bk, ys', rfl, hL, hc', ee⟩
        refine ⟨_, _, _, rfl, fin _ we l' c' bk ys' _ (((rb.chg cc (by omega)).chg cd (by omega)).ext ee) (by omega) hL.is (fun k hk => ⟨by have := hk.1; omega, by have := hk.1; omega⟩) hc' ((hRd.ext ee).mono (by omega)) (cid.trans (Chg.of_ext ee))⟩
    · rintro st wa ⟨N, l', c', bk, ys', S', rfl, hN, hNr, hI', hS', hc', hRa, cia⟩ _
      dsimp only
      have hrowa := hrow.chg cia (by omega)
      have hIa := hI.chg cia hSb
      have za : wi.heap.size ≤ wa.heap.size := cia.size
      have hSb' : ¬ S' b := fun hh => by have := (hS' b hh).1; omega
      refine (c_spec_reader_pick _ hRa (by omega) (by omega)).mono ?_
      rintro _ wb ⟨⟨pk, rfl, _⟩, hRb, cb⟩
      have cib := cia.trans cb
      have hrowb := hrowa.chg cb (by omega)
      have hIb := hIa.chg cb hSb
      have hNb := hNr.chg cb (by omega)
      have hI'b := hI'.chg cb hSb'
      have zb : wi.heap.size ≤ wb.heap.size := cib.size
      refine ⟨_, rfl, br_i (fun g1 => ?_) (fun g1 => ?_)⟩
      · refine ⟨fun w' => Chg b wb w', fun w' h => Chg.of_ext h, fun wc ec => ⟨Chg.of_ext ec, l, fun w' hq => (Row.st (hrowb.chg hq (by omega))).1, c, fun w' hq => (Row.st (hrowb.chg hq (by omega))).2, Chg.of_ext ec, ?_⟩⟩
        refine (c_spec_itemName (hRb.ext ec) (by omega)).mono ?_
        rintro _ wd ⟨⟨nm, rfl, hnm⟩, hRd, cd⟩
        have cbd : Chg b wb wd := (Chg.of_ext ec).trans cd
        have cid := cib.trans cbd
        have hId := hIb.chg cbd hSb
        have zd : wi.heap.size ≤ wd.heap.size := cid.size
        have hNd := hNb.chg cbd (by omega)
        have zN := hNd.lt
        refine ⟨nm, rfl, cbd, (c_spec_DropItem nm hId.its).mono ?_⟩
        rintro _ we ⟨l2, c2, b2, ys2, rfl, hL2, hc2, ee⟩
        have hIe := hL2.is
        refine ⟨_, _, _, rfl, onSome_i rfl (stSet (hNd.ext ee) fun wf rf cf => ?_)⟩
        have hIf := hIe.chg cf (fun hh => by have := hh.1; omega)
        have cif := Chg.fresh (cid.trans (Chg.of_ext ee)) cf hN
        have hRf := (hRd.ext ee).grown cf (fun k hk => by have := Option.some.inj hk; omega)
        have hrowf := ((hrowb.chg cbd (by omega)).ext ee).chg cf (by omega)
        obtain ⟨t0, t1⟩ := Row.st rf
        refine br_i (fun g2 => onSome_i rfl ?_) (fun g2 => ?_)
        · simp only [exL t0, exI t1]
          refine stSet hrowf fun wg rg cg => hK' wg l2 c2 ys2 _ (Bx + 200003) rg (hIf.chg cg (fun hh => by have := hh.1; omega)) (fun k hk => ⟨by have := hk.1; omega, by have := hk.1; omega⟩) hc2 (hRf.grown cg (fun k hk => by have := Option.some.inj hk; omega)) (by omega) (Chg.fresh (c2i.trans cif) cg (Nat.le_refl _))
        · refine hK' wf l c ys S (Bx + 200003) hrowf ((hId.ext ee).keep fun k hk hlt => cf.block k hlt fun e => by
            have h1 := hSl k hk
            have h2 : k = N := by simpa using e
            omega) hS hc hRf (by omega) (c2i.trans cif)
      · refine br_i (fun g2 => onSome_i rfl ?_) (fun g2 => ?_)
        · obtain ⟨t0, t1⟩ := Row.st hNb
          simp only [exL t0, exI t1]
          refine stSet hrowb fun wg rg cg => hK' wg l' c' ys' S' (Bx + 200002) rg (hI'b.chg cg (fun hh => by have := (hS' _ hh).1; omega)) (fun k hk => ⟨by have := (hS' k hk).1; omega, by have := (hS' k hk).1; omega⟩) hc' (hRb.grown cg (fun k hk => by have := Option.some.inj hk; omega)) (by omega) (Chg.fresh (c2i.trans cib) cg (Nat.le_refl _))
        · exact hK' wb l c ys S (Bx + 200002) hrowb hIb hS hc hRb (by omega) (c2i.trans cib)
  · have hk0 : k = 0 := by omega
    obtain ⟨t0, t1⟩ := Row.st hrow
    simp only [exL t0, exI t1]
    refine stOut (Φ := fun l c w' => ∃ (l' : Sl) (c' : Int) (ys : List It), Value.agg #[.slice l.a l.len l.cap, .int .i64 c] = svE l' c' ∧ IS (fun k => w.heap.size < k) w' l' ys ∧ (0 ≤ c' ∧ c' ≤ 1000 ∧ ys.length ≤ 1000) ∧ Rd w' b bs (B + 3000000) ∧ Chg b w w') ((ro.ext e2).chg c2i (by omega)) fun w' r' c' => ⟨l, c, ys, rfl, (hI.chg c' (fun hh => by have := (hS _ hh).1; omega)).mono fun k hk => (hS k hk).1, hc, (hRx.grown c' (fun k hk => by have := Option.some.inj hk; omega)).mono (by omega), Chg.fresh ((Chg.of_ext e02).trans c2i) c' (Nat.le_refl _)⟩
end Go.Proofs
