/-
  What functions of this seat compute, part 'NodeDraw2': contracts over their readable predicates. Conditions: each theorem's own hypotheses.
-/
import Derived.Test.YtiohmpihadcpaaaBase
import Derived.Test.YtiohmpihadcpaaaOpen
import Derived.Test.YtiohmpihadcpaaaGen
import Derived.Test.YtiohmpihadcpaaaCSmall
import Derived.Test.YtiohmpihadcpaaaCOrder
import Derived.Test.YtiohmpihadcpaaaCNode
import Derived.Test.YtiohmpihadcpaaaCNodeText
import Derived.Test.YtiohmpihadcpaaaCNodeValid
import Derived.Test.YtiohmpihadcpaaaCNodeSpec
import Derived.Test.YtiohmpihadcpaaaCHelpS
import Derived.Test.YtiohmpihadcpaaaCNodeHelp
import Derived.Test.YtiohmpihadcpaaaCNodeHelp2
import Derived.Test.YtiohmpihadcpaaaCNodeTop
import Derived.Test.YtiohmpihadcpaaaCNodeCopy
import Derived.Test.YtiohmpihadcpaaaCNodeAdd
import Derived.Test.YtiohmpihadcpaaaCDraw
import Derived.Test.YtiohmpihadcpaaaCNodeDraw
namespace Go.Proofs
open Go Go.Vc Go.RowKit
set_option maxRecDepth 100000
set_option linter.unusedVariables false
--! C:Small C:Order C:Node C:NodeText C:NodeValid C:NodeSpec C:HelpS C:NodeHelp C:NodeHelp2 C:NodeTop C:NodeCopy C:NodeAdd C:Draw C:NodeDraw
/-! ## Draws of nodes: the outer ones -/

theorem NdAt.relabel {S : Nat → Prop} {w : World} {c : NdC} {n : Nd} (h : NdAt S w c n) (k m : Int) (t : ByteArray) (ht : t.size ≤ maxLen) : NdAt S w ⟨k, m, t, c.sn, c.sk⟩ (.mk k m t n.ns n.ks) := by
  cases h with
  | mk _ names kids cs hn hk hl hS1 hS2 hb hq h => exact .mk ⟨k, m, t, c.sn, c.sk⟩ names kids cs hn hk hl hS1 hS2 ⟨ht, hb.2⟩ hq h

set_option maxHeartbeats 4000000 in
theorem c_someNode {w : World} {b : Nat} {bs : List UInt8} {B : Nat} (h : Rd w b bs B) (hB : B ≤ 1000000000) {Φ : Value → World → Prop}
    (hk : ∀ c n w', Dn w.heap.size w' c n → Rd w' b bs (B + 200000) → Chg b w w' → Φ (NdC.v c) w') : CallR Try.prog 61 [.pointer (some ⟨b, 0, none⟩)] w Φ := by
  refine fn_spec_someNode _ _ _ ?_
  unfold g_spec_someNode
  have hlt := h.lt
  refine letW_i fun w1 hw1 => ?_
  have e1 : Ext w w1 := by rw [hw1]; exact (Ext.refl w).alloc _
  have ra : Row w1 w.heap.size (cN zeroN) 50 := by rw [hw1]; exact Row.new w (cN zeroN) _
  clear hw1
  have z1 := ra.lt
  have hR := c_spec_randomNode_3 w1 b bs B (h.ext e1) (by omega)
  refine hR.mono ?_
  rintro _ w3 ⟨⟨c1, x1, rfl, hx1⟩, h3, c3⟩
  have p4 : 10 ^ (3 + 1) = 10000 := by decide
  have p3 : 10 ^ (2 + 1) = 1000 := by decide
  rw [p4] at h3
  have z3 := c3.size
  refine ⟨_, _, _, _, _, rfl, local5 fun w14 r14 e14 => ?_⟩
  have z14 := (show Row w14 w3.heap.size _ _ from r14).lt
  have c014 := ((Chg.of_ext e1).trans c3).trans (Chg.of_ext e14)
  refine (c_spec_reader_pick _ (h3.ext e14) (by omega) (by omega)).mono ?_
  rintro _ w16 ⟨⟨k16, rfl, _⟩, h16, c16⟩
  have z16 := c16.size
  have r16 : Row w16 w3.heap.size (cN c1) 50 := Row.chg (b' := w3.heap.size) (vs := cN c1) r14 c16 (by omega)
  have ra16 := ((ra.chg c3 (by omega)).ext e14).chg c16 (by omega)
  have hx16 := (hx1.ext e14).chg c16 (by omega)
  have c016 := c014.trans c16
  refine ⟨_, rfl, br_d (fun g => ?_) (fun g => ?_)⟩
  · refine c_randomMap_of (d := 2) (M := 1960000000) (by decide) (by decide) (by decide) c_spec_randomNode_2 h16 (by omega) fun c2 x2 w19 hx2 h19 c19 => ?_
    rw [p3] at h19
    have z19 := c19.size
    refine ⟨_, _, _, _, _, rfl, Row.set5 (r16.chg c19 (by omega)) fun w29 r29 c29 => ?_⟩
    have hx29 := hx2.chg c29 (by omega)
    have ra29 := (ra16.chg c19 (by omega)).chg c29 (by omega)
    have h29 := h19.grown c29 (fun k hk => by have := Option.some.inj hk; omega)
    have c029 := Chg.fresh (c016.trans c19) c29 (by omega)
    obtain ⟨f0, f1, f2, f3, f4⟩ := Row.nd (c := c2) r29
    simp only [exI f0, exI f1, exS f2, exL f3, exL f4]
    refine (c_spec_validNode (hx29).nd).go fun wv ev => ⟨_, rfl, br_i (fun g => ?_) (fun g => ?_)⟩
    · refine outNd (d := ⟨0, 0, ⟨#[]⟩, ⟨none, 0, 0⟩, ⟨none, 0, 0⟩⟩) ((ra29).ext ev) fun w' r' c' => hk _ _ w' (Dn.leaf _ _ _ _ _ (Nat.zero_le _)) ?_ ?_
      · exact (((h29).ext ev).grown c' (fun k hk => by have := Option.some.inj hk; omega)).mono (by omega)
      · exact Chg.fresh ((c029).trans (Chg.of_ext ev)) c' (Nat.le_refl _)
    · simp only [exI (ev.get f0), exI (ev.get f1), exS (ev.get f2), exL (ev.get f3), exL (ev.get f4)]
      refine outNd (d := c2) ((ra29).ext ev) fun w' r' c' => hk c2 x2 w' ((((hx29).ext ev).chg c' (by omega)).base_le (by omega)) ?_ ?_
      · exact (((h29).ext ev).grown c' (fun k hk => by have := Option.some.inj hk; omega)).mono (by omega)
      · exact Chg.fresh ((c029).trans (Chg.of_ext ev)) c' (Nat.le_refl _)
  · obtain ⟨f0, f1, f2, f3, f4⟩ := Row.nd r16
    simp only [exI f0, exI f1, exS f2, exL f3, exL f4]
    refine (c_spec_validNode (hx16).nd).go fun wv ev => ⟨_, rfl, br_i (fun g => ?_) (fun g => ?_)⟩
    · refine outNd (d := ⟨0, 0, ⟨#[]⟩, ⟨none, 0, 0⟩, ⟨none, 0, 0⟩⟩) ((ra16).ext ev) fun w' r' c' => hk _ _ w' (Dn.leaf _ _ _ _ _ (Nat.zero_le _)) ?_ ?_
      · exact (((h16).ext ev).grown c' (fun k hk => by have := Option.some.inj hk; omega)).mono (by omega)
      · exact Chg.fresh ((c016).trans (Chg.of_ext ev)) c' (Nat.le_refl _)
    · simp only [exI (ev.get f0), exI (ev.get f1), exS (ev.get f2), exL (ev.get f3), exL (ev.get f4)]
      refine outNd (d := c1) ((ra16).ext ev) fun w' r' c' => hk c1 x1 w' ((((hx16).ext ev).chg c' (by omega)).base_le (by omega)) ?_ ?_
      · exact (((h16).ext ev).grown c' (fun k hk => by have := Option.some.inj hk; omega)).mono (by omega)
      · exact Chg.fresh ((c016).trans (Chg.of_ext ev)) c' (Nat.le_refl _)

/-! ### Any node -/

theorem NdAt.rename {S : Nat → Prop} {w : World} {k m : Int} {t : ByteArray} {sk s' : Sl} {ns' : List ByteArray} {ks : List Nd} (h : NdAt S w ⟨k, m, t, ⟨none, 0, 0⟩, sk⟩ (.mk k m t [] ks)) (hs : Strs w s' ns') (hS : ∀ a, s'.a = some a → S a.block) (hl : ns'.length ≤ maxLen) (hn : ∀ x ∈ ns', x.size ≤ maxLen) (hc : s'.a = none → s'.cap = 0) :
    NdAt S w ⟨k, m, t, s', sk⟩ (.mk k m t ns' ks) := by
  generalize hg : Nd.mk k m t [] ks = n0 at h
  cases h with
  | mk _ names kids cs hn0 hk hl0 hS1 hS2 hb hq h =>
    injection hg with _ _ _ _ hks
    subst hks
    exact .mk ⟨k, m, t, s', sk⟩ ns' ks cs hs hk hl0 (fun _ => hS) hS2 ⟨hb.1, hl, hb.2.2.1, hn⟩ hc h

theorem NdAt.wrap {S : Nat → Prop} {w : World} {g : Nat} {d : NdC} {x : Nd} (r : Row w g (cN d) 50) (h : NdAt S w d x) (hS : S g) : NdAt S w ⟨3, 0, ⟨#[]⟩, ⟨none, 0, 0⟩, ⟨some ⟨g, 0, none⟩, 1, 1⟩⟩ (.mk 3 0 ⟨#[]⟩ [] [x]) := by
  refine NdAt.mk ⟨3, 0, ⟨#[]⟩, ⟨none, 0, 0⟩, ⟨some ⟨g, 0, none⟩, 1, 1⟩⟩ [] [x] [d] (SlOf.nil cS w) (Row.slOf (xs := [d]) (c := cN) (by simpa using r) (Nat.le_refl _)) rfl (fun h => absurd rfl h) (fun _ a ha => ?_) ⟨Nat.zero_le _, Nat.zero_le _, by unfold maxLen; simp, by simp⟩ (fun _ => rfl) (fun i d' y h1 h2 => ?_)
  · have : a = ⟨g, 0, none⟩ := (Option.some.inj ha).symm
    rw [this]; exact hS
  · have : i = 0 := by have := (List.getElem?_eq_some_iff.1 h1).1; simp at this; omega
    subst this
    simp at h1 h2
    subst h1 h2
    exact h

theorem Row.set_k {w : World} {b : Nat} {c : NdC} {e : TypeId} {K : World → Prop} (r : Row w b (cN c) e) (k : Int) (hk : ∀ w', Row w' b (cN ⟨k, c.m, c.t, c.sn, c.sk⟩) e → Chg b w w' → K w') : Wr w ((⟨b, 0, none⟩ : Addr).add 0) ∧ letW (w.setCell ((⟨b, 0, none⟩ : Addr).add 0) (.int .i64 k)) K := by
  obtain ⟨p, q⟩ := Row.setMid (A := []) (B := [.int .i64 c.m, .string c.t, .slice c.sn.a c.sn.len c.sn.cap, .slice c.sk.a c.sk.len c.sk.cap]) (p := (⟨b, 0, none⟩ : Addr).add 0) r rfl (.int .i64 k)
  exact ⟨p, hk _ q ((Chg.refl b w).set (by rw [add_block]) _)⟩
theorem Row.set_m {w : World} {b : Nat} {c : NdC} {e : TypeId} {K : World → Prop} (r : Row w b (cN c) e) (m : Int) (hk : ∀ w', Row w' b (cN ⟨c.k, m, c.t, c.sn, c.sk⟩) e → Chg b w w' → K w') : Wr w ((⟨b, 0, none⟩ : Addr).add 1) ∧ letW (w.setCell ((⟨b, 0, none⟩ : Addr).add 1) (.int .i64 m)) K := by
  obtain ⟨p, q⟩ := Row.setMid (A := [.int .i64 c.k]) (B := [.string c.t, .slice c.sn.a c.sn.len c.sn.cap, .slice c.sk.a c.sk.len c.sk.cap]) (p := (⟨b, 0, none⟩ : Addr).add 1) r rfl (.int .i64 m)
  exact ⟨p, hk _ q ((Chg.refl b w).set (by rw [add_block]) _)⟩
theorem Row.set_t {w : World} {b : Nat} {c : NdC} {e : TypeId} {K : World → Prop} (r : Row w b (cN c) e) (t : ByteArray) (hk : ∀ w', Row w' b (cN ⟨c.k, c.m, t, c.sn, c.sk⟩) e → Chg b w w' → K w') : Wr w ((⟨b, 0, none⟩ : Addr).add 2) ∧ letW (w.setCell ((⟨b, 0, none⟩ : Addr).add 2) (.string t)) K := by
  obtain ⟨p, q⟩ := Row.setMid (A := [.int .i64 c.k, .int .i64 c.m]) (B := [.slice c.sn.a c.sn.len c.sn.cap, .slice c.sk.a c.sk.len c.sk.cap]) (p := (⟨b, 0, none⟩ : Addr).add 2) r rfl (.string t)
  exact ⟨p, hk _ q ((Chg.refl b w).set (by rw [add_block]) _)⟩
theorem Row.set_sn {w : World} {b : Nat} {c : NdC} {e : TypeId} {K : World → Prop} (r : Row w b (cN c) e) (s : Sl) (hk : ∀ w', Row w' b (cN ⟨c.k, c.m, c.t, s, c.sk⟩) e → Chg b w w' → K w') : Wr w ((⟨b, 0, none⟩ : Addr).add 3) ∧ letW (w.setCell ((⟨b, 0, none⟩ : Addr).add 3) (.slice s.a s.len s.cap)) K := by
  obtain ⟨p, q⟩ := Row.setMid (A := [.int .i64 c.k, .int .i64 c.m, .string c.t]) (B := [.slice c.sk.a c.sk.len c.sk.cap]) (p := (⟨b, 0, none⟩ : Addr).add 3) r rfl (.slice s.a s.len s.cap)
  exact ⟨p, hk _ q ((Chg.refl b w).set (by rw [add_block]) _)⟩

set_option maxHeartbeats 8000000 in
theorem c_anyNode {w : World} {b : Nat} {bs : List UInt8} {B : Nat} (h : Rd w b bs B) (hB : B ≤ 900000000) {Φ : Value → World → Prop}
    (hk : ∀ c n w', NdAt (fun j => w.heap.size < j) w' c n → Chg b w w' → Φ (NdC.v c) w') : CallR Try.prog 49 [.pointer (some ⟨b, 0, none⟩)] w Φ := by
  refine fn_spec_anyNode _ _ _ ?_
  unfold g_spec_anyNode
  have hlt := h.lt
  simp only [beqI]
  refine letW_i fun w1 hw1 => ?_
  have e1 : Ext w w1 := by rw [hw1]; exact (Ext.refl w).alloc _
  have ra : Row w1 w.heap.size (cN zeroN) 50 := by rw [hw1]; exact Row.new w (cN zeroN) _
  clear hw1
  have z1 := ra.lt
  refine c_someNode (h.ext e1) (by omega) fun c x w3 hx h3 c3 => ?_
  have z3 := c3.size
  refine ⟨_, _, _, _, _, rfl, local5 fun w14 r14 e14 => ?_⟩
  have z14 := (show Row w14 w3.heap.size _ _ from r14).lt
  have c014 := ((Chg.of_ext e1).trans c3).trans (Chg.of_ext e14)
  refine (c_spec_reader_pick _ (h3.ext e14) (by omega) (by omega)).mono ?_
  rintro _ w16 ⟨⟨k16, rfl, _⟩, h16, c16⟩
  have z16 := c16.size
  have r16 : Row w16 w3.heap.size (cN c) 50 := Row.chg (b' := w3.heap.size) (vs := cN c) r14 c16 (by omega)
  have ra16 := ((ra.chg c3 (by omega)).ext e14).chg c16 (by omega)
  have hx16 := (hx.ext e14).chg c16 (by omega)
  have hs16 : NdAt (fun j => w1.heap.size ≤ j ∧ j < w3.heap.size) w16 c x := ((hx.nd.mono (S' := fun j => w1.heap.size ≤ j ∧ j < w3.heap.size) fun k hk hlt => ⟨hk, hlt⟩).ext e14).chg c16 (by omega)
  have hb16 : NdAt (fun j => (w1.heap.size ≤ j ∧ c.sn.v.ownBlock ≠ some j) ∧ j < w3.heap.size) w16 ⟨c.k, c.m, c.t, ⟨none, 0, 0⟩, c.sk⟩ (.mk c.k c.m c.t [] x.ks) := ((hx.bare.mono (S' := fun j => (w1.heap.size ≤ j ∧ c.sn.v.ownBlock ≠ some j) ∧ j < w3.heap.size) fun k hk hlt => ⟨hk, hlt⟩).ext e14).chg c16 (by omega)
  have hown : ∀ k, c.sn.v.ownBlock = some k → w1.heap.size ≤ k ∧ k < w3.heap.size := fun k hk => hx.own.lt k hk
  have c016 := c014.trans c16
  obtain ⟨tn, tk, tks⟩ := tm_out hx.tame
  have hxo := hx.nd.out
  have hbb := h16.lt
  refine ⟨_, rfl, br_d (fun g0 => ?_) (fun g0 => br_d (fun g1 => ?_) (fun g1 => br_d (fun g2 => ?_) (fun g2 => br_d (fun g3 => ?_) (fun g3 => br_d (fun g4 => ?_) (fun g4 => br_d (fun g5 => ?_) (fun g5 => ?_))))))⟩
  · refine letW_i fun w18 hw18 => ?_
    have e18 : Ext w16 w18 := by rw [hw18]; exact (Ext.refl w16).alloc _
    have r18 : Row w18 w16.heap.size (([-1, 5, 0, 3] : List Int).flatMap cI) 3 := by rw [hw18]; exact Row.new w16 _ _
    clear hw18
    refine (c_spec_reader_one (h16.ext e18) (by omega) (r18.slOf (cap := 4) (by simp)) (apart_new (by omega)) (by simp) (by simp)).mono ?_
    rintro _ w20 ⟨⟨v, hv, rfl⟩, h20, c20⟩
    refine ⟨_, rfl, Row.set_k ((r16.ext e18).chg c20 (by omega)) v fun w22 r22 c22 => ?_⟩
    have nd22 := (((hs16.ext e18).chg c20 (by omega)).chg c22 (by omega)).relabel v c.m c.t hxo.2.2.2.2.1 
    obtain ⟨f0, f1, f2, f3, f4⟩ := Row.nd (c := ⟨v, c.m, c.t, c.sn, c.sk⟩) r22
    simp only [exI f0, exI f1, exS f2, exL f3, exL f4]
    exact outNd (d := ⟨v, c.m, c.t, c.sn, c.sk⟩) (((ra16.ext e18).chg c20 (by omega)).chg c22 (by omega)) fun w' r' c' => hk ⟨v, c.m, c.t, c.sn, c.sk⟩ _ w' ((NdAt.chg (nd22) c' (by omega)).mono fun k hk _ => by omega) (Chg.fresh (Chg.fresh ((c016.trans (Chg.of_ext e18)).trans c20) c22 (by omega)) c' (Nat.le_refl _))
  · refine letW_i fun w18 hw18 => ?_
    have e18 : Ext w16 w18 := by rw [hw18]; exact (Ext.refl w16).alloc _
    have r18 : Row w18 w16.heap.size (([1, 1000000] : List Int).flatMap cI) 3 := by rw [hw18]; exact Row.new w16 _ _
    clear hw18
    refine (c_spec_reader_one (h16.ext e18) (by omega) (r18.slOf (cap := 2) (by simp)) (apart_new (by omega)) (by simp) (by simp)).mono ?_
    rintro _ w20 ⟨⟨v, hv, rfl⟩, h20, c20⟩
    refine ⟨_, rfl, Row.set_m ((r16.ext e18).chg c20 (by omega)) v fun w22 r22 c22 => ?_⟩
    have nd22 := (((hs16.ext e18).chg c20 (by omega)).chg c22 (by omega)).relabel c.k v c.t hxo.2.2.2.2.1 
    obtain ⟨f0, f1, f2, f3, f4⟩ := Row.nd (c := ⟨c.k, v, c.t, c.sn, c.sk⟩) r22
    simp only [exI f0, exI f1, exS f2, exL f3, exL f4]
    exact outNd (d := ⟨c.k, v, c.t, c.sn, c.sk⟩) (((ra16.ext e18).chg c20 (by omega)).chg c22 (by omega)) fun w' r' c' => hk ⟨c.k, v, c.t, c.sn, c.sk⟩ _ w' ((NdAt.chg (nd22) c' (by omega)).mono fun k hk _ => by omega) (Chg.fresh (Chg.fresh ((c016.trans (Chg.of_ext e18)).trans c20) c22 (by omega)) c' (Nat.le_refl _))
  · refine Row.set_t r16 _ fun w22 r22 c22 => ?_
    have nd22 := (hs16.chg c22 (by omega)).relabel c.k c.m ⟨#[97, 98, 99, 100, 101, 102, 103, 104, 105, 106, 107, 108, 109]⟩ (by decide)
    obtain ⟨f0, f1, f2, f3, f4⟩ := Row.nd (c := ⟨c.k, c.m, ⟨#[97, 98, 99, 100, 101, 102, 103, 104, 105, 106, 107, 108, 109]⟩, c.sn, c.sk⟩) r22
    simp only [exI f0, exI f1, exS f2, exL f3, exL f4]
    exact outNd (d := ⟨c.k, c.m, ⟨#[97, 98, 99, 100, 101, 102, 103, 104, 105, 106, 107, 108, 109]⟩, c.sn, c.sk⟩) (ra16.chg c22 (by omega)) fun w' r' c' => hk ⟨c.k, c.m, ⟨#[97, 98, 99, 100, 101, 102, 103, 104, 105, 106, 107, 108, 109]⟩, c.sn, c.sk⟩ _ w' ((NdAt.chg (nd22) c' (by omega)).mono fun k hk _ => by omega) (Chg.fresh (Chg.fresh c016 c22 (by omega)) c' (Nat.le_refl _))
  · rw [exL (Row.nd r16).2.2.2.1]
    obtain ⟨bl, hbl, late⟩ : ∃ bl, bl < w3.heap.size ∧ Late bl w16.heap.size c.sn := by
      cases ha : c.sn.v.ownBlock with
      | none => exact ⟨0, by omega, fun k hk => by rw [ha] at hk; cases hk⟩
      | some k0 => exact ⟨k0, (hown k0 ha).2, fun k hk => by rw [ha] at hk; exact .inl (Option.some.inj hk).symm⟩
    refine push1_at (x := (⟨#[]⟩ : ByteArray)) cS_len (by decide) (fun u hu => by simp [cS] at hu; subst hu; rfl) hx16.own (by omega) (by omega) (by decide) late (Nat.le_refl _) (fun s' wm w77 hl' o' em om hg late' => ?_)
    have ndb := (hb16.ext em).grown hg (fun k hk hS => hS.1.2 hk)
    have r77 : Row w77 w3.heap.size (cN c) 50 := (r16.ext em).grown hg (fun e => by have := (hown _ e).2; omega)
    have ra77 : Row w77 w.heap.size (cN zeroN) 50 := (ra16.ext em).grown hg (fun e => by have := (hown _ e).1; omega)
    have sa : ∀ a, s'.a = some a → s'.v.ownBlock = some a.block := fun a ha => by simp [Sl.v, Value.ownBlock, ha]
    have far : ∀ a, s'.a = some a → a.block ≠ w3.heap.size := fun a ha => by
      rcases late' _ (sa a ha) with h1 | h1 <;> omega
    have c077 := Chg.freshRow (c016.trans (Chg.of_ext em)) hg (fun k hk => by have := (hown k hk).1; omega)
    refine Row.set_sn r77 s' fun w78 r78 c78 => ?_
    have nd78 : NdAt (fun j => w1.heap.size ≤ j ∧ j ≠ w3.heap.size) w78 ⟨c.k, c.m, c.t, s', c.sk⟩ (.mk c.k c.m c.t (x.ns ++ [⟨#[]⟩]) x.ks) := by
      refine NdAt.rename ((ndb.mono (S' := fun j => w1.heap.size ≤ j ∧ j ≠ w3.heap.size) fun k hk _ => by omega).chg c78 (fun hh => hh.2 rfl)) ((o'.slOf cS_len (by decide)).chg c78 (fun a ha => far a ha)) (fun a ha => ⟨(o'.lt _ (sa a ha)).1, far a ha⟩) (by unfold maxLen; simp; omega) ?_ (Own.cap0 o')
      intro y hy
      rcases List.mem_append.1 hy with hy | hy
      · exact hx.names y hy
      · simp at hy; rw [hy]; exact Nat.zero_le _
    obtain ⟨f0, f1, f2, f3, f4⟩ := Row.nd (c := ⟨c.k, c.m, c.t, s', c.sk⟩) r78
    simp only [exI f0, exI f1, exS f2, exL f3, exL f4]
    exact outNd (d := ⟨c.k, c.m, c.t, s', c.sk⟩) (ra77.chg c78 (by omega)) fun w' r' c' => hk ⟨c.k, c.m, c.t, s', c.sk⟩ _ w' ((NdAt.chg (nd78) c' (by omega)).mono fun k hk _ => by omega) (Chg.fresh (Chg.fresh c077 c78 (by omega)) c' (Nat.le_refl _))
  · obtain ⟨f0, f1, f2, f3, f4⟩ := Row.nd r16
    simp only [exI f0, exI f1, exS f2, exL f3, exL f4]
    refine letW_i fun w99 hw99 => letW_i fun w100 hw100 => letW_i fun w101 hw101 => letW_i fun w102 hw102 => ?_
    have e99 : Ext w16 w99 := by rw [hw99]; exact (Ext.refl w16).alloc _
    have e100 : Ext w99 w100 := by rw [hw100]; exact (Ext.refl w99).alloc _
    have e101 : Ext w100 w101 := by rw [hw101]; exact (Ext.refl w100).alloc _
    have e102 : Ext w101 w102 := by rw [hw102]; exact (Ext.refl w101).alloc _
    have q1 : Row w99 w16.heap.size (cN c) 50 := by rw [hw99]; exact Row.new w16 (cN c) _
    have q2 : Row w100 w99.heap.size (cN ⟨3, 0, ⟨#[]⟩, ⟨none, 0, 0⟩, ⟨some ⟨w16.heap.size, 0, none⟩, 1, 1⟩⟩) 50 := by rw [hw100]; exact Row.new w99 (cN ⟨3, 0, ⟨#[]⟩, ⟨none, 0, 0⟩, ⟨some ⟨w16.heap.size, 0, none⟩, 1, 1⟩⟩) _
    have q3 : Row w101 w100.heap.size (cN ⟨3, 0, ⟨#[]⟩, ⟨none, 0, 0⟩, ⟨some ⟨w99.heap.size, 0, none⟩, 1, 1⟩⟩) 50 := by rw [hw101]; exact Row.new w100 (cN ⟨3, 0, ⟨#[]⟩, ⟨none, 0, 0⟩, ⟨some ⟨w99.heap.size, 0, none⟩, 1, 1⟩⟩) _
    have q4 : Row w102 w101.heap.size (cN ⟨3, 0, ⟨#[]⟩, ⟨none, 0, 0⟩, ⟨some ⟨w100.heap.size, 0, none⟩, 1, 1⟩⟩) 50 := by rw [hw102]; exact Row.new w101 (cN ⟨3, 0, ⟨#[]⟩, ⟨none, 0, 0⟩, ⟨some ⟨w100.heap.size, 0, none⟩, 1, 1⟩⟩) _
    clear hw99 hw100 hw101 hw102
    have y1 := q1.lt
    have y2 := q2.lt
    have y3 := q3.lt
    have y4 := q4.lt
    have n0 := hs16.mono (S' := fun j => w1.heap.size ≤ j ∧ j ≠ w3.heap.size) fun k hk _ => by omega
    have n1 := NdAt.wrap q1 (n0.ext e99) (by omega)
    have n2 := NdAt.wrap q2 (n1.ext e100) (by omega)
    have n3 := NdAt.wrap q3 (n2.ext e101) (by omega)
    have n4 := NdAt.wrap q4 (n3.ext e102) (by omega)
    have e16 := ((e99.trans e100).trans e101).trans e102
    refine Row.set5 (r16.ext e16) fun w107 r107 c107 => ?_
    have nd107 := n4.chg c107 (fun hh => hh.2 rfl)
    obtain ⟨f0, f1, f2, f3, f4⟩ := Row.nd (c := ⟨3, 0, ⟨#[]⟩, ⟨none, 0, 0⟩, ⟨some ⟨w101.heap.size, 0, none⟩, 1, 1⟩⟩) r107
    simp only [exI f0, exI f1, exS f2, exL f3, exL f4]
    exact outNd (d := ⟨3, 0, ⟨#[]⟩, ⟨none, 0, 0⟩, ⟨some ⟨w101.heap.size, 0, none⟩, 1, 1⟩⟩) ((ra16.ext e16).chg c107 (by omega)) fun w' r' c' => hk ⟨3, 0, ⟨#[]⟩, ⟨none, 0, 0⟩, ⟨some ⟨w101.heap.size, 0, none⟩, 1, 1⟩⟩ _ w' ((NdAt.chg (nd107) c' (by omega)).mono fun k hk _ => by omega) (Chg.fresh (Chg.fresh (c016.trans (Chg.of_ext e16)) c107 (by omega)) c' (Nat.le_refl _))
  · refine letW_i fun w123 hw123 => ?_
    have e123 : Ext w16 w123 := by rw [hw123]; exact (Ext.refl w16).alloc _
    have q123 : KidsAt w16.heap.size w123 ⟨some ⟨w16.heap.size, 0, none⟩, 0, 0⟩ [] := by rw [hw123]; exact KidsAt.nil (Nat.le_refl _)
    clear hw123
    refine sLoop.intro (fun s w' => ∃ i : Nat, s.1 = (i : Int) ∧ i ≤ 7 ∧ Chg b w16 w' ∧ ∃ B', Rd w' b bs B' ∧ B' ≤ B + 300000 + i ∧ ∃ ks, KidsAt w16.heap.size w' s.2.1 ks ∧ ks.length = i) (fun s _ => 7 - s.1.toNat) ⟨0, rfl, by omega, Chg.of_ext e123, _, h16.ext e123, by omega, [], q123, rfl⟩ ?_
    rintro ⟨i0, l, u⟩ w126 K ⟨i, hi, hi7, hc, B', hR, hB', ks, hks, hkl⟩ hK _
    simp only at hi hks
    subst hi
    have zc := hc.size
    have hown2 := hks.nd.2.1
    refine (c_spec_reader_pick _ hR (by omega) (by omega)).mono ?_
    rintro _ w129 ⟨⟨k, rfl, hk2⟩, h129, c129⟩
    have hk2' := hk2 (by omega)
    have z129 := c129.size
    have hc129 := hc.trans c129
    have hks129 := hks.chg c129 hbb
    refine ⟨_, rfl, inR_i64 (by omega) (by omega), br_d (fun g => ?_) (fun g => ?_)⟩
    · obtain ⟨f0, f1, f2, f3, f4⟩ := Row.nd (r16.chg hc129 (by omega))
      simp only [exI f0, exI f1, exS f2, exL f3, exL f4]
      refine (c_spec_copyNode _ w129 c x (Nat.le_refl _) hx.tame (hs16.chg hc129 (by omega))).mono ?_
      rintro _ w137 ⟨vn, vk, rfl, hvk, hvn, e137⟩
      have tv : NdAt (fun k => w129.heap.size ≤ k) w137 ⟨x.k, x.m, x.t, vn, vk⟩ x := by
        have := NdAt.make (k := x.k) (m := x.m) (t := x.t) hvk hvn (by rw [← hxo.2.2.1]; exact hxo.2.2.2.2.1) (by omega) (by omega) hxo.2.2.2.2.2.2.2.1
        cases x; exact this
      have z137 := e137.size
      refine ⟨_, _, _, _, _, rfl, KidsAt.push2 (m := w129.heap.size) (d := ⟨x.k, x.m, x.t, vn, vk⟩) (hks129.ext e137) tv (fun k hk => by have := (hown2 k hk).2; omega) (by omega) (by omega) (by omega) (fun s' w8 hk8 e8 hg8 => ⟨inR_i64 (by omega) (by omega), hK _ _ ⟨i + 1, by simp, by omega, ?_, B' + 1, ?_, by omega, ks ++ [x], hk8, by simp [hkl]⟩ (by simp only; omega)⟩)⟩
      · exact Chg.freshRow ((hc129.trans (Chg.of_ext e137)).trans (Chg.of_ext e8)) hg8 (fun k hk => (hown2 k hk).1)
      · exact ((h129.ext e137).ext e8).grown hg8 (fun k hk => by have := (hown2 k hk).1; omega)
    · refine Row.set5 (r16.chg hc129 (by omega)) fun w150 r150 c150 => ?_
      have nd150 : NdAt (fun j => w16.heap.size ≤ j) w150 ⟨3, 0, ⟨#[]⟩, ⟨none, 0, 0⟩, l⟩ (.mk 3 0 ⟨#[]⟩ [] ks) := (NdAt.make (k := 3) (m := 0) (t := ⟨#[]⟩) (ns := []) hks129 (Own.nil w129 _ 1 _) (Nat.zero_le _) (by simp) (by omega) (by simp)).chg c150 (by omega)
      obtain ⟨f0, f1, f2, f3, f4⟩ := Row.nd (c := ⟨3, 0, ⟨#[]⟩, ⟨none, 0, 0⟩, l⟩) r150
      simp only [exI f0, exI f1, exS f2, exL f3, exL f4]
      exact outNd (d := ⟨3, 0, ⟨#[]⟩, ⟨none, 0, 0⟩, l⟩) ((ra16.chg hc129 (by omega)).chg c150 (by omega)) fun w' r' c' => hk ⟨3, 0, ⟨#[]⟩, ⟨none, 0, 0⟩, l⟩ _ w' ((NdAt.chg (nd150) c' (by omega)).mono fun k hk _ => by omega) (Chg.fresh (Chg.fresh (c016.trans hc129) c150 (by omega)) c' (Nat.le_refl _))
  · obtain ⟨f0, f1, f2, f3, f4⟩ := Row.nd (c := c) r16
    simp only [exI f0, exI f1, exS f2, exL f3, exL f4]
    exact outNd (d := c) (ra16) fun w' r' c' => hk c _ w' ((NdAt.chg (hs16) c' (by omega)).mono fun k hk _ => by omega) (Chg.fresh (c016) c' (Nat.le_refl _))
end Go.Proofs
