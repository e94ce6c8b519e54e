/-
  What functions of this seat compute, part 'NearShape3': contracts over their readable predicates. Conditions: each theorem's own hypotheses.
-/
import Derived.Test.YtcgfhchmpoaiiaaBase
import Derived.Test.YtcgfhchmpoaiiaaOpen
import Derived.Test.YtcgfhchmpoaiiaaGen
import Derived.Test.YtcgfhchmpoaiiaaCSmall
import Derived.Test.YtcgfhchmpoaiiaaCOrder
import Derived.Test.YtcgfhchmpoaiiaaCNode
import Derived.Test.YtcgfhchmpoaiiaaCNodeText
import Derived.Test.YtcgfhchmpoaiiaaCNodeValid
import Derived.Test.YtcgfhchmpoaiiaaCNodeSpec
import Derived.Test.YtcgfhchmpoaiiaaCHelpS
import Derived.Test.YtcgfhchmpoaiiaaCNodeHelp
import Derived.Test.YtcgfhchmpoaiiaaCNodeHelp2
import Derived.Test.YtcgfhchmpoaiiaaCNodeTop
import Derived.Test.YtcgfhchmpoaiiaaCCells
import Derived.Test.YtcgfhchmpoaiiaaCShape
import Derived.Test.YtcgfhchmpoaiiaaCShape2
import Derived.Test.YtcgfhchmpoaiiaaCShapeOf
import Derived.Test.YtcgfhchmpoaiiaaCShapeOf2
import Derived.Test.YtcgfhchmpoaiiaaCShapeOf3
import Derived.Test.YtcgfhchmpoaiiaaCShapeOf4
import Derived.Test.YtcgfhchmpoaiiaaCNodeCopy
import Derived.Test.YtcgfhchmpoaiiaaCNodeAdd
import Derived.Test.YtcgfhchmpoaiiaaCDraw
import Derived.Test.YtcgfhchmpoaiiaaCNodeDraw
import Derived.Test.YtcgfhchmpoaiiaaCNearShape
import Derived.Test.YtcgfhchmpoaiiaaCNearShape2
namespace Go.Proofs
open Go Go.Vc Go.RowKit
set_option maxRecDepth 100000
set_option linter.unusedVariables false
--! C:Small C:Order C:Node C:NodeText C:NodeValid C:NodeSpec C:HelpS C:NodeHelp C:NodeHelp2 C:NodeTop C:Cells C:Shape C:Shape2 C:ShapeOf C:ShapeOf2 C:ShapeOf3 C:ShapeOf4 C:NodeCopy C:NodeAdd C:Draw C:NodeDraw C:NearShape C:NearShape2
/-! ## A shape near that of a node: the code -/

theorem own_rebase {base base' : Nat} {e : TypeId} {size : Nat} {w : World} {s : Sl} {vs : List Value} (h : Own base e size w s vs) (hb : ∀ k, s.v.ownBlock = some k → base' ≤ k) : Own base' e size w s vs := by
  refine ⟨h.1, ?_⟩
  rcases h.2 with hn | ⟨g, cap, cur, hv, hg, rest⟩
  · exact .inl hn
  · exact .inr ⟨g, cap, cur, hv, hb g (by rw [hv]; rfl), rest⟩

theorem ShM.nsd {w : World} {F : Nat → Prop} {e : ShC} {x : Sh} {B N : Nat} (h : ShM w F e x) (hF : ∀ k, F k → B ≤ k ∧ k < N) (hBN : B ≤ N) (r : Row w N (cSh e) 31) : ∃ cs, NSd B N x.k e.sn e.sb e.sk x.ns x.bs cs x.ks w := by
  cases h with
  | mk _ Fs _ names needs kids cs on ob ok hl hF' hs hd hm h =>
    refine ⟨cs, r, own_rebase on fun k hk => (hF k (hF' k (.inl hk))).1, own_rebase ob fun k hk => (hF k (hF' k (.inr (.inl hk)))).1, own_rebase ok fun k hk => (hF k (hF' k (.inr (.inr hk)))).1, hBN, fun hk => ?_, hl, fun i d y hd hy => ?_⟩
    · have := (hF N (hF' N (.inr (.inr hk)))).2; omega
    · refine (h i d y hd hy).at_.mono fun k hk _ => ?_
      obtain ⟨h1, h2⟩ := hs i k hk
      have := hF k h1
      exact ⟨this.1, by omega, h2⟩

def nc : Nat → Nat
  | 0 => 1
  | d + 1 => 10 + 6 * (1 + nc d)

set_option maxHeartbeats 4000000 in
theorem c_spec_nearShape {b : Nat} {bs : List UInt8} : ∀ (d m : Nat) (w : World) (c : NdC) (n : Nd) (B : Nat), shp m n = true → NdAt (fun k => b < k) w c n → Rd w b bs B → B + nc d ≤ 1000000000 → d ≤ 1000 →
    CallR Try.prog 61 [.pointer (some ⟨b, 0, none⟩), c.v, .int .i64 (d : Int)] w (fun v w' => ∃ (e : ShC) (x : Sh), v = e.v ∧ Dsh w.heap.size w' e x ∧ Rd w' b bs (B + nc d) ∧ Chg b w w') := by
  intro d
  induction d with
  | zero =>
    intro m w c n B hs h hR hB _
    refine fn_spec_nearShape _ _ _ _ _ _ _ _ _ ?_
    unfold g_spec_nearShape
    simp only [add_nought]
    have hlt := hR.lt
    refine ndStart fun w1 e1 r1 => letW_i fun w2 hw2 => ?_
    have e2 : Ext w1 w2 := by rw [hw2]; exact (Ext.refl w1).alloc _
    have ro : Row w2 w1.heap.size (cSh zeroSh) 31 := by rw [hw2]; exact Row.new w1 (cSh zeroSh) _
    clear hw2
    have r2 := r1.ext e2
    have e02 := e1.trans e2
    have z1 := e1.size
    obtain ⟨k0, k1, k2, k3, k4⟩ := Row.nd r2
    rw [add_nought] at k0
    simp only [exI k0, exI k1, exS k2, exL k3, exL k4]
    refine (c_spec_shapeOf m w2 c n hs (h.ext e02)).mono ?_
    rintro _ w3 ⟨e, F, rfl, hM, hF, e3⟩
    refine ⟨_, _, _, _, rfl, local4c fun w4 r4 e4 => br_t (by simp) ?_⟩
    refine shOut (Φ := fun v w' => ∃ (e : ShC) (x : Sh), v = e.v ∧ Dsh w.heap.size w' e x ∧ Rd w' b bs (B + nc 0) ∧ Chg b w w') (e := ⟨0, ⟨none, 0, 0⟩, ⟨none, 0, 0⟩, ⟨none, 0, 0⟩⟩) ((ro.ext e3).ext e4) fun w5 r5 c5 => ?_
    have e04 := (e02.trans e3).trans e4
    refine ⟨⟨0, ⟨none, 0, 0⟩, ⟨none, 0, 0⟩, ⟨none, 0, 0⟩⟩, _, rfl, Dsh.leaf _ _ 0, (((hR.ext e04).grown c5 (fun k hk => by have := Option.some.inj hk; omega)).mono (by omega)), Chg.fresh (Chg.of_ext e04) c5 z1⟩
  | succ d ih =>
    intro m w c n B hs h hR hB hd
    refine fn_spec_nearShape _ _ _ _ _ _ _ _ _ ?_
    unfold g_spec_nearShape
    simp only [add_nought]
    have hp := shp_parts' hs
    obtain ⟨hp1, hp2, hp3⟩ := parts_names hp
    obtain ⟨_, _, _, _, _, hnl, _, hns, _⟩ := h.out
    have hkl := h.klen
    have hlt := hR.lt
    refine ndStart fun w1 e1 r1 => letW_i fun w2 hw2 => ?_
    have e2 : Ext w1 w2 := by rw [hw2]; exact (Ext.refl w1).alloc _
    have ro : Row w2 w1.heap.size (cSh zeroSh) 31 := by rw [hw2]; exact Row.new w1 (cSh zeroSh) _
    clear hw2
    have r2 := r1.ext e2
    have e02 := e1.trans e2
    have z1 := e1.size
    have z12 := ro.lt
    obtain ⟨k0, k1, k2, k3, k4⟩ := Row.nd r2
    rw [add_nought] at k0
    simp only [exI k0, exI k1, exS k2, exL k3, exL k4]
    have h2 := h.ext e02
    refine (c_spec_shapeOf m w2 c n hs h2).mono ?_
    rintro _ w3 ⟨e, F, rfl, hM, hF, e3⟩
    refine ⟨_, _, _, _, rfl, local4c fun w4 r4 e4 => br_f (by simp; omega) ?_⟩
    have z3 := e3.size
    have e24 := e3.trans e4
    have e04 := e02.trans e24
    have eqs := shOf_eq n
    have exn : (shOf n).ns = n.ns := by rw [eqs]; rfl
    have exb : (shOf n).bs.length = n.ns.length := by rw [eqs]; simp [Sh.bs]
    have exk : (shOf n).ks.length = n.ns.length := by rw [eqs]; exact shOfL_len _ _ hp2
    obtain ⟨cs0, hN0⟩ := (hM.ext e4).nsd (B := w2.heap.size) (N := w3.heap.size) hF z3 r4
    rw [exn] at hN0
    generalize hnb0 : (shOf n).bs = nb0 at hN0 exb
    generalize hks0 : (shOf n).ks = ks0 at hN0 exk
    generalize hkd : (shOf n).k = kd at hN0
    have nz : ∀ y ∈ n.ns, y.size ≤ maxLen := hns
    refine (c_spec_reader_pick _ (hR.ext e04) (by omega) (by omega)).mono ?_
    rintro _ w5 ⟨⟨p5, rfl, _⟩, hR5, c5⟩
    have c25 : Chg b w2 w5 := (Chg.of_ext e24).trans c5
    have c02 : Chg b w w2 := Chg.of_ext e02
    have e02s := e02.size
    refine ⟨_, rfl, br_i (fun g => ?_) (fun g => ?_)⟩
    · refine shOut (Φ := fun v w' => ∃ (e : ShC) (x : Sh), v = e.v ∧ Dsh w.heap.size w' e x ∧ Rd w' b bs (B + nc (d + 1)) ∧ Chg b w w') (e := ⟨0, ⟨none, 0, 0⟩, ⟨none, 0, 0⟩, ⟨none, 0, 0⟩⟩) (ro.chg c25 (by omega)) fun w6 r6 c6 => ?_
      refine ⟨⟨0, ⟨none, 0, 0⟩, ⟨none, 0, 0⟩, ⟨none, 0, 0⟩⟩, _, rfl, Dsh.leaf _ _ 0, (hR5.grown c6 (fun k hk => by have := Option.some.inj hk; omega)).mono (by simp only [nc]; omega), Chg.fresh (c02.trans c25) c6 z1⟩
    have hN5 := hN0.chg c5 (by omega)
    generalize hM1 : 1 + nc d = M1
    have hncd : nc (d + 1) = 10 + 6 * M1 := by rw [← hM1]; rfl
    refine sLoop_up n.ns.length (fun i t w' => ∃ Bx nb cs ks, NSd w2.heap.size w3.heap.size kd e.sn e.sb e.sk n.ns nb cs ks w' ∧ nb.length = n.ns.length ∧ ks.length = n.ns.length ∧ Rd w' b bs Bx ∧ Bx ≤ B + 1 + i * M1 ∧ Chg b w2 w')
      ⟨B + 1, nb0, cs0, ks0, hN5, exb, exk, hR5, by omega, c25⟩ ?_ ?_
    · rintro K i u w6 hi ⟨Bx, nb, cs, ks, hN, hnb, hks, hRx, hBx, c26⟩ hK _
      have hbnd : i * M1 + M1 ≤ 6 * M1 := by
        rw [← Nat.succ_mul]; exact Nat.mul_le_mul_right _ (by omega)
      have hcl := hN.kl
      have hlk := hN.ok.len cSh_len (by decide)
      have hlb := hN.ob.len cB_len (by decide)
      rw [exL (Row.sh hN.r).2.2.2]
      dsimp only
      refine br_dt (by omega) ⟨fun w' => Chg b w6 w', fun w' h => Chg.of_ext h, fun w7 e7 => ⟨Chg.of_ext e7, e.sb, fun w' hc => (Row.sh (hN.chg hc (by omega)).r).2.2.1, Chg.of_ext e7, ?_⟩⟩
      refine (c_spec_reader_pick _ (hRx.ext e7) (by omega) (by omega)).mono ?_
      rintro _ w8 ⟨⟨p8, rfl, _⟩, hR8, c8⟩
      have c68 : Chg b w6 w8 := (Chg.of_ext e7).trans c8
      have hN8 := hN.chg c68 (by omega)
      refine ⟨_, rfl, c68, hN8.setNeed (by omega) fun w9 hN9 g9 => ?_⟩
      have own8 : ∀ k, e.sb.v.ownBlock = some k → w2.heap.size ≤ k := fun k hk => (hN8.ob.lt k hk).1
      have c29 : Chg b w2 w9 := Chg.freshRow (c26.trans c68) g9 own8
      have hR9 := hR8.grown g9 (fun k hk => by have := own8 k hk; omega)
      refine ⟨fun w' => Chg b w9 w', fun w' h => Chg.of_ext h, fun w10 e10 => ⟨Chg.of_ext e10, e.sk, fun w' hc => (Row.sh (hN9.chg hc (by omega)).r).2.2.2, ?_⟩⟩
      have c910 : Chg b w9 w10 := Chg.of_ext e10
      have c210 := c29.trans c910
      have r10 := r2.chg c210 (by omega)
      obtain ⟨y0, hy0⟩ : ∃ y0, n.ks[i]? = some y0 := ⟨n.ks[i]'(by omega), List.getElem?_eq_getElem (by omega)⟩
      obtain ⟨_, dd, a, hsa, hdd, g0, g1, g2, g3, g4⟩ := (h2.chg c210 (by omega)).kid hy0
      rw [add_nought] at g0
      rw [exL (Row.nd r10).2.2.2.2]
      refine onSome_i hsa ⟨⟨by omega, by omega⟩, ?_⟩
      simp only [exI g0, exI g1, exS g2, exL g3, exL g4]
      obtain ⟨m', hm'⟩ := shp_kid' hs (List.mem_of_getElem? hy0)
      have hlev : ((d + 1 : Nat) : Int) - 1 = (d : Int) := by omega
      rw [hlev]
      have hR10 := hR9.ext e10
      refine ⟨inR_i64 (by omega) (by omega), c910, (ih m' w10 dd y0 (Bx + 1) hm' hdd hR10 (by omega) (by omega)).mono ?_⟩
      rintro _ w11 ⟨e', x', rfl, hD, hR11, c11⟩
      have c911 := c910.trans c11
      have hN10 := hN9.chg c910 (by omega)
      have hN11 := hN9.chg c911 (by omega)
      refine ⟨_, _, _, _, rfl, c911, hN11.setKid (m := w10.heap.size) (x := x') (by omega) hD.at_ ⟨?_, ?_, fun k hk => (hN10.ol.lt k hk).2, fun k hk => (hN10.ob.lt k hk).2, fun k hk => (hN10.ok.lt k hk).2⟩ fun w12 hN12 g12 => ?_⟩
      · have := hN10.r.lt; have := hN10.bn; omega
      · exact hN10.r.lt
      have own11 : ∀ k, e.sk.v.ownBlock = some k → w2.heap.size ≤ k := fun k hk => (hN11.ok.lt k hk).1
      refine ⟨inR_i64 (by omega) (by omega), hK _ _ ⟨Bx + 1 + nc d, _, _, _, hN12, by simpa using hnb, by simpa using hks, hR11.grown g12 (fun k hk => by have := own11 k hk; omega), ?_, Chg.freshRow (c210.trans c11) g12 own11⟩⟩
      rw [Nat.succ_mul]; omega
    · rintro K u w6 ⟨Bx, nb, cs, ks, hN, hnb, hks, hRx, hBx, c26⟩ _
      have hbnd : n.ns.length * M1 ≤ 6 * M1 := Nat.mul_le_mul_right _ (by omega)
      have hcl := hN.kl
      have hlk := hN.ok.len cSh_len (by decide)
      rw [exL (Row.sh hN.r).2.2.2]
      dsimp only
      refine br_df (by omega) ?_
      have fin : ∀ (e' : ShC) (x' : Sh) (w' : World) (Bf : Nat), Dsh w2.heap.size w' e' x' → Rd w' b bs Bf → Bf ≤ B + nc (d + 1) → Chg b w w' → ∃ (e : ShC) (x : Sh), e'.v = e.v ∧ Dsh w.heap.size w' e x ∧ Rd w' b bs (B + nc (d + 1)) ∧ Chg b w w' :=
        fun e' x' w' Bf hD hRf hBf hc => ⟨e', x', rfl, hD.base_le e02s, hRf.mono hBf, hc⟩
      refine (c_spec_reader_pick _ hRx (by omega) (by omega)).mono ?_
      rintro _ w7 ⟨⟨p7, rfl, _⟩, hR7, c7⟩
      have c27 := c26.trans c7
      have hN7 := hN.chg c7 (by omega)
      have ro7 := ro.chg c27 (by omega)
      have tail7 := near_tail (Φ := fun v w' => ∃ (e : ShC) (x : Sh), v = e.v ∧ Dsh w.heap.size w' e x ∧ Rd w' b bs (B + nc (d + 1)) ∧ Chg b w w') hN7 hR7 (by omega) ro7 (by omega) z12 ⟨by omega, by omega, by omega⟩ nz
        fun e' x' w' hD hRf tr => fin e' x' w' _ hD hRf (by omega) (tr w z1 (c02.trans c27))
      refine ⟨_, rfl, br_i (fun g6 => ?_) (fun g6 => tail7)⟩
      rw [exI (Row.sh hN7.r).1]
      dsimp only
      refine br_i (fun g7 => ?_) (fun g7 => tail7)
      simp only [exL (Row.sh hN7.r).2.1]
      have hln := hN7.ol.len cS_len (by decide)
      refine br_d (fun g8 => ?_) (fun g8 => tail7)
      have zB : w2.heap.size ≤ w7.heap.size := by have := hN7.r.lt; have := hN7.bn; omega
      refine hN7.pushName zB (by omega) fun l' wm wq w8 hN8 em hg c8 => ?_
      have own7 : ∀ k, e.sn.v.ownBlock = some k → w2.heap.size ≤ k := fun k hk => (hN7.ol.lt k hk).1
      have c28 : Chg b w2 w8 := Chg.fresh (Chg.freshRow (c27.trans (Chg.of_ext em)) hg own7) c8 z3
      have hR8 := ((hR7.ext em).grown hg (fun k hk => by have := own7 k hk; omega)).grown c8 (fun k hk => by have := Option.some.inj hk; omega)
      refine ⟨fun w' => Chg b w8 w', fun w' h => Chg.of_ext h, fun w9 e9 => ⟨Chg.of_ext e9, e.sb, fun w' hc => (Row.sh (hN8.chg hc (by omega)).r).2.2.1, Chg.of_ext e9, ?_⟩⟩
      refine (c_spec_reader_pick _ (hR8.ext e9) (by omega) (by omega)).mono ?_
      rintro _ w10 ⟨⟨p10, rfl, _⟩, hR10, c10⟩
      have c810 : Chg b w8 w10 := (Chg.of_ext e9).trans c10
      have hN10 := hN8.chg c810 (by omega)
      have zB10 : w2.heap.size ≤ w10.heap.size := by have := hN10.r.lt; have := hN10.bn; omega
      refine ⟨_, rfl, c810, c810, hN10.pushNeed (C := fun w' => Chg b w8 w') zB10 (by omega) (fun wm h => c810.trans (Chg.of_ext h)) fun lb' wm2 wq2 w11 hN11 em2 hg2 c11 => ?_⟩
      have own10 : ∀ k, e.sb.v.ownBlock = some k → w2.heap.size ≤ k := fun k hk => (hN10.ob.lt k hk).1
      have c211 : Chg b w2 w11 := Chg.fresh (Chg.freshRow ((c28.trans c810).trans (Chg.of_ext em2)) hg2 own10) c11 z3
      have hR11 := ((hR10.ext em2).grown hg2 (fun k hk => by have := own10 k hk; omega)).grown c11 (fun k hk => by have := Option.some.inj hk; omega)
      refine ⟨fun w' => Chg b w11 w', fun w' h => Chg.of_ext h, fun w12 e12 => ⟨Chg.of_ext e12, e.sk, fun w' hc => (Row.sh (hN11.chg hc (by omega)).r).2.2.2, Chg.of_ext e12, ?_⟩⟩
      refine (c_spec_reader_pick _ (hR11.ext e12) (by omega) (by omega)).mono ?_
      rintro _ w13 ⟨⟨p13, rfl, hp13⟩, hR13, c13⟩
      have hp13' := hp13 (by omega)
      have c1113 : Chg b w11 w13 := (Chg.of_ext e12).trans c13
      have hN13 := hN11.chg c1113 (by omega)
      have zB13 : w2.heap.size ≤ w13.heap.size := by have := hN13.r.lt; have := hN13.bn; omega
      refine ⟨_, rfl, c1113, inR_i64 (by omega) (by omega), c1113, hN13.pushKid (C := fun w' => Chg b w11 w') zB13 (by omega) (fun wm h => c1113.trans (Chg.of_ext h)) fun lk' wm3 wq3 w14 hN14 em3 hg3 c14 => ?_⟩
      have own13 : ∀ k, e.sk.v.ownBlock = some k → w2.heap.size ≤ k := fun k hk => (hN13.ok.lt k hk).1
      have c214 : Chg b w2 w14 := Chg.fresh (Chg.freshRow ((c211.trans c1113).trans (Chg.of_ext em3)) hg3 own13) c14 z3
      have hR14 := ((hR13.ext em3).grown hg3 (fun k hk => by have := own13 k hk; omega)).grown c14 (fun k hk => by have := Option.some.inj hk; omega)
      refine near_tail (Φ := fun v w' => ∃ (e : ShC) (x : Sh), v = e.v ∧ Dsh w.heap.size w' e x ∧ Rd w' b bs (B + nc (d + 1)) ∧ Chg b w w') hN14 hR14 (by omega) (ro.chg c214 (by omega)) (by omega) z12 ⟨by simp; omega, by simp; omega, by simp; omega⟩ ?_ fun e' x' w' hD hRf tr => fin e' x' w' _ hD hRf (by omega) (tr w z1 (c02.trans c214))
      intro y hy
      rcases List.mem_append.1 hy with hy | hy
      · exact nz y hy
      · simp at hy; rw [hy]; decide
where
  shp_parts' {m : Nat} {n : Nd} (h : shp m n = true) : parts n = true := by
    cases m with
    | zero => cases h
    | succ m =>
      simp only [shp, Bool.and_eq_true] at h
      exact h.1
  shp_kid' {m : Nat} {n y : Nd} (h : shp m n = true) (hy : y ∈ n.ks) : ∃ m', shp m' y = true := by
    cases m with
    | zero => cases h
    | succ m =>
      simp only [shp, Bool.and_eq_true, List.all_eq_true] at h
      exact ⟨m, h.2 y hy⟩
end Go.Proofs
