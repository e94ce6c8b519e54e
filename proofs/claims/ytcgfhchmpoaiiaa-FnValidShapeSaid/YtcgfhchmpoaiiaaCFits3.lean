/-
  What functions of this seat compute, part 'Fits3': contracts over their readable predicates. Conditions: each theorem's own hypotheses.
-/
import Derived.Test.YtcgfhchmpoaiiaaBase
import Derived.Test.YtcgfhchmpoaiiaaOpen
import Derived.Test.YtcgfhchmpoaiiaaGen
import Derived.Test.YtcgfhchmpoaiiaaCSmall
import Derived.Test.YtcgfhchmpoaiiaaCOrder
import Derived.Test.YtcgfhchmpoaiiaaCNode
import Derived.Test.YtcgfhchmpoaiiaaCNodeText
import Derived.Test.YtcgfhchmpoaiiaaCNodeValid
import Derived.Test.YtcgfhchmpoaiiaaCNodeSpec
import Derived.Test.YtcgfhchmpoaiiaaCHelpS
import Derived.Test.YtcgfhchmpoaiiaaCNodeHelp
import Derived.Test.YtcgfhchmpoaiiaaCNodeHelp2
import Derived.Test.YtcgfhchmpoaiiaaCNodeTop
import Derived.Test.YtcgfhchmpoaiiaaCCells
import Derived.Test.YtcgfhchmpoaiiaaCShape
import Derived.Test.YtcgfhchmpoaiiaaCShape2
import Derived.Test.YtcgfhchmpoaiiaaCShapeOf
import Derived.Test.YtcgfhchmpoaiiaaCShapeOf2
import Derived.Test.YtcgfhchmpoaiiaaCShapeOf3
import Derived.Test.YtcgfhchmpoaiiaaCShapeOf4
import Derived.Test.YtcgfhchmpoaiiaaCFits
import Derived.Test.YtcgfhchmpoaiiaaCFits2
namespace Go.Proofs
open Go Go.Vc Go.RowKit
set_option maxRecDepth 100000
set_option linter.unusedVariables false
--! C:Small C:Order C:Node C:NodeText C:NodeValid C:NodeSpec C:HelpS C:NodeHelp C:NodeHelp2 C:NodeTop C:Cells C:Shape C:Shape2 C:ShapeOf C:ShapeOf2 C:ShapeOf3 C:ShapeOf4 C:Fits C:Fits2
/-! ## Fits: the program's misfit; FitsShape -/

theorem own_cap0 {base : Nat} {e : TypeId} {size : Nat} {w : World} {s : Sl} {vs : List Value} (h : Own base e size w s vs) : s.a = none → s.cap = 0 := by
  intro ha
  obtain ⟨a, l, c⟩ := s
  rcases h.2 with ⟨hv, _⟩ | ⟨g, cap, cur, hv, _⟩
  · simp only [Sl.v, Value.slice.injEq] at hv; exact hv.2.2
  · simp only [Sl.v, Value.slice.injEq] at hv
    simp only at ha
    rw [ha] at hv
    cases hv.1

/-- The step ahead of the path. -/
theorem stepAhead {w : World} {l : Sl} {ps : List ByteArray} {nm : ByteArray} {K : Sl → World → Prop} (h : Strs w l ps) (hq : l.a = none → l.cap = 0) (hl : ps.length ≤ 1000)
    (hk : ∀ l' w', Ext w w' → Strs w' l' (nm :: ps) → (l'.a = none → l'.cap = 0) → K l' w') :
    letW (w.alloc (.cells #[.string nm] 9)) (fun w52 => sAppend 9 1 16 ⟨(some (⟨w.heap.size, 0, none⟩ : Addr)), 1, 1⟩ ⟨l.a, l.len, l.cap⟩ w52 K) := by
  refine letW_i fun w1 hw1 => ?_
  have e1 : Ext w w1 := by rw [hw1]; exact (Ext.refl w).alloc _
  have r1 : Row w1 w.heap.size [.string nm] 9 := by rw [hw1]; exact Row.new w [.string nm] _
  clear hw1
  have o1 : Own w.heap.size 9 1 w1 ⟨some ⟨w.heap.size, 0, none⟩, 1, 1⟩ [.string nm] := Own.ofRow r1 (by rfl) (Nat.le_refl _) (by unfold maxLen; omega)
  have hll := h.len
  refine sAppend_i o1 (Vc.Src.of (h.ext e1) cS_len cS_one hq) (by simp only; omega) (by simp only; omega) e1.size fun l' w' _ o' hg => ?_
  have hfl : [Value.string nm] ++ ps.flatMap cS = (nm :: ps).flatMap cS := by simp [cS]
  rw [hfl] at o'
  exact hk l' w' (e1.own o1 hg (Nat.le_refl _)) (o'.slOf cS_len (by decide)) (own_cap0 o')

set_option maxHeartbeats 2000000 in
theorem c_impl_misfit {S S' : Nat → Prop} : ∀ (d : Nat) (w : World) (c : ShC) (e : NdC) (x : Sh) (n : Nd), d ≤ 100 → vSh d x = true → (∃ m, shp m n = true) → ShAt S w c x → NdAt S' w e n →
    CallR Try.prog 42 [c.v, e.v] w (fun v w' => (∃ (l : Sl) (ps : List ByteArray), v = .tuple #[.slice l.a l.len l.cap, .bool (!fit d x n)] ∧ Strs w' l ps ∧ (l.a = none → l.cap = 0) ∧ ps.length ≤ d) ∧ Ext w w') := by
  intro d
  induction d with
  | zero => intro w c e x n _ h; cases h
  | succ d ih =>
    intro w c e x n hd hv ⟨m, hs⟩ h h'
    obtain ⟨_, hok, h6, hbl, hkl, hk4, hkv⟩ := vSh_out hv
    have hp := shp_parts hs
    refine fn_impl_misfit _ _ _ _ _ _ _ _ _ _ _ ?_
    unfold g_impl_misfit
    obtain ⟨hk, hn, hb, hnl, hbl', hkl', hns, _⟩ := h.out
    obtain ⟨l3, l1, l2, l4⟩ := h.klen
    obtain ⟨hk', _, _, hn', _⟩ := h'.out
    obtain ⟨q1, q2, q3, q4⟩ := h'.klen
    refine shBox fun w1 e1 r1 => ndStart fun w2 e2 r2 => ?_
    have e02 := e1.trans e2
    have r12 := r1.ext e2
    obtain ⟨k0, k1, k2, k3⟩ := Row.sh r12
    obtain ⟨m0, m1, m2, m3, m4⟩ := Row.nd r2
    rw [add_nought] at m0
    simp only [add_nought, exI k0, exI m0, exL k1]
    have nilA : ∀ (b : Bool) (w' : World), b = (!fit (d + 1) x n) → Ext w w' → ((∃ (l : Sl) (ps : List ByteArray), Value.tuple #[.slice none 0 0, .bool b] = .tuple #[.slice l.a l.len l.cap, .bool (!fit (d + 1) x n)] ∧ Strs w' l ps ∧ (l.a = none → l.cap = 0) ∧ ps.length ≤ d + 1) ∧ Ext w w') := fun b w' hb he =>
      ⟨⟨⟨none, 0, 0⟩, [], by rw [hb], SlOf.nil _ _, fun _ => rfl, by simp⟩, he⟩
    refine br_i (fun g => ?_) (fun g => br_i (fun g2 => ?_) (fun g2 => ?_))
    · have h0 : x.k = 0 := by rw [← hk]; simpa using g
      have hz : x.ns.length = 0 := by rcases hk4 with h | h <;> omega
      refine nilA false w2 ?_ e02
      simp [fit, h0, hz, fitUp]
    · have h1 : ¬ x.k = 0 := by rw [← hk]; simpa using g
      have h2 : ¬ n.k = x.k := by intro q; rw [← hk, ← hk'] at q; rw [q] at g2; simp at g2
      refine nilA true w2 ?_ e02
      simp [fit, h1, h2]
    have h1 : ¬ x.k = 0 := by rw [← hk]; simpa using g
    have h2 : n.k = x.k := by
      have q : c.k = e.k := by simpa using g2
      rw [← hk, ← hk', q]
    refine sLoop_up x.ns.length (fun i t w' => Ext w2 w' ∧ fitUp (fit d) n x i = true) ⟨Ext.refl _, rfl⟩ ?_ ?_
    · rintro K i u w3 hi ⟨e3, hup⟩ hK _
      have hx4 : x.k = 4 := by rcases hk4 with h | h <;> omega
      have hn4 : n.k = 4 := by omega
      have hkk := map_names hp hn4
      have hno : fitAt (fit d) n x i = false → fit (d + 1) x n = false := fun hf => by
        simp only [fit, fitUp_false hi hf, Bool.and_false]
      have hyes : fitAt (fit d) n x i = true → fitUp (fit d) n x (i + 1) = true := fun hf => by simp only [fitUp, hup, hf, Bool.and_self]
      obtain ⟨nm, hnm⟩ : ∃ y, x.ns[i]? = some y := ⟨x.ns[i], List.getElem?_eq_getElem hi⟩
      obtain ⟨b, hbi⟩ : ∃ y, x.bs[i]? = some y := ⟨x.bs[i]'(by omega), List.getElem?_eq_getElem (by omega)⟩
      obtain ⟨y, hy⟩ : ∃ y, x.ks[i]? = some y := ⟨x.ks[i]'(by omega), List.getElem?_eq_getElem (by omega)⟩
      have hat := fitAt_eq (rec := fit d) (n := n) hnm hbi hy
      have e03 := e02.trans e3
      obtain ⟨a, ha, c0⟩ := str_at (hn.ext e03) hnm
      refine br_dt (by omega) (onSome_i ha ⟨⟨by omega, by omega⟩, _, c0, ?_⟩)
      simp only [exI (e3.get m0), exI (e3.get m1), exS (e3.get m2), exL (e3.get m3), exL (e3.get m4)]
      refine (c_impl_nameIn nm (h'.ext e03) hp hn4).mono ?_
      rintro _ w4 ⟨⟨de, bf, rfl, hb1, hb0⟩, e4⟩
      refine ⟨_, _, _, _, _, _, rfl, local5 fun w5 r5 e5 => ?_⟩
      have e25 := (e3.trans e4).trans e5
      have e05 := e02.trans e25
      refine br_i (fun g3 => ?_) (fun g3 => fun w6 (e6 : Ext w5 w6) => ?_)
      · have hlook := hb0 (nott g3)
        have hfa : fitAt (fit d) n x i = !b := by rw [hat, fit1, hlook]
        rw [exL (e25.get k2)]
        obtain ⟨ba, hba, cb⟩ := bool_at (hb.ext e05) hbi
        refine onSome_i hba ⟨⟨by omega, by omega⟩, _, cb, br_i (fun g4 => letW_i fun w6 hw6 => ?_) (fun g4 => ⟨inR_i64 (by omega) (by omega), hK _ _ ⟨e25, hyes (by rw [hfa, g4]; rfl)⟩⟩)⟩
        have e6 : Ext w5 w6 := by rw [hw6]; exact (Ext.refl w5).alloc _
        have r6 : Row w6 w5.heap.size ([nm].flatMap cS) 9 := by rw [hw6]; exact Row.new w5 ([nm].flatMap cS) _
        refine ⟨⟨⟨some ⟨w5.heap.size, 0, none⟩, 1, 1⟩, [nm], ?_, r6.slOf (Nat.le_refl _), fun h => by (cases h), by simp⟩, e05.trans e6⟩
        rw [hno (by rw [hfa, g4]; rfl)]; rfl
      · obtain ⟨z, hlook, hde, hz⟩ := hb1 (notf g3)
        have hfa : fitAt (fit d) n x i = fit d y z := by rw [hat, fit1, hlook]
        have e26 := e25.trans e6
        have e06 := e02.trans e26
        rw [exL (e26.get k3)]
        obtain ⟨dd, ka, hka, hdd, g0, g1, g2, g3⟩ := (h.ext e06).kid hy
        refine onSome_i hka ⟨⟨by omega, by omega⟩, ?_⟩
        have r6 : Row w6 w4.heap.size (cN de) 40 := Row.ext r5 e6
        obtain ⟨f0, f1, f2, f3, f4⟩ := Row.nd r6
        rw [add_nought] at f0
        simp only [exI g0, exL g1, exL g2, exL g3, exI f0, exI f1, exS f2, exL f3, exL f4]
        refine (ih w6 dd de y z (by omega) (hkv y (List.mem_of_getElem? hy)) (shp_kid hs hz) hdd (hde.ext (Ext.trans e5 e6))).mono ?_
        rintro _ w7 ⟨⟨l, ps, rfl, hps, hpq, hpl⟩, e7⟩
        have e07 := e06.trans e7
        refine ⟨_, _, rfl, br_i (fun g5 => ?_) (fun g5 => ⟨inR_i64 (by omega) (by omega), hK _ _ ⟨e26.trans e7, hyes (by rw [hfa]; exact notf g5)⟩⟩)⟩
        refine stepAhead hps hpq (by omega) fun l' w8 e8 hs8 hq8 => ?_
        exact ⟨⟨l', nm :: ps, by rw [hno (by rw [hfa]; exact nott g5)]; rfl, hs8, hq8, by simp; omega⟩, e07.trans e8⟩
    · rintro K u w3 ⟨e3, hup⟩ _
      refine br_df (by omega) (nilA false w3 ?_ (e02.trans e3))
      simp [fit, h2, hup]

def fits (x : Sh) (n : Nd) : Bool := vSh 5 x && vNd n && fit 5 x n

theorem c_impl_FitsShape {S S' : Nat → Prop} {w : World} {c : ShC} {e : NdC} {x : Sh} {n : Nd} (h : ShAt S w c x) (h' : NdAt S' w e n) :
    CallR Try.prog 15 [c.v, e.v] w (fun v w' => v = .bool (fits x n) ∧ Ext w w') := by
  refine fn_impl_FitsShape _ _ _ _ _ _ _ _ _ _ _ ?_
  unfold g_impl_FitsShape
  refine shBox fun w1 e1 r1 => ndStart fun w2 e2 r2 => ?_
  have e02 := e1.trans e2
  have r12 := r1.ext e2
  obtain ⟨k0, k1, k2, k3⟩ := Row.sh r12
  obtain ⟨m0, m1, m2, m3, m4⟩ := Row.nd r2
  rw [add_nought] at m0
  simp only [add_nought, exI k0, exL k1, exL k2, exL k3]
  refine (c_impl_ValidShape (h.ext e02)).go fun w3 e3 => ⟨_, rfl, br_i (fun g => ⟨by simp [fits, nott g], e02.trans e3⟩) (fun g => ?_)⟩
  have g' := notf g
  simp only [exI (e3.get m0), exI (e3.get m1), exS (e3.get m2), exL (e3.get m3), exL (e3.get m4)]
  have e03 := e02.trans e3
  refine (c_impl_ValidNode (h'.ext e03)).go fun w4 e4 => ⟨_, rfl, br_i (fun q => ⟨by simp [fits, nott q], e03.trans e4⟩) (fun q => ?_)⟩
  have q' := notf q
  have e24 := e3.trans e4
  have e04 := e03.trans e4
  simp only [exI (e24.get k0), exL (e24.get k1), exL (e24.get k2), exL (e24.get k3), exI (e24.get m0), exI (e24.get m1), exS (e24.get m2), exL (e24.get m3), exL (e24.get m4)]
  refine (c_impl_misfit 5 w4 c e x n (by omega) g' ⟨5, vNd_shp q'⟩ (h.ext e04) (h'.ext e04)).mono ?_
  rintro _ w5 ⟨⟨l, ps, rfl, _⟩, e5⟩
  exact ⟨_, _, rfl, by simp [fits, g', q'], e04.trans e5⟩

theorem c_spec_fits5 {S S' : Nat → Prop} {w : World} {c : ShC} {e : NdC} {x : Sh} {n : Nd} (hv : vSh 5 x = true) (hn : vNd n = true) (h : ShAt S w c x) (h' : NdAt S' w e n) :
    CallR Try.prog 44 [c.v, e.v] w (fun v w' => v = .bool (fit 5 x n) ∧ Ext w w') := c_spec_fits 5 w c e x n hv ⟨5, vNd_shp hn⟩ h h'

theorem c_spec_FitsShape {S S' : Nat → Prop} {w : World} {c : ShC} {e : NdC} {x : Sh} {n : Nd} (h : ShAt S w c x) (h' : NdAt S' w e n) :
    CallR Try.prog 16 [c.v, e.v] w (fun v w' => v = .bool (fits x n) ∧ Ext w w') := by
  refine fn_spec_FitsShape _ _ _ _ _ _ _ _ _ _ _ ?_
  unfold g_spec_FitsShape
  refine shBox fun w1 e1 r1 => ndStart fun w2 e2 r2 => ?_
  have e02 := e1.trans e2
  have r12 := r1.ext e2
  obtain ⟨k0, k1, k2, k3⟩ := Row.sh r12
  obtain ⟨m0, m1, m2, m3, m4⟩ := Row.nd r2
  rw [add_nought] at m0
  simp only [add_nought, exI k0, exL k1, exL k2, exL k3]
  refine (c_spec_validShape5 (h.ext e02)).go fun w3 e3 => ⟨_, rfl, br_i (fun g' => ?_) (fun g => ⟨by simp [fits, g], e02.trans e3⟩)⟩
  simp only [exI (e3.get m0), exI (e3.get m1), exS (e3.get m2), exL (e3.get m3), exL (e3.get m4)]
  have e03 := e02.trans e3
  refine (c_spec_validNode (h'.ext e03)).go fun w4 e4 => ⟨_, rfl, br_i (fun q' => ?_) (fun q => ⟨by simp [fits, q], e03.trans e4⟩)⟩
  have e24 := e3.trans e4
  have e04 := e03.trans e4
  simp only [exI (e24.get k0), exL (e24.get k1), exL (e24.get k2), exL (e24.get k3), exI (e24.get m0), exI (e24.get m1), exS (e24.get m2), exL (e24.get m3), exL (e24.get m4)]
  exact (c_spec_fits5 g' q' (h.ext e04) (h'.ext e04)).go fun w5 e5 => ⟨_, rfl, by simp [fits, g', q'], e04.trans e5⟩
end Go.Proofs
