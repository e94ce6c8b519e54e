/-
  What functions of this seat compute, part 'Fits2': contracts over their readable predicates. Conditions: each theorem's own hypotheses.
-/
import Derived.Test.YtcgfhchmpoaiiaaBase
import Derived.Test.YtcgfhchmpoaiiaaOpen
import Derived.Test.YtcgfhchmpoaiiaaGen
import Derived.Test.YtcgfhchmpoaiiaaCSmall
import Derived.Test.YtcgfhchmpoaiiaaCOrder
import Derived.Test.YtcgfhchmpoaiiaaCNode
import Derived.Test.YtcgfhchmpoaiiaaCNodeText
import Derived.Test.YtcgfhchmpoaiiaaCNodeValid
import Derived.Test.YtcgfhchmpoaiiaaCNodeSpec
import Derived.Test.YtcgfhchmpoaiiaaCHelpS
import Derived.Test.YtcgfhchmpoaiiaaCNodeHelp
import Derived.Test.YtcgfhchmpoaiiaaCNodeHelp2
import Derived.Test.YtcgfhchmpoaiiaaCNodeTop
import Derived.Test.YtcgfhchmpoaiiaaCCells
import Derived.Test.YtcgfhchmpoaiiaaCShape
import Derived.Test.YtcgfhchmpoaiiaaCShape2
import Derived.Test.YtcgfhchmpoaiiaaCShapeOf
import Derived.Test.YtcgfhchmpoaiiaaCShapeOf2
import Derived.Test.YtcgfhchmpoaiiaaCShapeOf3
import Derived.Test.YtcgfhchmpoaiiaaCShapeOf4
import Derived.Test.YtcgfhchmpoaiiaaCFits
namespace Go.Proofs
open Go Go.Vc Go.RowKit
set_option maxRecDepth 100000
set_option linter.unusedVariables false
--! C:Small C:Order C:Node C:NodeText C:NodeValid C:NodeSpec C:HelpS C:NodeHelp C:NodeHelp2 C:NodeTop C:Cells C:Shape C:Shape2 C:ShapeOf C:ShapeOf2 C:ShapeOf3 C:ShapeOf4 C:Fits
/-! ## Fits: the code -/

theorem shp_kid {m : Nat} {n y : Nd} (h : shp m n = true) (hy : y ∈ n.ks) : ∃ m', shp m' y = true := by
  cases m with
  | zero => cases h
  | succ m =>
    simp only [shp, Bool.and_eq_true, List.all_eq_true] at h
    exact ⟨m, h.2 y hy⟩
theorem shp_parts {m : Nat} {n : Nd} (h : shp m n = true) : parts n = true := by
  cases m with
  | zero => cases h
  | succ m =>
    simp only [shp, Bool.and_eq_true] at h
    exact h.1

theorem fitAt_eq {rec : Sh → Nd → Bool} {n : Nd} {x y : Sh} {j : Nat} {nm : ByteArray} {b : Bool} (h1 : x.ns[j]? = some nm) (h2 : x.bs[j]? = some b) (h3 : x.ks[j]? = some y) : fitAt rec n x j = fit1 rec n nm b y := by
  simp [fitAt, h1, h2, h3]

set_option maxHeartbeats 2000000 in
theorem c_spec_fits {S S' : Nat → Prop} : ∀ (d : Nat) (w : World) (c : ShC) (e : NdC) (x : Sh) (n : Nd), vSh d x = true → (∃ m, shp m n = true) → ShAt S w c x → NdAt S' w e n →
    CallR Try.prog 44 [c.v, e.v] w (fun v w' => v = .bool (fit d x n) ∧ Ext w w') := by
  intro d
  induction d with
  | zero => intro w c e x n h; cases h
  | succ d ih =>
    intro w c e x n hv ⟨m, hs⟩ h h'
    obtain ⟨_, hok, h6, hbl, hkl, hk4, hkv⟩ := vSh_out hv
    have hp := shp_parts hs
    refine fn_spec_fits _ _ _ _ _ _ _ _ _ _ _ ?_
    unfold g_spec_fits
    obtain ⟨hk, hn, hb, hnl, hbl', hkl', hns, _⟩ := h.out
    obtain ⟨l3, l1, l2, l4⟩ := h.klen
    obtain ⟨hk', _, _, hn', _⟩ := h'.out
    obtain ⟨q1, q2, q3, q4⟩ := h'.klen
    refine shBox fun w1 e1 r1 => ndStart fun w2 e2 r2 => ?_
    have e02 := e1.trans e2
    have r12 := r1.ext e2
    obtain ⟨k0, k1, k2, k3⟩ := Row.sh r12
    obtain ⟨m0, m1, m2, m3, m4⟩ := Row.nd r2
    rw [add_nought, exI k0]
    have step : (x.k = 0 ∨ n.k = x.k) → ∀ (w3 : World) (i : Nat) (K : Int × Unit → World → Prop), i < x.ns.length → Ext w2 w3 → fitUp (fit d) n x i = true → (∀ w', Ext w2 w' → fitUp (fit d) n x (i + 1) = true → K ((i : Int) + 1, ()) w') →
        ∃ l10 : Sl, w3.cell? ((⟨w.heap.size, 0, none⟩ : Addr).add 1) = some (.slice l10.a l10.len l10.cap) ∧ br (decide ((i : Int) < (l10.len : Int))) (∀ w11, Below w3.heap.size w3 w11 → ∃ n12 : Int, w11.cell? ((⟨w1.heap.size, 0, none⟩ : Addr).add 0) = some (.int .i64 n12) ∧ ∃ n13 : Int, w11.cell? ((⟨w1.heap.size, 0, none⟩ : Addr).add 1) = some (.int .i64 n13) ∧ ∃ s14 : ByteArray, w11.cell? ((⟨w1.heap.size, 0, none⟩ : Addr).add 2) = some (.string s14) ∧ ∃ l15 : Sl, w11.cell? ((⟨w1.heap.size, 0, none⟩ : Addr).add 3) = some (.slice l15.a l15.len l15.cap) ∧ ∃ l16 : Sl, w11.cell? ((⟨w1.heap.size, 0, none⟩ : Addr).add 4) = some (.slice l16.a l16.len l16.cap) ∧ ∃ l17 : Sl, w11.cell? ((⟨w.heap.size, 0, none⟩ : Addr).add 1) = some (.slice l17.a l17.len l17.cap) ∧ onSome l17.a (fun a18 => ((0 : Int) ≤ (i : Int) ∧ (i : Int) < (l17.len : Int)) ∧ ∃ s19 : ByteArray, w11.cell? (a18.add ((i : Int).toNat * 1)) = some (.string s19) ∧ CallR Try.prog 69 [.agg #[.int .i64 n12, .int .i64 n13, .string s14, .slice l15.a l15.len l15.cap, .slice l16.a l16.len l16.cap], .string s19] w11 (fun r20 w21 => ∃ n22 : Int, r20 = .int .i64 n22 ∧ ∀ w23, Below w21.heap.size w21 w23 → br (decide (n22 < (0 : Int))) (∃ l24 : Sl, w23.cell? ((⟨w.heap.size, 0, none⟩ : Addr).add 2) = some (.slice l24.a l24.len l24.cap) ∧ onSome l24.a (fun a25 => ((0 : Int) ≤ (i : Int) ∧ (i : Int) < (l24.len : Int)) ∧ ∃ b26 : Bool, w23.cell? (a25.add ((i : Int).toNat * 1)) = some (.bool b26) ∧ br b26 (Value.bool false = .bool (fit (d + 1) x n) ∧ Ext w w23) (br (decide (n22 ≥ (0 : Int))) (∃ l27 : Sl, w23.cell? ((⟨w.heap.size, 0, none⟩ : Addr).add 3) = some (.slice l27.a l27.len l27.cap) ∧ onSome l27.a (fun a28 => ((0 : Int) ≤ (i : Int) ∧ (i : Int) < (l27.len : Int)) ∧ ∃ n29 : Int, w23.cell? ((a28.add ((i : Int).toNat * 4)).add 0) = some (.int .i64 n29) ∧ ∃ l30 : Sl, w23.cell? ((a28.add ((i : Int).toNat * 4)).add 1) = some (.slice l30.a l30.len l30.cap) ∧ ∃ l31 : Sl, w23.cell? ((a28.add ((i : Int).toNat * 4)).add 2) = some (.slice l31.a l31.len l31.cap) ∧ ∃ l32 : Sl, w23.cell? ((a28.add ((i : Int).toNat * 4)).add 3) = some (.slice l32.a l32.len l32.cap) ∧ ∃ l33 : Sl, w23.cell? ((⟨w1.heap.size, 0, none⟩ : Addr).add 4) = some (.slice l33.a l33.len l33.cap) ∧ onSome l33.a (fun a34 => ((0 : Int) ≤ n22 ∧ n22 < (l33.len : Int)) ∧ ∃ n35 : Int, w23.cell? ((a34.add (n22.toNat * 5)).add 0) = some (.int .i64 n35) ∧ ∃ n36 : Int, w23.cell? ((a34.add (n22.toNat * 5)).add 1) = some (.int .i64 n36) ∧ ∃ s37 : ByteArray, w23.cell? ((a34.add (n22.toNat * 5)).add 2) = some (.string s37) ∧ ∃ l38 : Sl, w23.cell? ((a34.add (n22.toNat * 5)).add 3) = some (.slice l38.a l38.len l38.cap) ∧ ∃ l39 : Sl, w23.cell? ((a34.add (n22.toNat * 5)).add 4) = some (.slice l39.a l39.len l39.cap) ∧ CallR Try.prog 44 [.agg #[.int .i64 n29, .slice l30.a l30.len l30.cap, .slice l31.a l31.len l31.cap, .slice l32.a l32.len l32.cap], .agg #[.int .i64 n35, .int .i64 n36, .string s37, .slice l38.a l38.len l38.cap, .slice l39.a l39.len l39.cap]] w23 (fun r40 w41 => ∃ b42 : Bool, r40 = .bool b42 ∧ br (!b42) (Value.bool false = .bool (fit (d + 1) x n) ∧ Ext w w41) (InR .i64 ((i : Int) + (1 : Int)) ∧ K (((i : Int) + (1 : Int)), ()) w41))))) (InR .i64 ((i : Int) + (1 : Int)) ∧ K (((i : Int) + (1 : Int)), ()) w23)))) (br (decide (n22 ≥ (0 : Int))) (∃ l43 : Sl, w23.cell? ((⟨w.heap.size, 0, none⟩ : Addr).add 3) = some (.slice l43.a l43.len l43.cap) ∧ onSome l43.a (fun a44 => ((0 : Int) ≤ (i : Int) ∧ (i : Int) < (l43.len : Int)) ∧ ∃ n45 : Int, w23.cell? ((a44.add ((i : Int).toNat * 4)).add 0) = some (.int .i64 n45) ∧ ∃ l46 : Sl, w23.cell? ((a44.add ((i : Int).toNat * 4)).add 1) = some (.slice l46.a l46.len l46.cap) ∧ ∃ l47 : Sl, w23.cell? ((a44.add ((i : Int).toNat * 4)).add 2) = some (.slice l47.a l47.len l47.cap) ∧ ∃ l48 : Sl, w23.cell? ((a44.add ((i : Int).toNat * 4)).add 3) = some (.slice l48.a l48.len l48.cap) ∧ ∃ l49 : Sl, w23.cell? ((⟨w1.heap.size, 0, none⟩ : Addr).add 4) = some (.slice l49.a l49.len l49.cap) ∧ onSome l49.a (fun a50 => ((0 : Int) ≤ n22 ∧ n22 < (l49.len : Int)) ∧ ∃ n51 : Int, w23.cell? ((a50.add (n22.toNat * 5)).add 0) = some (.int .i64 n51) ∧ ∃ n52 : Int, w23.cell? ((a50.add (n22.toNat * 5)).add 1) = some (.int .i64 n52) ∧ ∃ s53 : ByteArray, w23.cell? ((a50.add (n22.toNat * 5)).add 2) = some (.string s53) ∧ ∃ l54 : Sl, w23.cell? ((a50.add (n22.toNat * 5)).add 3) = some (.slice l54.a l54.len l54.cap) ∧ ∃ l55 : Sl, w23.cell? ((a50.add (n22.toNat * 5)).add 4) = some (.slice l55.a l55.len l55.cap) ∧ CallR Try.prog 44 [.agg #[.int .i64 n45, .slice l46.a l46.len l46.cap, .slice l47.a l47.len l47.cap, .slice l48.a l48.len l48.cap], .agg #[.int .i64 n51, .int .i64 n52, .string s53, .slice l54.a l54.len l54.cap, .slice l55.a l55.len l55.cap]] w23 (fun r56 w57 => ∃ b58 : Bool, r56 = .bool b58 ∧ br (!b58) (Value.bool false = .bool (fit (d + 1) x n) ∧ Ext w w57) (InR .i64 ((i : Int) + (1 : Int)) ∧ K (((i : Int) + (1 : Int)), ()) w57))))) (InR .i64 ((i : Int) + (1 : Int)) ∧ K (((i : Int) + (1 : Int)), ()) w23))))) (Value.bool true = .bool (fit (d + 1) x n) ∧ Ext w w3) := by
      intro hkind w3 i K hi e3 hup hK
      have hx4 : x.k = 4 := by rcases hk4 with h | h <;> omega
      have hn4 : n.k = 4 := by rcases hkind with h | h <;> omega
      have hkk := map_names hp hn4
      have hno : fitAt (fit d) n x i = false → fit (d + 1) x n = false := fun hf => by
        have : decide (x.k = 0) = false := decide_eq_false (by omega)
        simp only [fit, fitUp_false hi hf, Bool.and_false]
      have hyes : fitAt (fit d) n x i = true → fitUp (fit d) n x (i + 1) = true := fun hf => by simp only [fitUp, hup, hf, Bool.and_self]
      obtain ⟨nm, hnm⟩ : ∃ y, x.ns[i]? = some y := ⟨x.ns[i], List.getElem?_eq_getElem hi⟩
      obtain ⟨b, hbi⟩ : ∃ y, x.bs[i]? = some y := ⟨x.bs[i]'(by omega), List.getElem?_eq_getElem (by omega)⟩
      obtain ⟨y, hy⟩ : ∃ y, x.ks[i]? = some y := ⟨x.ks[i]'(by omega), List.getElem?_eq_getElem (by omega)⟩
      have hat := fitAt_eq (rec := fit d) (n := n) hnm hbi hy
      rw [exL (e3.get k1)]
      refine br_dt (by omega) fun w4 (e4 : Ext w3 w4) => ?_
      have e24 := e3.trans e4
      have e04 := e02.trans e24
      simp only [exI (e24.get m0), exI (e24.get m1), exS (e24.get m2), exL (e24.get m3), exL (e24.get m4), exL (e24.get k1)]
      obtain ⟨a, ha, c0⟩ := str_at (hn.ext e04) hnm
      refine onSome_i ha ⟨⟨by omega, by omega⟩, _, c0, ?_⟩
      refine (c_place4 nm (h'.ext e04) hn4 hkk).mono ?_
      rintro _ w5 ⟨hres, e5⟩
      have e25 := e24.trans e5
      rcases hres with ⟨j, rfl, hj, hjb⟩ | ⟨rfl, hj⟩
      · refine ⟨_, rfl, fun w6 (e6 : Ext w5 w6) => br_df (by omega) (br_dt (by omega) ?_)⟩
        have e26 := e25.trans e6
        have e06 := e02.trans e26
        have hjl := (List.getElem?_eq_some_iff.1 hj).1
        obtain ⟨z, hz⟩ : ∃ z, n.ks[j]? = some z := ⟨n.ks[j]'(by omega), List.getElem?_eq_getElem (by omega)⟩
        have hlook := look_hit hjb hj hz
        rw [exL (e26.get k3)]
        obtain ⟨dd, ka, hka, hd, g0, g1, g2, g3⟩ := (h.ext e06).kid hy
        refine onSome_i hka ⟨⟨by omega, by omega⟩, ?_⟩
        simp only [add_nought, exI g0, exL g1, exL g2, exL g3, exL (e26.get m4)]
        obtain ⟨_, de, na, hna, hde, f0, f1, f2, f3, f4⟩ := (h'.ext e06).kid hz
        rw [add_nought] at f0
        refine onSome_i hna ⟨⟨by omega, by omega⟩, ?_⟩
        simp only [exI f0, exI f1, exS f2, exL f3, exL f4]
        refine (ih w6 dd de y z (hkv y (List.mem_of_getElem? hy)) (shp_kid hs (List.mem_of_getElem? hz)) hd hde).go fun w7 e7 => ⟨_, rfl, ?_⟩
        have hfa : fitAt (fit d) n x i = fit d y z := by rw [hat, fit1, hlook]
        exact br_i (fun g => ⟨by rw [hno (by rw [hfa]; exact nott g)], e06.trans e7⟩) (fun g => ⟨inR_i64 (by omega) (by omega), hK _ (e26.trans e7) (hyes (by rw [hfa]; exact notf g))⟩)
      · have hlook := look_none (ks := n.ks) hj
        have hfa : fitAt (fit d) n x i = !b := by rw [hat, fit1, hlook]
        refine ⟨_, rfl, fun w6 (e6 : Ext w5 w6) => br_dt (by omega) ?_⟩
        have e26 := e25.trans e6
        have e06 := e02.trans e26
        rw [exL (e26.get k2)]
        obtain ⟨ba, hba, cb⟩ := bool_at (hb.ext e06) hbi
        refine onSome_i hba ⟨⟨by omega, by omega⟩, _, cb, br_i (fun g => ⟨by rw [hno (by rw [hfa, g]; rfl)], e06⟩) (fun g => br_df (by omega) ⟨inR_i64 (by omega) (by omega), hK _ e26 (hyes (by rw [hfa, g]; rfl))⟩)⟩
    have fin : (x.k = 0 ∨ n.k = x.k) → ∀ w3, Ext w2 w3 → fitUp (fit d) n x x.ns.length = true → (Value.bool true = .bool (fit (d + 1) x n) ∧ Ext w w3) := fun hkind w3 e3 hup => by
      refine ⟨?_, e02.trans e3⟩
      have : (decide (x.k = 0) || decide (n.k = x.k)) = true := by
        rcases hkind with h | h
        · simp [h]
        · simp [h]
      simp only [fit, this, hup, Bool.and_self]
    refine br_i (fun g => ?_) (fun g => ?_)
    · simp only [add_nought]
      rw [add_nought] at m0
      rw [exI m0, exI k0]
      refine br_i (fun g2 => ?_) (fun g2 => ?_)
      · refine ⟨?_, e02⟩
        have h1 : ¬ x.k = 0 := by rw [← hk]; simpa using g
        have h2 : ¬ n.k = x.k := by rw [← hk, ← hk']; simpa using g2
        simp [fit, h1, h2]
      · have h2 : n.k = x.k := by rw [← hk, ← hk']; simpa using g2
        refine sLoop_up x.ns.length (fun i t w' => Ext w2 w' ∧ fitUp (fit d) n x i = true) ⟨Ext.refl _, rfl⟩ ?_ ?_
        · rintro K i u w3 hi ⟨e3, hup⟩ hK _
          have := step (.inr h2) w3 i K hi e3 hup fun w' h1 h2 => hK _ _ ⟨h1, h2⟩
          simpa only [add_nought] using this
        · rintro K u w3 ⟨e3, hup⟩ _
          rw [exL (e3.get k1)]
          exact br_df (by omega) (fin (.inr h2) w3 e3 hup)
    · have h0 : x.k = 0 := by rw [← hk]; simpa using g
      refine sLoop_up x.ns.length (fun i t w' => Ext w2 w' ∧ fitUp (fit d) n x i = true) ⟨Ext.refl _, rfl⟩ ?_ ?_
      · rintro K i u w3 hi ⟨e3, hup⟩ hK _
        exact step (.inl h0) w3 i K hi e3 hup fun w' h1 h2 => hK _ _ ⟨h1, h2⟩
      · rintro K u w3 ⟨e3, hup⟩ _
        rw [exL (e3.get k1)]
        exact br_df (by omega) (fin (.inl h0) w3 e3 hup)
end Go.Proofs
