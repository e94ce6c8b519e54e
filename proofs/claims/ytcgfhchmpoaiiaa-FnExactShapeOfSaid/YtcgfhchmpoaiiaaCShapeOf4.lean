/-
  What functions of this seat compute, part 'ShapeOf4': contracts over their readable predicates. Conditions: each theorem's own hypotheses.
-/
import Derived.Test.YtcgfhchmpoaiiaaBase
import Derived.Test.YtcgfhchmpoaiiaaOpen
import Derived.Test.YtcgfhchmpoaiiaaGen
import Derived.Test.YtcgfhchmpoaiiaaCSmall
import Derived.Test.YtcgfhchmpoaiiaaCOrder
import Derived.Test.YtcgfhchmpoaiiaaCNode
import Derived.Test.YtcgfhchmpoaiiaaCNodeText
import Derived.Test.YtcgfhchmpoaiiaaCNodeValid
import Derived.Test.YtcgfhchmpoaiiaaCNodeSpec
import Derived.Test.YtcgfhchmpoaiiaaCHelpS
import Derived.Test.YtcgfhchmpoaiiaaCNodeHelp
import Derived.Test.YtcgfhchmpoaiiaaCNodeHelp2
import Derived.Test.YtcgfhchmpoaiiaaCNodeTop
import Derived.Test.YtcgfhchmpoaiiaaCCells
import Derived.Test.YtcgfhchmpoaiiaaCShape
import Derived.Test.YtcgfhchmpoaiiaaCShape2
import Derived.Test.YtcgfhchmpoaiiaaCShapeOf
import Derived.Test.YtcgfhchmpoaiiaaCShapeOf2
import Derived.Test.YtcgfhchmpoaiiaaCShapeOf3
namespace Go.Proofs
open Go Go.Vc Go.RowKit
set_option maxRecDepth 100000
set_option linter.unusedVariables false
--! C:Small C:Order C:Node C:NodeText C:NodeValid C:NodeSpec C:HelpS C:NodeHelp C:NodeHelp2 C:NodeTop C:Cells C:Shape C:Shape2 C:ShapeOf C:ShapeOf2 C:ShapeOf3
/-! ## The program's shape of a node -/

theorem ShG.ext {B N : Nat} {kd : Int} {names : List ByteArray} {kids : List Sh} {i : Nat} {w w' : World} (h : ShG B N kd names kids i w) (e : Ext w w') : ShG B N kd names kids i w' := by
  obtain ⟨⟨l, lb, lk, cs, Fs, hr, ol, ob, ok, hcl, hkN, hF, hFi, hFd, hM⟩, hBN⟩ := h
  exact ⟨⟨l, lb, lk, cs, Fs, hr.ext e, ol.ext e, ob.ext e, ok.ext e, hcl, hkN, fun j k hf => by
    obtain ⟨f1, f2, f3⟩ := hF j k hf
    exact ⟨f1, Nat.lt_of_lt_of_le f2 e.size, f3⟩, hFi, hFd, fun j d x hd hx => (hM j d x hd hx).ext e⟩, hBN⟩

theorem c_impl_copyTexts {w : World} {s : Sl} {xs : List ByteArray} (h : Strs w s xs) (hl : xs.length ≤ 1000) :
    CallR Try.prog 70 [.slice s.a s.len s.cap] w (fun v w' => ∃ l : Sl, v = .slice l.a l.len l.cap ∧ Own w.heap.size 9 1 w' l (xs.flatMap cS) ∧ Ext w w') := by
  refine fn_impl_copyTexts _ _ _ ?_
  unfold g_impl_copyTexts
  have hll := h.len
  refine br_i (fun g => ?_) (fun g => ?_)
  · have : xs = [] := List.eq_nil_of_length_eq_zero (by simp at g; omega)
    subst this
    exact ⟨⟨none, 0, 0⟩, rfl, Own.nil _ _ _ _, Ext.refl _⟩
  have hpos : 0 < xs.length := by simp at g; omega
  refine ⟨⟨by omega, by omega, by omega, by omega⟩, letW_i fun w1 hw1 => ?_⟩
  have e1 : Ext w w1 := by rw [hw1]; exact (Ext.refl w).alloc _
  have r1 : Row w1 w.heap.size (List.replicate xs.length (.string (⟨#[]⟩ : ByteArray))) 9 := by
    rw [hw1, madeCells_eq, hll, Int.toNat_natCast, Nat.mul_one]
    exact Row.new w _ _
  clear hw1
  have hx1 := h.ext e1
  have hfl : (xs.flatMap cS).length = xs.length := by rw [flatMap_len cS_len]; omega
  obtain ⟨a0, ha0, _⟩ := hx1.cell1 cS_len (i := 0) (x := xs[0]) (List.getElem?_eq_getElem hpos) rfl
  refine ⟨w.heap.size, 0, List.replicate xs.length (.string (⟨#[]⟩ : ByteArray)), 9, xs.flatMap cS, rfl, r1, ?_, ?_, .inr ⟨a0, ha0, ?_⟩, ?_, ?_⟩
  · rw [hfl]; simp only [hll, Int.toNat_natCast]; simp
  · intro u hu
    obtain ⟨x, _, hx⟩ := List.mem_flatMap.1 hu
    exact cS_one x u hx
  · intro j u hj
    obtain ⟨a', ha', hc⟩ := hx1.at_ j u hj
    rw [ha0] at ha'
    obtain rfl := Option.some.inj ha'
    exact hc
  · rw [hfl]; simp
  · refine ⟨⟨some ⟨w.heap.size, 0, none⟩, (s.len : Int).toNat, (s.len : Int).toNat⟩, rfl, ?_, ?_⟩
    · have hq := r1.put ((List.replicate xs.length (.string (⟨#[]⟩ : ByteArray))).take 0 ++ xs.flatMap cS ++ (List.replicate xs.length (.string (⟨#[]⟩ : ByteArray))).drop (0 + (xs.flatMap cS).length))
      have hd : (List.replicate xs.length (Value.string (⟨#[]⟩ : ByteArray))).drop (0 + (xs.flatMap cS).length) = [] := List.drop_of_length_le (by rw [hfl]; simp)
      rw [hd] at hq ⊢
      simp only [List.take_zero, List.nil_append, List.append_nil] at hq ⊢
      rw [Int.toNat_natCast, hll]
      exact Own.ofRow hq (by rw [hfl]; omega) (Nat.le_refl _) (by unfold maxLen; omega)
    · exact e1.chg ((Chg.refl w.heap.size w1).row _) (Nat.le_refl _)

set_option maxHeartbeats 1000000 in
theorem c_impl_shapeOfValid {S : Nat → Prop} : ∀ (d : Nat) (w : World) (c : NdC) (n : Nd), shp d n = true → NdAt S w c n →
    CallR Try.prog 48 [c.v] w (fun v w' => ∃ (e : ShC) (F : Nat → Prop), v = e.v ∧ ShM w' F e (shOf n) ∧ (∀ k, F k → w.heap.size ≤ k ∧ k < w'.heap.size) ∧ Ext w w') := by
  intro d
  induction d with
  | zero => intro w c n h; cases h
  | succ d ih =>
    intro w c n hs h
    simp only [shp, Bool.and_eq_true, List.all_eq_true] at hs
    obtain ⟨hp, hkids⟩ := hs
    obtain ⟨hp1, hp2, hp3⟩ := parts_names hp
    obtain ⟨hk, hm, ht, hn, hts, hnl, hkl, hns, _⟩ := h.out
    have hkn := h.klen
    refine fn_impl_shapeOfValid _ _ _ _ _ _ _ ?_
    unfold g_impl_shapeOfValid
    refine ndStart fun w1 e1 r1 => letW_i fun w2 hw2 => ?_
    have e2 : Ext w1 w2 := by rw [hw2]; exact (Ext.refl w1).alloc _
    have ro : Row w2 w1.heap.size (cSh zeroSh) 31 := by rw [hw2]; exact Row.new w1 (cSh zeroSh) _
    clear hw2
    have r2 := r1.ext e2
    have e02 := e1.trans e2
    obtain ⟨k0, k1, k2, k3, k4⟩ := Row.nd r2
    rw [exI k0]
    refine local4c fun w3 r3 e3 => ?_
    have r3' : Row w3 w2.heap.size (cSh ⟨c.k, ⟨none, 0, 0⟩, ⟨none, 0, 0⟩, ⟨none, 0, 0⟩⟩) 31 := r3
    have szo := ro.lt
    have z1 := e1.size
    have z2 := e02.size
    have e03 := e02.trans e3
    obtain ⟨k0, k1, k2, k3, k4⟩ := Row.nd (r2.ext e3)
    rw [exI k0]
    have lit : ∀ (l : Sl) (w4 : World), Row w4 w2.heap.size (cSh ⟨c.k, l, ⟨none, 0, 0⟩, ⟨none, 0, 0⟩⟩) 31 → Own w2.heap.size 9 1 w4 l (n.ns.flatMap cS) → ShG w2.heap.size w2.heap.size n.k n.ns (shOfL n.ns.length n.ks) 0 w4 := fun l w4 hr ol =>
      ⟨⟨l, ⟨none, 0, 0⟩, ⟨none, 0, 0⟩, [], fun _ _ => False, by rw [← hk]; exact hr, ol, Own.nil _ _ _ _, Own.nil _ _ _ _, rfl, (by intro e; cases e), fun _ _ hf => hf.elim, fun _ _ hf => hf.elim, fun _ _ _ hf => hf.elim, fun j d x hd => by simp at hd⟩, Nat.le_refl _⟩
    have hlenk : (shOfL n.ns.length n.ks).length = n.ns.length := shOfL_len _ _ hp2
    have out : ∀ (w4 : World), Ext w2 w4 → ShG w2.heap.size w2.heap.size n.k n.ns (shOfL n.ns.length n.ks) n.ns.length w4 →
        ∃ e : ShC, Row w4 w2.heap.size (cSh e) 31 ∧ (∀ w5, Row w5 w1.heap.size (cSh e) 31 → Chg w1.heap.size w4 w5 → ∃ (e' : ShC) (F : Nat → Prop), e.v = e'.v ∧ ShM w5 F e' (shOf n) ∧ (∀ k, F k → w.heap.size ≤ k ∧ k < w5.heap.size) ∧ Ext w w5) := by
      intro w4 he hg
      obtain ⟨e, hr, F, hM, hF⟩ := hg.done hlenk ⟨hnl, hnl, hns⟩
      refine ⟨e, hr, fun w5 r5 c5 => ⟨e, F, rfl, ?_, fun k hk => ?_, ?_⟩⟩
      · rw [shOf_eq]
        exact hM.keep fun k hk hlt => c5.block k hlt fun e => by
          have h1 := (hF k hk).1
          have h2 : k = w1.heap.size := by simpa using e
          omega
      · have := hF k hk; have := c5.size; omega
      · exact (e02.trans he).chg c5 (by omega)
    refine br_i (fun g => ?_) (fun g => ?_)
    · have hns0 : n.ns = [] := by
        rcases hp1 with h4 | h4
        · rw [hk] at g; simp [h4] at g
        · exact List.eq_nil_of_length_eq_zero h4
      have hg := lit ⟨none, 0, 0⟩ w3 r3' (by rw [hns0]; exact Own.nil _ _ _ _)
      have hg' : ShG w2.heap.size w2.heap.size n.k n.ns (shOfL n.ns.length n.ks) n.ns.length w3 := by
        have : n.ns.length = 0 := by rw [hns0]; rfl
        rw [this] at hg ⊢; exact hg
      obtain ⟨e, hr, ho⟩ := out w3 e3 hg'
      obtain ⟨m0, m1, m2, m3⟩ := Row.sh hr
      simp only [add_nought, exI m0, exL m1, exL m2, exL m3]
      refine row_set4c (ro.ext e3) fun w5 r5 c5 => ?_
      obtain ⟨o0, o1, o2, o3⟩ := Row.sh (c := e) r5
      simp only [exI o0, exL o1, exL o2, exL o3]
      exact ho w5 r5 c5
    have h4 : n.k = 4 := by rw [← hk]; simpa using g
    have hkk := map_names hp h4
    rw [exL k3]
    refine (c_impl_copyTexts (hn.ext e03) (by omega)).mono ?_
    rintro _ w4 ⟨l, rfl, ol, e4⟩
    refine ⟨l, rfl, ?_⟩
    obtain ⟨p1, q1⟩ := Row.setMid (A := [.int .i64 c.k]) (B := [.slice none 0 0, .slice none 0 0]) (p := (⟨w2.heap.size, 0, none⟩ : Addr).add 1) (r3.ext e4) rfl (.slice l.a l.len l.cap)
    refine ⟨p1, letW_i fun w5 h5 => ?_⟩
    rw [← h5] at q1
    have c5 : Chg w2.heap.size w4 w5 := by rw [h5]; exact (Chg.refl _ _).set (by rw [add_block]) _
    clear h5
    have e24 := e3.trans e4
    have e25 := e24.chg c5 (Nat.le_refl _)
    have z3 := r3.lt
    have ol5 : Own w2.heap.size 9 1 w5 l (n.ns.flatMap cS) := (ol.chg c5 z3).base_le e3.size
    have hG := lit l w5 q1 ol5
    obtain ⟨k0, k1, k2, k3, k4⟩ := Row.nd (r2.ext e25)
    rw [exL k4]
    refine sLoop_list n.ks (fun pre _ w' => Ext w2 w' ∧ ShG w2.heap.size w2.heap.size n.k n.ns (shOfL n.ns.length n.ks) pre.length w') ⟨e25, hG⟩ ?_ ?_
    · rintro K pre post x0 u w6 hx ⟨he, hg⟩ hK _
      have hl := mid_len hx
      have hx0 := mid_get hx
      obtain ⟨_, dd, a, hsa, hd0, g0, g1, g2, g3, g4⟩ := h.kid hx0
      have e06 := e02.trans he
      refine br_dt (by first | omega | (simp only; omega)) (onSome_i hsa ⟨⟨by first | omega | (simp only; omega), by first | omega | (simp only; omega)⟩, ?_⟩)
      simp only [exI (e06.get g0), exI (e06.get g1), exS (e06.get g2), exL (e06.get g3), exL (e06.get g4)]
      refine local5 fun w7 r7 e7 => ?_
      have hg7 := hg.ext e7
      have e27 := he.trans e7
      refine hg7.need e27.size (by omega) fun l lb lk cs Fs w8 hr ol ob ok hcl hkN hF hFi hFd hM e78 keep => ?_
      have e28 := e78 w2 (Nat.le_refl _) e27
      have r8 : Row w8 w6.heap.size (cN dd) 40 := keep _ _ _ (by decide) (by decide) r7
      refine ⟨fun w' => Ext w8 w', fun w' h => h, fun w9 (e9 : Ext w8 w9) => ⟨e9, lk, fun w' e' => Ext.get e' (Row.sh hr).2.2.2, ?_⟩⟩
      have e29 := e28.trans e9
      obtain ⟨j0, j1, j2, j3, j4⟩ := Row.nd (r8.ext e9)
      simp only [exI j0, exI j1, exS j2, exL j3, exL j4]
      have hd9 : NdAt S w9 dd x0 := hd0.ext (e02.trans e29)
      refine ⟨e9, (ih w9 dd x0 (hkids x0 (List.mem_of_getElem? hx0)) hd9).mono ?_⟩
      rintro _ w10 ⟨e, F, rfl, hM', hF', e10⟩
      have e810 := e9.trans e10
      refine ⟨_, _, _, _, rfl, e810, e810, ?_⟩
      have z9 := e9.size
      refine ShG.kid (w := w8) (C := fun w' => Ext w8 w') hr ol ob ok hcl hkN hF hFi hFd hM (Nat.le_refl _) e28.size (by omega) e810 (shOfL_get _ _ _ _ (by omega) hx0) hM' (fun k hk => ⟨by have := (hF' k hk).1; omega, (hF' k hk).2⟩) (fun w' h => h) fun w11 hg' e811 => ⟨inR_i64 (by omega) (by omega), hK _ _ ⟨e811 w2 (Nat.le_refl _) e28, by simpa using hg'⟩⟩
    · rintro K u w6 ⟨he, hg⟩ _
      rw [hkk] at hg
      obtain ⟨e, hr, ho⟩ := out w6 he hg
      obtain ⟨m0, m1, m2, m3⟩ := Row.sh hr
      refine br_df (by first | omega | (simp only; omega)) ?_
      simp only [add_nought, exI m0, exL m1, exL m2, exL m3]
      refine row_set4c (ro.ext he) fun w7 r7 c7 => ?_
      obtain ⟨o0, o1, o2, o3⟩ := Row.sh (c := e) r7
      simp only [exI o0, exL o1, exL o2, exL o3]
      exact ho w7 r7 c7

/-! ### The answers -/

def zSh : Sh := .mk 0 [] [] []
def pickSh : Bool → Sh → Sh
  | true, x => x
  | false, _ => zSh
def shO (n : Nd) : Sh := pickSh (vNd n) (shOf n)

theorem ShM.zero (w : World) : ShM w (fun _ => False) zeroSh zSh :=
  .mk _ (fun _ _ => False) zeroSh [] [] [] [] (Own.nil _ _ _ _) (Own.nil _ _ _ _) (Own.nil _ _ _ _) rfl (fun k h => by rcases h with h | h | h <;> cases h) (fun _ _ h => h.elim) (fun _ _ _ h => h.elim) ⟨by simp, by simp, by simp, fun x h => by cases h⟩ (fun i d n h => by simp at h)

theorem c_spec_ShapeOf {S : Nat → Prop} {w : World} {c : NdC} {n : Nd} (h : NdAt S w c n) :
    CallR Try.prog 18 [c.v] w (fun v w' => ∃ (e : ShC) (F : Nat → Prop), v = .tuple #[e.v, .bool (vNd n)] ∧ ShM w' F e (shO n) ∧ (∀ k, F k → w.heap.size ≤ k ∧ k < w'.heap.size) ∧ Ext w w') := by
  refine fn_spec_ShapeOf _ _ _ _ _ _ _ ?_
  unfold g_spec_ShapeOf
  refine ndStart fun w1 e1 r1 => letW_i fun w2 hw2 => ?_
  have e2 : Ext w1 w2 := by rw [hw2]; exact (Ext.refl w1).alloc _
  have ro : Row w2 w1.heap.size (cSh zeroSh) 31 := by rw [hw2]; exact Row.new w1 (cSh zeroSh) _
  clear hw2
  have r2 := r1.ext e2
  have e02 := e1.trans e2
  have z1 := e1.size
  obtain ⟨k0, k1, k2, k3, k4⟩ := Row.nd r2
  simp only [exI k0, exI k1, exS k2, exL k3, exL k4]
  refine (c_spec_validNode (h.ext e02)).go fun w3 e3 => ⟨_, rfl, br_i (fun g => ?_) (fun g => ?_)⟩
  · have g' : vNd n = false := nott g
    refine row_set4c (ro.ext e3) fun w4 r4 c4 => ?_
    obtain ⟨m0, m1, m2, m3⟩ := Row.sh (c := zeroSh) r4
    simp only [add_nought, exI m0, exL m1, exL m2, exL m3]
    exact ⟨zeroSh, fun _ => False, by rw [g'], by rw [shO, g']; exact ShM.zero _, fun k hf => hf.elim, (e02.trans e3).chg c4 z1⟩
  · have g' : vNd n = true := notf g
    simp only [exI (e3.get k0), exI (e3.get k1), exS (e3.get k2), exL (e3.get k3), exL (e3.get k4)]
    have e03 := e02.trans e3
    refine (c_spec_shapeOf 5 w3 c n (vNd_shp g') (h.ext e03)).mono ?_
    rintro _ w4 ⟨e, F, rfl, hM, hF, e4⟩
    refine ⟨_, _, _, _, rfl, ?_⟩
    have ro4 := (ro.ext e3).ext e4
    have z3 := (ro.ext e3).lt
    refine row_set4c ro4 fun w5 r5 c5 => ?_
    obtain ⟨m0, m1, m2, m3⟩ := Row.sh (c := e) r5
    simp only [add_nought, exI m0, exL m1, exL m2, exL m3]
    have z5 := c5.size
    have z03 := e03.size
    refine ⟨e, F, by rw [g'], ?_, fun k hf => ?_, (e03.trans e4).chg c5 z1⟩
    · rw [shO, g']
      exact hM.keep fun k hf hlt => c5.block k hlt fun q => by
        have h1 := (hF k hf).1
        have h2 : k = w1.heap.size := by simpa using q
        omega
    · have := hF k hf; omega

theorem c_impl_ShapeOf {S : Nat → Prop} {w : World} {c : NdC} {n : Nd} (h : NdAt S w c n) :
    CallR Try.prog 20 [c.v] w (fun v w' => ∃ (e : ShC) (F : Nat → Prop), v = .tuple #[e.v, .bool (vNd n)] ∧ ShM w' F e (shO n) ∧ (∀ k, F k → w.heap.size ≤ k ∧ k < w'.heap.size) ∧ Ext w w') := by
  refine fn_impl_ShapeOf _ _ _ _ _ _ _ ?_
  unfold g_impl_ShapeOf
  refine ndStart fun w1 e1 r1 => letW_i fun w2 hw2 => ?_
  have e2 : Ext w1 w2 := by rw [hw2]; exact (Ext.refl w1).alloc _
  have ro : Row w2 w1.heap.size (cSh zeroSh) 31 := by rw [hw2]; exact Row.new w1 (cSh zeroSh) _
  clear hw2
  have r2 := r1.ext e2
  have e02 := e1.trans e2
  have z1 := e1.size
  obtain ⟨k0, k1, k2, k3, k4⟩ := Row.nd r2
  simp only [exI k0, exI k1, exS k2, exL k3, exL k4]
  refine (c_impl_ValidNode (h.ext e02)).go fun w3 e3 => ⟨_, rfl, br_i (fun g => ?_) (fun g => ?_)⟩
  · have g' : vNd n = false := nott g
    refine row_set4c (ro.ext e3) fun w4 r4 c4 => ?_
    obtain ⟨m0, m1, m2, m3⟩ := Row.sh (c := zeroSh) r4
    simp only [add_nought, exI m0, exL m1, exL m2, exL m3]
    exact ⟨zeroSh, fun _ => False, by rw [g'], by rw [shO, g']; exact ShM.zero _, fun k hf => hf.elim, (e02.trans e3).chg c4 z1⟩
  · have g' : vNd n = true := notf g
    simp only [exI (e3.get k0), exI (e3.get k1), exS (e3.get k2), exL (e3.get k3), exL (e3.get k4)]
    have e03 := e02.trans e3
    refine (c_impl_shapeOfValid 5 w3 c n (vNd_shp g') (h.ext e03)).mono ?_
    rintro _ w4 ⟨e, F, rfl, hM, hF, e4⟩
    refine ⟨_, _, _, _, rfl, ?_⟩
    have ro4 := (ro.ext e3).ext e4
    have z3 := (ro.ext e3).lt
    refine row_set4c ro4 fun w5 r5 c5 => ?_
    obtain ⟨m0, m1, m2, m3⟩ := Row.sh (c := e) r5
    simp only [add_nought, exI m0, exL m1, exL m2, exL m3]
    have z5 := c5.size
    have z03 := e03.size
    refine ⟨e, F, by rw [g'], ?_, fun k hf => ?_, (e03.trans e4).chg c5 z1⟩
    · rw [shO, g']
      exact hM.keep fun k hf hlt => c5.block k hlt fun q => by
        have h1 := (hF k hf).1
        have h2 : k = w1.heap.size := by simpa using q
        omega
    · have := hF k hf; omega
end Go.Proofs
