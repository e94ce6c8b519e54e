/-
  What functions of this seat compute, part 'ShapeLaws': contracts over their readable predicates. Conditions: each theorem's own hypotheses.
-/
import Derived.Test.YtcgfhchmpoaiiaaBase
import Derived.Test.YtcgfhchmpoaiiaaOpen
import Derived.Test.YtcgfhchmpoaiiaaGen
import Derived.Test.YtcgfhchmpoaiiaaCSmall
import Derived.Test.YtcgfhchmpoaiiaaCOrder
import Derived.Test.YtcgfhchmpoaiiaaCNode
import Derived.Test.YtcgfhchmpoaiiaaCNodeText
import Derived.Test.YtcgfhchmpoaiiaaCNodeValid
import Derived.Test.YtcgfhchmpoaiiaaCNodeSpec
import Derived.Test.YtcgfhchmpoaiiaaCHelpS
import Derived.Test.YtcgfhchmpoaiiaaCNodeHelp
import Derived.Test.YtcgfhchmpoaiiaaCNodeHelp2
import Derived.Test.YtcgfhchmpoaiiaaCNodeTop
import Derived.Test.YtcgfhchmpoaiiaaCCells
import Derived.Test.YtcgfhchmpoaiiaaCShape
import Derived.Test.YtcgfhchmpoaiiaaCShape2
import Derived.Test.YtcgfhchmpoaiiaaCShapeOf
import Derived.Test.YtcgfhchmpoaiiaaCShapeOf2
import Derived.Test.YtcgfhchmpoaiiaaCShapeOf3
import Derived.Test.YtcgfhchmpoaiiaaCShapeOf4
import Derived.Test.YtcgfhchmpoaiiaaCFits
import Derived.Test.YtcgfhchmpoaiiaaCFits2
import Derived.Test.YtcgfhchmpoaiiaaCFits3
import Derived.Test.YtcgfhchmpoaiiaaCDraw
import Derived.Test.YtcgfhchmpoaiiaaCNodeCopy
import Derived.Test.YtcgfhchmpoaiiaaCNodeAdd
import Derived.Test.YtcgfhchmpoaiiaaCNodeDraw
import Derived.Test.YtcgfhchmpoaiiaaCNodeDraw2
namespace Go.Proofs
open Go Go.Vc Go.RowKit
set_option maxRecDepth 100000
set_option linter.unusedVariables false
--! C:Small C:Order C:Node C:NodeText C:NodeValid C:NodeSpec C:HelpS C:NodeHelp C:NodeHelp2 C:NodeTop C:Cells C:Shape C:Shape2 C:ShapeOf C:ShapeOf2 C:ShapeOf3 C:ShapeOf4 C:Fits C:Fits2 C:Fits3 C:Draw C:NodeCopy C:NodeAdd C:NodeDraw C:NodeDraw2
/-! ## Nodes fit their shapes -/

theorem c_laws_equalTexts {s t : Sl} {xs : List ByteArray} {w : World} (h : Strs w s xs) (h' : Strs w t xs) (hl : xs.length ≤ maxLen) :
    CallR Try.prog 27 [.slice s.a s.len s.cap, .slice t.a t.len t.cap] w (fun v w' => v = .bool true ∧ Ext w w') := by
  refine fn_laws_equalTexts _ _ _ _ ?_
  unfold g_laws_equalTexts
  unfold maxLen at hl
  have hl0 := h.len
  have hl1 := h'.len
  refine br_f (by rw [hl0, hl1]; simp) ?_
  refine sLoop_list xs (fun pre _ w' => Ext w w') (Ext.refl _) ?_ ?_
  · intro K pre post c u w1 hx he hK _
    have hm := mid_len hx
    refine br_dt (by omega) (fun w2 (e2 : Ext w1 w2) => ?_)
    obtain ⟨a, ha1, hc⟩ := (h.ext (he.trans e2)).sm hx
    obtain ⟨a', ha1', hc'⟩ := (h'.ext (he.trans e2)).sm hx
    refine onSome_i ha1 ⟨⟨by omega, by omega⟩, _, hc, onSome_i ha1' ⟨⟨by omega, by omega⟩, _, hc', ?_⟩⟩
    exact br_f (by simp [seqB_eq]) ⟨inR_i64 (by omega) (by omega), hK _ _ (he.trans e2)⟩
  · intro K u w1 he _
    exact br_df (by omega) ⟨rfl, he⟩

theorem c_laws_equalShape {S S' : Nat → Prop} : ∀ (N : Nat) (w : World) (c d : ShC) (n : Sh), cnS n ≤ N → ShAt S w c n → ShAt S' w d n →
    CallR Try.prog 26 [c.v, d.v] w (fun v w' => v = .bool true ∧ Ext w w') := by
  intro N
  induction N with
  | zero => intro w c d n h; have := cnS_pos n; omega
  | succ N ih =>
    intro w c d n hN h h'
    refine fn_laws_equalShape _ _ _ _ _ _ _ _ _ _ ?_
    unfold g_laws_equalShape
    refine shBox fun w1 e1 r1 => shBox fun w2 e2 r2 => ?_
    have r12 := r1.ext e2
    obtain ⟨k0, k1, k2, k3⟩ := Row.sh r12
    obtain ⟨m0, m1, m2, m3⟩ := Row.sh r2
    obtain ⟨hk, hn, hb, hnl, hbl, hkl, _⟩ := h.out
    obtain ⟨hk', hn', hb', _⟩ := h'.out
    obtain ⟨l3, l1, l2, l4⟩ := h.klen
    obtain ⟨q3, q1, q2, q4⟩ := h'.klen
    unfold maxLen at hbl hkl
    have e := e1.trans e2
    simp only [add_nought, exI k0, exI m0, exL k1, exL m1]
    refine br_f (by rw [hk, hk']; simp) ?_
    refine (c_laws_equalTexts (hn.ext e) (hn'.ext e) hnl).go fun w3 e3 => ⟨_, rfl, br_f (by simp) ?_⟩
    simp only [exL (e3.get k2), exL (e3.get m2), exL (e3.get k3), exL (e3.get m3)]
    have e03 := e.trans e3
    refine br_f (by rw [l2, q2]; simp) (br_f (by rw [l3, q3]; simp) ?_)
    refine sLoop_list n.bs (fun pre _ w' => Ext w3 w') (Ext.refl _) ?_ ?_
    · intro K pre post b u w4 hx he hK _
      have hm := mid_len hx
      have e24 := e3.trans he
      rw [exL (e24.get k2)]
      refine br_dt (by omega) (fun w5 (e5 : Ext w4 w5) => ?_)
      have e25 := e24.trans e5
      rw [exL (e25.get k2)]
      obtain ⟨a, ha1, hc⟩ := (hb.ext (e.trans e25)).bm hx
      obtain ⟨a', ha1', hc'⟩ := (hb'.ext (e.trans e25)).bm hx
      refine onSome_i ha1 ⟨⟨by omega, by omega⟩, _, hc, ?_⟩
      rw [exL (e25.get m2)]
      exact onSome_i ha1' ⟨⟨by omega, by omega⟩, _, hc', br_f (by simp) ⟨inR_i64 (by omega) (by omega), hK _ _ (he.trans e5)⟩⟩
    · intro K u w4 he _
      have e24 := e3.trans he
      rw [exL (e24.get k2)]
      refine br_df (by omega) ?_
      refine sLoop_list n.ks (fun pre _ w' => Ext w4 w') (Ext.refl _) ?_ ?_
      · intro K' pre post x u' w5 hx he5 hK' _
        have hm := mid_len hx
        have e25 := e24.trans he5
        rw [exL (e25.get k3)]
        refine br_dt (by omega) (fun w6 (e6 : Ext w5 w6) => ?_)
        have e26 := e25.trans e6
        rw [exL (e26.get k3)]
        obtain ⟨dc, a, hsa, hdc, g0, g1, g2, g3⟩ := (h.ext (e.trans e26)).kid (i := pre.length) (mid_get hx)
        obtain ⟨dd, b, hsb, hdd, f0, f1, f2, f3⟩ := (h'.ext (e.trans e26)).kid (i := pre.length) (mid_get hx)
        refine onSome_i hsa ⟨⟨by omega, by omega⟩, ?_⟩
        simp only [add_nought, exI g0, exL g1, exL g2, exL g3, exL (e26.get m3)]
        refine onSome_i hsb ⟨⟨by omega, by omega⟩, ?_⟩
        simp only [exI f0, exL f1, exL f2, exL f3]
        exact (ih w6 dc dd x (by have := cnS_kid (n := n) (x := x) (by rw [hx]; simp); omega) hdc hdd).go fun w7 e7 => ⟨_, rfl, br_f (by simp) ⟨inR_i64 (by omega) (by omega), hK' _ _ ((he5.trans e6).trans e7)⟩⟩
      · intro K' u' w5 he5 _
        have e25 := e24.trans he5
        rw [exL (e25.get k3)]
        exact br_df (by omega) ⟨by simp, e.trans e25⟩

/-! ### The plain law -/

theorem parts_kind {n : Nd} (h : parts n = true) : 0 ≤ n.k ∧ n.k ≤ 4 := by
  simp only [parts, partsC, Bool.and_eq_true, Bool.or_eq_true, decide_eq_true_eq] at h
  obtain ⟨_, h4⟩ := h
  by_cases h0 : n.k = 0
  · omega
  by_cases h1 : n.k = 1
  · omega
  by_cases h2 : n.k = 2
  · omega
  by_cases h3 : n.k = 3
  · omega
  by_cases h5 : n.k = 4
  · omega
  rw [if_neg h0, if_neg h1, if_neg h2, if_neg h3, if_neg h5] at h4
  cases h4

theorem parts_ok {n : Nd} (h : parts n = true) : okNames n.ns = true := by
  rcases (parts_names h).1 with hk | hk
  · simp only [parts, partsC, Bool.and_eq_true, Bool.or_eq_true, decide_eq_true_eq] at h
    obtain ⟨_, h4⟩ := h
    rw [if_neg (by omega), if_neg (by omega), if_neg (by omega), if_neg (by omega), if_pos hk] at h4
    simp only [Bool.and_eq_true, decide_eq_true_eq] at h4
    exact h4.1.2
  · rw [List.eq_nil_of_length_eq_zero hk]; rfl

theorem shOfL_mem : ∀ {m : Nat} {ks : List Nd} {y : Sh}, y ∈ shOfL m ks → ∃ x ∈ ks, y = shOf x
  | 0, _, y, h => by simp [shOfL] at h
  | m + 1, [], y, h => by simp [shOfL] at h
  | m + 1, a :: r, y, h => by
    simp only [shOfL, List.mem_cons] at h
    rcases h with rfl | h
    · exact ⟨a, by simp, rfl⟩
    · obtain ⟨x, hx, e⟩ := shOfL_mem h
      exact ⟨x, by simp [hx], e⟩

theorem shOf_valid : ∀ (d : Nat) (n : Nd), shp d n = true → vSh d (shOf n) = true
  | 0, n, h => by cases h
  | d + 1, n, h => by
    simp only [shp, Bool.and_eq_true, List.all_eq_true] at h
    obtain ⟨hp, hk⟩ := h
    obtain ⟨h1, h2, h3⟩ := parts_names hp
    obtain ⟨h4, h5⟩ := parts_kind hp
    have h6 := parts_ok hp
    have hpS : partS n.k n.ns (List.replicate n.ns.length true).length (shOfL n.ns.length n.ks).length = true := by
      rw [shOfL_len _ _ h2, List.length_replicate]
      rcases h1 with h1 | h1
      · simp [partS, h6, h3, h1]
      · simp [partS, h4, h5, h6, h1]
    rw [shOf_eq]
    simp only [vSh, Sh.k, Sh.ns, Sh.bs, Sh.ks, hpS, Bool.true_and, List.all_eq_true]
    intro y hy
    obtain ⟨x, hx, rfl⟩ := shOfL_mem hy
    exact shOf_valid d x (hk x hx)

theorem fitUp_all {rec : Sh → Nd → Bool} {n : Nd} {x : Sh} : ∀ {m : Nat}, (∀ j, j < m → fitAt rec n x j = true) → fitUp rec n x m = true
  | 0, _ => rfl
  | m + 1, h => by rw [fitUp, fitUp_all (m := m) fun j hj => h j (by omega), h m (by omega)]; rfl

theorem shOf_fit : ∀ (d : Nat) (n : Nd), shp d n = true → fit d (shOf n) n = true
  | 0, n, h => by cases h
  | d + 1, n, h => by
    simp only [shp, Bool.and_eq_true, List.all_eq_true] at h
    obtain ⟨hp, hk⟩ := h
    obtain ⟨h1, h2, h3⟩ := parts_names hp
    have e := shOf_eq n
    have ek : (shOf n).k = n.k := by rw [e]; rfl
    have ens : (shOf n).ns = n.ns := by rw [e]; rfl
    simp only [fit, ek, decide_true, Bool.or_true, Bool.true_and]
    refine fitUp_all fun j hj => ?_
    rw [ens] at hj
    have h4 : n.k = 4 := by rcases h1 with h | h <;> omega
    obtain ⟨y, hy⟩ : ∃ y, n.ks[j]? = some y := ⟨n.ks[j]'(by omega), List.getElem?_eq_getElem (by omega)⟩
    have hnm : n.ns[j]? = some n.ns[j] := List.getElem?_eq_getElem hj
    rw [fitAt_eq (nm := n.ns[j]) (b := true) (y := shOf y) (by rw [ens]; exact hnm) (by rw [e]; simp [Sh.bs, hj]) (by rw [e]; exact shOfL_get _ _ _ _ hj hy)]
    have hl : look n.ns[j] n.ns n.ks = some y := look_hit (fun i hi hx => by have := asc_only (map_asc hp h4) hx hnm; omega) hnm hy
    simp only [fit1, hl]
    exact shOf_fit d y (hk y (List.mem_of_getElem? hy))

theorem shOf_fits {n : Nd} (h : vNd n = true) : fits (shOf n) n = true := by
  simp only [fits, shOf_valid 5 n (vNd_shp h), shOf_fit 5 n (vNd_shp h), h, Bool.and_self]

theorem c_spec_DrawShapeOf {w : World} {s : Sl} {bs : List UInt8} (hs : Bytes w s bs) {Φ : Value → World → Prop} (hk : ∀ c n w', NdAt (fun _ => True) w' c n → Ext w w' → Φ (NdC.v c) w') : CallR Try.prog 25 [.slice s.a s.len s.cap] w Φ := by
  refine fn_spec_DrawShapeOf _ _ _ ?_
  unfold g_spec_DrawShapeOf
  refine letW_i fun w1 hw1 => ?_
  have e1 : Ext w w1 := by rw [hw1]; exact (Ext.refl w).alloc _
  have ra : Row w1 w.heap.size (cN zeroN) 40 := by rw [hw1]; exact Row.new w (cN zeroN) _
  clear hw1
  have z1 := ra.lt
  refine (c_spec_newReader (hs.ext e1)).mono ?_
  rintro _ w3 ⟨rfl, h3, e3⟩
  have z3 := e3.size
  refine ⟨_, rfl, c_anyNode h3 (by omega) fun c n w6 hn c6 => ⟨_, _, _, _, _, rfl, outNd (d := c) ((ra.ext e3).chg c6 (by omega)) fun w' r' c' => hk c n w' ((hn.chg c' (by omega)).mono fun _ _ _ => trivial) ?_⟩⟩
  exact ((e1.trans e3).chg c6 (by omega)).chg c' (Nat.le_refl _)

set_option maxHeartbeats 1000000 in
theorem c_laws_FnShapeOf {w : World} {s : Sl} {bs : List UInt8} (hs : Bytes w s bs) (hm : s.cap ≤ maxLen) : CallR Try.prog 7 [.slice s.a s.len s.cap] w (fun v w' => v = .bool true ∧ Ext w w') := by
  refine fn_laws_FnShapeOf _ _ _ ?_
  unfold g_laws_FnShapeOf
  refine br_d (fun _ => ⟨rfl, Ext.refl _⟩) (fun _ => ?_)
  refine c_spec_DrawShapeOf hs fun c n w1 hn e1 => ⟨_, _, _, _, _, rfl, local5 fun w2 r2 e2 => ?_⟩
  have rn : Row w2 w1.heap.size (cN c) 40 := r2
  obtain ⟨k0, k1, k2, k3, k4⟩ := Row.nd rn
  rw [add_nought] at k0
  have hn2 := hn.ext e2
  have e02 := e1.trans e2
  simp only [add_nought, exI k0, exI k1, exS k2, exL k3, exL k4]
  refine (c_impl_ShapeOf hn2).mono ?_
  rintro _ w3 ⟨x, F, rfl, hM, hF, e3⟩
  refine ⟨_, _, _, _, _, rfl, local4c fun w4 r4 e4 => ?_⟩
  have rx : Row w4 w3.heap.size (cSh x) 31 := r4
  have e24 := e3.trans e4
  simp only [exI (e24.get k0), exI (e24.get k1), exS (e24.get k2), exL (e24.get k3), exL (e24.get k4)]
  refine (c_spec_ShapeOf (hn2.ext e24)).mono ?_
  rintro _ w5 ⟨y, F', rfl, hM', hF', e5⟩
  refine ⟨_, _, _, _, _, rfl, local4c fun w6 r6 e6 => ?_⟩
  have ry : Row w6 w5.heap.size (cSh y) 31 := r6
  have e46 : Ext w4 w6 := e5.trans e6
  have e26 := e24.trans e46
  have rx6 := rx.ext e46
  obtain ⟨p0, p1, p2, p3⟩ := Row.sh rx6
  obtain ⟨q0, q1, q2, q3⟩ := Row.sh ry
  simp only [add_nought, exI p0, exL p1, exL p2, exL p3, exI q0, exL q1, exL q2, exL q3]
  have hx6 := (hM.ext (e4.trans e46)).at_
  have hy6 := (hM'.ext e6).at_
  have e06 := e02.trans e26
  refine (c_laws_equalShape _ w6 x y (shO n) (Nat.le_refl _) hx6 hy6).go fun w7 e7 => ⟨_, rfl, br_f (by simp) (br_f (by simp) ?_)⟩
  have e07 := e06.trans e7
  have e27 := e26.trans e7
  have hx7 := hx6.ext e7
  have hy7 := hy6.ext e7
  simp only [exI (e7.get p0), exL (e7.get p1), exL (e7.get p2), exL (e7.get p3), exI (e7.get q0), exL (e7.get q1), exL (e7.get q2), exL (e7.get q3)]
  refine br_i (fun g => ?_) (fun g => ?_)
  · exact (c_laws_equalShape _ w7 x y (shO n) (Nat.le_refl _) hx7 hy7).go fun w8 e8 => ⟨_, rfl, br_t rfl ⟨by simp, e07.trans e8⟩⟩
  have hv : vNd n = true := notf g
  have hxs : shO n = shOf n := by rw [shO, hv]; rfl
  rw [hxs] at hx7
  refine (c_impl_ValidShape hx7).go fun w8 e8 => ⟨_, rfl, br_t (shOf_valid 5 n (vNd_shp hv)) ?_⟩
  have e78 := e7.trans e8
  have e28 := e26.trans e78
  simp only [exI (e78.get p0), exL (e78.get p1), exL (e78.get p2), exL (e78.get p3), exI (e28.get k0), exI (e28.get k1), exS (e28.get k2), exL (e28.get k3), exL (e28.get k4)]
  have hx8 := hx7.ext e8
  have hn8 := hn2.ext e28
  refine (c_impl_FitsShape hx8 hn8).go fun w9 e9 => ⟨_, rfl, br_t (shOf_fits hv) ?_⟩
  have e79 := e78.trans e9
  have e29 := e28.trans e9
  simp only [add_nought, exI (e79.get p0), exI (e29.get k0), exL (e79.get p1), exL (e29.get k3)]
  have hx9 := hx8.ext e9
  have hn9 := hn8.ext e9
  obtain ⟨ok, on, _, onl, _⟩ := hx9.out
  obtain ⟨nk, _, _, nn, _⟩ := hn9.out
  have e := shOf_eq n
  have ek : (shOf n).k = n.k := by rw [e]; rfl
  have ens : (shOf n).ns = n.ns := by rw [e]; rfl
  rw [ens] at on onl
  refine br_t (by rw [ok, nk, ek]; simp) ?_
  exact (c_laws_equalTexts on nn onl).go fun w10 e10 => ⟨_, rfl, by simp, (e02.trans e29).trans e10⟩
end Go.Proofs
