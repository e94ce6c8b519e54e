/-
  What functions of this seat compute, part 'ShapeOf3': contracts over their readable predicates. Conditions: each theorem's own hypotheses.
-/
import Derived.Test.YtcgfhchmpoaiiaaBase
import Derived.Test.YtcgfhchmpoaiiaaOpen
import Derived.Test.YtcgfhchmpoaiiaaGen
import Derived.Test.YtcgfhchmpoaiiaaCSmall
import Derived.Test.YtcgfhchmpoaiiaaCOrder
import Derived.Test.YtcgfhchmpoaiiaaCNode
import Derived.Test.YtcgfhchmpoaiiaaCNodeText
import Derived.Test.YtcgfhchmpoaiiaaCNodeValid
import Derived.Test.YtcgfhchmpoaiiaaCNodeSpec
import Derived.Test.YtcgfhchmpoaiiaaCHelpS
import Derived.Test.YtcgfhchmpoaiiaaCNodeHelp
import Derived.Test.YtcgfhchmpoaiiaaCNodeHelp2
import Derived.Test.YtcgfhchmpoaiiaaCNodeTop
import Derived.Test.YtcgfhchmpoaiiaaCCells
import Derived.Test.YtcgfhchmpoaiiaaCShape
import Derived.Test.YtcgfhchmpoaiiaaCShape2
import Derived.Test.YtcgfhchmpoaiiaaCShapeOf
import Derived.Test.YtcgfhchmpoaiiaaCShapeOf2
namespace Go.Proofs
open Go Go.Vc Go.RowKit
set_option maxRecDepth 100000
set_option linter.unusedVariables false
--! C:Small C:Order C:Node C:NodeText C:NodeValid C:NodeSpec C:HelpS C:NodeHelp C:NodeHelp2 C:NodeTop C:Cells C:Shape C:Shape2 C:ShapeOf C:ShapeOf2
/-! ## The reference's shape of a node -/

set_option maxHeartbeats 8000000 in
theorem c_spec_shapeOf {S : Nat → Prop} : ∀ (d : Nat) (w : World) (c : NdC) (n : Nd), shp d n = true → NdAt S w c n →
    CallR Try.prog 46 [c.v] w (fun v w' => ∃ (e : ShC) (F : Nat → Prop), v = e.v ∧ ShM w' F e (shOf n) ∧ (∀ k, F k → w.heap.size ≤ k ∧ k < w'.heap.size) ∧ Ext w w') := by
  intro d
  induction d with
  | zero => intro w c n h; cases h
  | succ d ih =>
    intro w c n hs h
    simp only [shp, Bool.and_eq_true, List.all_eq_true] at hs
    obtain ⟨hp, hkids⟩ := hs
    obtain ⟨hp1, hp2, hp3⟩ := parts_names hp
    obtain ⟨hk, hm, ht, hn, hts, hnl, hkl, hns, _⟩ := h.out
    have hkn := h.klen
    have hcap0 := h.cap0
    refine fn_spec_shapeOf _ _ _ _ _ _ _ ?_
    unfold g_spec_shapeOf
    refine ndStart fun w1 e1 r1 => letW_i fun w2 hw2 => ?_
    have e2 : Ext w1 w2 := by rw [hw2]; exact (Ext.refl w1).alloc _
    have ro : Row w2 w1.heap.size (cSh zeroSh) 31 := by rw [hw2]; exact Row.new w1 (cSh zeroSh) _
    clear hw2
    have r2 := r1.ext e2
    have e02 := e1.trans e2
    obtain ⟨k0, k1, k2, k3, k4⟩ := Row.nd r2
    have hn2 := hn.ext e02
    refine ⟨fun st w' => ∃ N, st.1 = some ⟨N, 0, none⟩ ∧ Ext w2 w' ∧ ShG w2.heap.size N n.k n.ns (shOfL n.ns.length n.ks) 0 w', ?_, ?_⟩
    · refine ⟨fun w' => Ext w2 w', fun w' h => h, fun w3 e3 => ⟨e3, n.k, fun w' e' => by rw [← hk]; exact Ext.get e' k0, e3, c.sn, fun w' e' => Ext.get e' k3, ?_⟩⟩
      have s := SoP.start w2 w3 n.ns e3
      clear e3
      repeat' (first
        | exact s.e
        | refine SoP.stepA s fun w' s => ?_
        | refine SoP.stepB s fun w' s => ?_
        | refine SoP.stepK s fun w' s => ?_
        | refine SoP.stepN s fun w' s => ?_
        | refine SoP.stepP hn2 hcap0 (by omega) s fun l w' s => ?_
        | exact SoP.leaf s fun w' e' g => ⟨_, rfl, e', g⟩
        | refine And.intro ?_ ?_)
    · rintro ⟨oN, u0⟩ w3 ⟨N, hN, e3, hG⟩ _
      simp only at hN
      subst hN
      have e03 := e02.trans e3
      have hNB := hG.bn
      have szo := ro.lt
      have hlenk : (shOfL n.ns.length n.ks).length = n.ns.length := shOfL_len _ _ hp2
      refine sLoop_list n.ns (fun pre _ w' => Ext w2 w' ∧ ShG w2.heap.size N n.k n.ns (shOfL n.ns.length n.ks) pre.length w') ⟨e3, hG⟩ ?_ ?_
      · rintro K pre post nm u w4 hx ⟨he, hg⟩ hK _
        have hl := mid_len hx
        obtain ⟨x0, hx0⟩ : ∃ x0, n.ks[pre.length]? = some x0 := ⟨n.ks[pre.length]'(by omega), List.getElem?_eq_getElem (by omega)⟩
        obtain ⟨k0, k1, k2, k3, k4⟩ := Row.nd (r2.ext he)
        simp only [exL k3]
        refine br_dt (by first | omega | (simp only; omega)) (onSome_i rfl ?_)
        refine hg.need he.size (by omega) fun l lb lk cs Fs w5 hr ol ob ok hcl hkN hF hFi hFd hM e45 _ => onSome_i rfl ?_
        have e25 := e45 w2 (Nat.le_refl _) he
        refine ⟨fun w' => Ext w5 w', fun w' h => h, fun w6 (e6 : Ext w5 w6) => onSome_i rfl ⟨e6, lk, fun w' e' => Ext.get e' (Row.sh hr).2.2.2, ?_⟩⟩
        have e26 := e25.trans e6
        obtain ⟨_, _, _, _, k4⟩ := Row.nd (r2.ext e26)
        obtain ⟨_, dd, a, hsa, hd', g0, g1, g2, g3, g4⟩ := (h.ext (e02.trans e26)).kid hx0
        simp only [exL k4]
        refine onSome_i hsa ⟨⟨by first | omega | (simp only; omega), by first | omega | (simp only; omega)⟩, ?_⟩
        simp only [exI g0, exI g1, exS g2, exL g3, exL g4]
        refine ⟨e6, (ih w6 dd x0 (hkids x0 (List.mem_of_getElem? hx0)) hd').mono ?_⟩
        rintro _ w7 ⟨e, F, rfl, hM', hF', e7⟩
        have e57 := e6.trans e7
        refine ⟨_, _, _, _, rfl, e57, e57, ?_⟩
        have z6 := e6.size
        refine ShG.kid (w := w5) (C := fun w' => Ext w5 w') hr ol ob ok hcl hkN hF hFi hFd hM hNB e25.size (by omega) e57 (shOfL_get _ _ _ _ (by omega) hx0) hM' (fun k hk => ⟨by have := (hF' k hk).1; omega, (hF' k hk).2⟩) (fun w' h => h) fun w8 hg' e58 => ⟨inR_i64 (by omega) (by omega), hK _ _ ⟨e58 w2 (Nat.le_refl _) e25, by simpa using hg'⟩⟩
      · rintro K u w4 ⟨he, hg⟩ _
        obtain ⟨k0, k1, k2, k3, k4⟩ := Row.nd (r2.ext he)
        simp only [exL k3]
        refine br_df (by first | omega | (simp only; omega)) (onSome_i rfl ?_)
        obtain ⟨e, hr, F, hM, hF⟩ := hg.done hlenk ⟨hnl, hnl, hns⟩
        obtain ⟨m0, m1, m2, m3⟩ := Row.sh hr
        simp only [add_nought, exI m0, exL m1, exL m2, exL m3]
        have ro4 := ro.ext he
        refine row_set4c ro4 fun w5 r5 c5 => ?_
        obtain ⟨o0, o1, o2, o3⟩ := Row.sh (c := e) r5
        simp only [exI o0, exL o1, exL o2, exL o3]
        have z1 := e1.size
        have z2 := e02.size
        have z5 := c5.size
        refine ⟨e, F, rfl, ?_, fun k hk => ?_, ?_⟩
        · rw [shOf_eq]
          exact hM.keep fun k hk hlt => c5.block k hlt fun e => by
            have h1 := (hF k hk).1
            have h2 : k = w1.heap.size := by simpa using e
            omega
        · have := hF k hk; omega
        · exact (e02.trans he).chg c5 (by omega)
end Go.Proofs
