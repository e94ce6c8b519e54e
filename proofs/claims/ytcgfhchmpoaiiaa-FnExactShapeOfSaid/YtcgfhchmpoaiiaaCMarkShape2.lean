/-
  What functions of this seat compute, part 'MarkShape2': contracts over their readable predicates. Conditions: each theorem's own hypotheses.
-/
import Derived.Test.YtcgfhchmpoaiiaaBase
import Derived.Test.YtcgfhchmpoaiiaaOpen
import Derived.Test.YtcgfhchmpoaiiaaGen
import Derived.Test.YtcgfhchmpoaiiaaCSmall
import Derived.Test.YtcgfhchmpoaiiaaCOrder
import Derived.Test.YtcgfhchmpoaiiaaCNode
import Derived.Test.YtcgfhchmpoaiiaaCNodeText
import Derived.Test.YtcgfhchmpoaiiaaCNodeValid
import Derived.Test.YtcgfhchmpoaiiaaCNodeSpec
import Derived.Test.YtcgfhchmpoaiiaaCHelpS
import Derived.Test.YtcgfhchmpoaiiaaCNodeHelp
import Derived.Test.YtcgfhchmpoaiiaaCNodeHelp2
import Derived.Test.YtcgfhchmpoaiiaaCNodeTop
import Derived.Test.YtcgfhchmpoaiiaaCMark
import Derived.Test.YtcgfhchmpoaiiaaCStrMark
import Derived.Test.YtcgfhchmpoaiiaaCCells
import Derived.Test.YtcgfhchmpoaiiaaCShape
import Derived.Test.YtcgfhchmpoaiiaaCShape2
import Derived.Test.YtcgfhchmpoaiiaaCShapeOf
import Derived.Test.YtcgfhchmpoaiiaaCMarkShape
namespace Go.Proofs
open Go Go.Vc Go.RowKit
set_option maxRecDepth 100000
set_option linter.unusedVariables false
--! C:Small C:Order C:Node C:NodeText C:NodeValid C:NodeSpec C:HelpS C:NodeHelp C:NodeHelp2 C:NodeTop C:Mark C:StrMark C:Cells C:Shape C:Shape2 C:ShapeOf C:MarkShape
/-! ## Marks in shapes are held -/

/-- A slice of shapes, read. -/
def KS (S : Nat → Prop) (w : World) (l : Sl) (ys : List Sh) : Prop := ∃ cs, ShSl w l cs ∧ cs.length = ys.length ∧ ∀ (i : Nat) d y, cs[i]? = some d → ys[i]? = some y → ShAt S w d y

theorem KS.ext {S : Nat → Prop} {w w' : World} {l : Sl} {ys : List Sh} (h : KS S w l ys) (e : Ext w w') : KS S w' l ys := by
  obtain ⟨cs, h1, h2, h3⟩ := h
  exact ⟨cs, h1.ext e, h2, fun i d y hd hy => (h3 i d y hd hy).ext e⟩
theorem KS.at_ {S : Nat → Prop} {w : World} {l : Sl} {ys : List Sh} (h : KS S w l ys) {i : Nat} {y : Sh} (hy : ys[i]? = some y) : ∃ (d : ShC) (a : Addr), l.a = some a ∧ ShAt S w d y ∧
    w.cell? (a.add ((i : Int).toNat * 4)) = some (.int .i64 d.k) ∧ w.cell? ((a.add ((i : Int).toNat * 4)).add 1) = some (.slice d.sn.a d.sn.len d.sn.cap) ∧
    w.cell? ((a.add ((i : Int).toNat * 4)).add 2) = some (.slice d.sb.a d.sb.len d.sb.cap) ∧ w.cell? ((a.add ((i : Int).toNat * 4)).add 3) = some (.slice d.sk.a d.sk.len d.sk.cap) := by
  obtain ⟨cs, h1, h2, h3⟩ := h
  have hi := (List.getElem?_eq_some_iff.1 hy).1
  obtain ⟨d, hd⟩ : ∃ d, cs[i]? = some d := ⟨cs[i]'(by omega), List.getElem?_eq_getElem (by omega)⟩
  obtain ⟨a, ha, cells⟩ := sh_at h1 hd
  exact ⟨d, a, ha, h3 i d y hd hy, cells⟩
theorem ShAt.ks {S : Nat → Prop} {w : World} {c : ShC} {y : Sh} (h : ShAt S w c y) : KS S w c.sk y.ks := by
  obtain ⟨_, _, _, _, _, _, _, cs, h1, h2, h3⟩ := h.out
  exact ⟨cs, h1, h2, h3⟩

theorem mkL_mid {ks pre post : List Sh} {x : Sh} {k : Int} (h : ks = pre ++ x :: post) : (mkL k ks)[pre.length]? = some (setK (k + cmL pre) (mkS (k + cmL pre + 1) x)) := by
  rw [h, mkL_append]
  simp only [mkL]
  rw [List.getElem?_append_right (by rw [mkL_len]; exact Nat.le_refl _), mkL_len, Nat.sub_self]
  rfl
theorem setK_out (k kk : Int) (x : Sh) : (setK kk (mkS k x)).k = kk ∧ (setK kk (mkS k x)).ns = markS k x.ns.length ∧ (setK kk (mkS k x)).bs = markB (k + x.ns.length) x.bs.length ∧ (setK kk (mkS k x)).ks = mkL (k + x.ns.length + x.bs.length) x.ks := by
  cases x; simp [setK, mkS, Sh.k, Sh.ns, Sh.bs, Sh.ks]

theorem c_laws_heldShapeS {S : Nat → Prop} : ∀ (N : Nat) (w : World) (l : Sl) (ks : List Sh) (k : Int), cnSL ks ≤ N → KS S w l (mkL k ks) → 0 ≤ k → k + cmL ks ≤ 800000000 → cmL ks ≤ 10000000 → (∀ x ∈ ks, cm x ≤ 1000000) →
    CallR Try.prog 56 [.slice l.a l.len l.cap, .int .i64 k] w (fun v w' => v = .int .i64 (k + cmL ks) ∧ Ext w w') := by
  intro N
  induction N with
  | zero =>
    intro w l ks k hN h h1 h2 h3 h4
    have hnil : ks = [] := by
      cases ks with
      | nil => rfl
      | cons x r => simp only [cnSL] at hN; have := cnS_pos x; omega
    subst hnil
    obtain ⟨cs, q1, q2, _⟩ := h
    have hll : l.len = 0 := by rw [q1.len, q2]; simp [mkL]
    refine fn_laws_heldShapeS _ _ _ _ ?_
    unfold g_laws_heldShapeS
    refine sLoop_list ([] : List Sh) (fun pre t w' => t.1 = k ∧ Ext w w') ⟨rfl, Ext.refl _⟩ ?_ ?_
    · rintro K pre post x t w1 hx
      simp at hx
    · rintro K ⟨t, u⟩ w1 ⟨ht, he⟩ _
      simp only at ht
      subst ht
      exact br_df (by simp [hll]) ⟨by simp [cmL], he⟩
  | succ N ih =>
    intro w l ks k hN h h1 h2 h3 h4
    refine fn_laws_heldShapeS _ _ _ _ ?_
    unfold g_laws_heldShapeS
    simp only [add_nought]
    have hll : l.len = ks.length := by
      obtain ⟨cs, q1, q2, _⟩ := h
      rw [q1.len, q2, mkL_len]
    have hkl : ks.length ≤ cmL ks := by
      clear ih hN h h1 h2 h3 h4 hll
      induction ks with
      | nil => simp
      | cons x r ihr => simp only [cmL, List.length_cons]; omega
    refine sLoop_list ks (fun pre t w' => t.1 = k + cmL pre ∧ Ext w w') ⟨by simp [cmL], Ext.refl _⟩ ?_ ?_
    · rintro K pre post x ⟨t, u⟩ w1 hx ⟨ht, he⟩ hK _
      simp only at ht
      subst ht
      dsimp only
      have hm := mid_len hx
      have hcm : cmL pre + (1 + cm x + cmL post) = cmL ks := by rw [hx, cmL_append]; simp only [cmL]
      have hcx := h4 x (by rw [hx]; simp)
      have hcx' := cm_eq x
      obtain ⟨d, a, ha, hd, g0, g1, g2, g3⟩ := (h.ext he).at_ (mkL_mid hx)
      obtain ⟨s1, s2, s3, s4⟩ := setK_out (k + cmL pre + 1) (k + cmL pre) x
      obtain ⟨dk, dn, db, _⟩ := hd.out
      have dks := hd.ks
      rw [s1] at dk
      rw [s2] at dn
      rw [s3] at db
      rw [s4] at dks
      refine br_dt (by omega) (onSome_i ha ⟨⟨by omega, by omega⟩, _, g0, br_f (by rw [dk]; simp) ⟨inR_i64 (by omega) (by omega), onSome_i ha ⟨⟨by omega, by omega⟩, ?_⟩⟩⟩)
      rw [exL g1]
      refine (c_laws_heldStringS (n := x.ns.length) _ dn (by omega) (by omega) (by omega)).go fun w2 e2 => ⟨_, rfl, br_df (by omega) (onSome_i ha ⟨⟨by omega, by omega⟩, ?_⟩)⟩
      rw [exL (e2.get g2)]
      refine (c_laws_heldBoolS (n := x.bs.length) _ (db.ext e2) (by omega) (by omega) (by omega)).go fun w3 e3 => ⟨_, rfl, br_df (by omega) (onSome_i ha ⟨⟨by omega, by omega⟩, ?_⟩)⟩
      have e13 := e2.trans e3
      rw [exL (e13.get g3)]
      have hcn : cnSL x.ks < cnSL ks := by
        rw [hx, cnSL_append]; simp only [cnSL]; have := cnS_eq x; omega
      refine (ih w3 d.sk x.ks _ (by omega) (dks.ext e13) (by omega) (by omega) (by omega) (fun y hy => ?_)).go fun w4 e4 => ⟨_, rfl, br_df (by omega) ⟨inR_i64 (by omega) (by omega), hK _ _ ⟨?_, (he.trans e13).trans e4⟩⟩⟩
      · obtain ⟨p, q, hpq⟩ := List.append_of_mem hy
        have := cm_kid hpq
        omega
      · rw [cmL_append]; simp only [cmL]; omega
    · rintro K ⟨t, u⟩ w1 ⟨ht, he⟩ _
      simp only at ht
      subst ht
      exact br_df (by first | omega | (simp only; omega)) ⟨rfl, he⟩

theorem c_laws_heldShape {S : Nat → Prop} {w : World} {c : ShC} {x : Sh} (k : Int) (h : ShAt S w c (mkS k x)) (h1 : 0 ≤ k) (h2 : k ≤ 700000000) (h3 : cm x ≤ 1000000) :
    CallR Try.prog 24 [c.v, .int .i64 k] w (fun v w' => v = .int .i64 (k + cm x) ∧ Ext w w') := by
  refine fn_laws_heldShape _ _ _ _ _ _ _ ?_
  unfold g_laws_heldShape
  have hcx := cm_eq x
  have em := mkS_eq k x
  obtain ⟨_, hn, hb, _⟩ := h.out
  have hks := h.ks
  have ens : (mkS k x).ns = markS k x.ns.length := by rw [em]; rfl
  have ebs : (mkS k x).bs = markB (k + x.ns.length) x.bs.length := by rw [em]; rfl
  have eks : (mkS k x).ks = mkL (k + x.ns.length + x.bs.length) x.ks := by rw [em]; rfl
  rw [ens] at hn
  rw [ebs] at hb
  rw [eks] at hks
  refine shBox fun w1 e1 r1 => ?_
  obtain ⟨k0, k1, k2, k3⟩ := Row.sh r1
  simp only [exL k1]
  refine (c_laws_heldStringS (n := x.ns.length) _ (hn.ext e1) (by omega) (by omega) (by omega)).go fun w2 e2 => ⟨_, rfl, br_df (by omega) ?_⟩
  simp only [exL (e2.get k2)]
  refine (c_laws_heldBoolS (n := x.bs.length) _ ((hb.ext e1).ext e2) (by omega) (by omega) (by omega)).go fun w3 e3 => ⟨_, rfl, br_df (by omega) ?_⟩
  have e13 := e2.trans e3
  simp only [exL (e13.get k3)]
  refine (c_laws_heldShapeS _ w3 c.sk x.ks _ (Nat.le_refl _) ((hks.ext e1).ext e13) (by omega) (by omega) (by omega) (fun y hy => ?_)).go fun w4 e4 => ⟨_, rfl, br_df (by omega) ⟨?_, (e1.trans e13).trans e4⟩⟩
  · obtain ⟨p, q, hpq⟩ := List.append_of_mem hy
    have := cm_kid hpq
    omega
  · congr 1; omega
end Go.Proofs
