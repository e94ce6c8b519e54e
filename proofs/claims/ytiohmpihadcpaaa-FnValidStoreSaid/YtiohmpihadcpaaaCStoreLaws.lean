/-
  What functions of this seat compute, part 'StoreLaws': contracts over their readable predicates. Conditions: each theorem's own hypotheses.
-/
import Derived.Test.YtiohmpihadcpaaaBase
import Derived.Test.YtiohmpihadcpaaaOpen
import Derived.Test.YtiohmpihadcpaaaGen
import Derived.Test.YtiohmpihadcpaaaCSmall
import Derived.Test.YtiohmpihadcpaaaCOrder
import Derived.Test.YtiohmpihadcpaaaCNode
import Derived.Test.YtiohmpihadcpaaaCNodeText
import Derived.Test.YtiohmpihadcpaaaCNodeValid
import Derived.Test.YtiohmpihadcpaaaCNodeSpec
import Derived.Test.YtiohmpihadcpaaaCHelpS
import Derived.Test.YtiohmpihadcpaaaCNodeHelp
import Derived.Test.YtiohmpihadcpaaaCNodeHelp2
import Derived.Test.YtiohmpihadcpaaaCNodeTop
import Derived.Test.YtiohmpihadcpaaaCCells
import Derived.Test.YtiohmpihadcpaaaCItem
import Derived.Test.YtiohmpihadcpaaaCItem2
namespace Go.Proofs
open Go Go.Vc Go.RowKit
set_option maxRecDepth 100000
set_option linter.unusedVariables false
--! C:Small C:Order C:Node C:NodeText C:NodeValid C:NodeSpec C:HelpS C:NodeHelp C:NodeHelp2 C:NodeTop C:Cells C:Item C:Item2
/-! ## Stores: valid or not, the newest document -/

def okIt (c : Int) (x : It) : Bool := vName x.1 && decide (1 ≤ x.2.1 ∧ x.2.1 ≤ c) && vNd x.2.2
def ascI : List It → Bool
  | a :: b :: r => sltB a.1 b.1 && ascI (b :: r)
  | _ => true
def vSt (xs : List It) (c : Int) : Bool := xs.all (okIt c) && ascI xs && decide (xs.length ≤ 10) && decide (0 ≤ c ∧ c ≤ 999)

theorem ascI_snoc : ∀ (pre : List It) (p c : It), ascI (pre ++ [p, c]) = (ascI (pre ++ [p]) && sltB p.1 c.1)
  | [], p, c => by simp [ascI]
  | [a], p, c => by simp [ascI]
  | a :: b :: r, p, c => by
    have := ascI_snoc (b :: r) p c
    simp only [List.cons_append, ascI] at this ⊢
    rw [this, Bool.and_assoc]

theorem ascI_mid : ∀ (pre : List It) (p c : It) (post : List It), ascI (pre ++ p :: c :: post) = true → sltB p.1 c.1 = true
  | [], p, c, post, h => by simp [ascI] at h; exact h.1
  | [a], p, c, post, h => by simp [ascI] at h; exact h.2.1
  | a :: b :: r, p, c, post, h => by
    simp only [List.cons_append, ascI, Bool.and_eq_true] at h
    exact ascI_mid (b :: r) p c post h.2

theorem snoc_casesI {α : Type} (l : List α) : l = [] ∨ ∃ r p, l = r ++ [p] := by
  rcases List.eq_nil_or_concat l with h | ⟨r, p, h⟩
  · exact .inl h
  · exact .inr ⟨r, p, by simpa using h⟩

theorem vSt_not_ok {xs pre post : List It} {k : Int} {c : It} (hx : xs = pre ++ c :: post) (h : okIt k c = false) : vSt xs k = false := by
  have : xs.all (okIt k) = false := by rw [hx]; simp [h]
  simp [vSt, this]

theorem vSt_not_asc {xs pre post : List It} {k : Int} {p c : It} (hx : xs = pre ++ p :: c :: post) (h : sltB p.1 c.1 = false) : vSt xs k = false := by
  have : ascI xs = false := by
    cases ha : ascI xs with
    | false => rfl
    | true => rw [hx] at ha; rw [ascI_mid _ _ _ _ ha] at h; cases h
  simp [vSt, this]

theorem c_spec_validStore {S : Nat → Prop} {w : World} {l : Sl} {xs : List It} {c : Int} (h : ItsAt S w l xs) :
    CallR Try.prog 21 [svE l c] w (fun v w' => v = .bool (vSt xs c) ∧ Ext w w') := by
  refine fn_spec_validStore _ _ _ _ ?_
  unfold g_spec_validStore
  have hl := h.len
  have hk := h.slen
  unfold maxLen at hl
  refine stBox fun w0 e0 r0 => ?_
  refine sLoop_list xs (fun pre _ w' => Ext w0 w' ∧ pre.all (okIt c) = true ∧ ascI pre = true) ⟨Ext.refl _, rfl, rfl⟩ ?_ ?_
  · rintro K pre post x t w1 hx ⟨he, ha, hasc⟩ hK _
    have hm := mid_len hx
    have e01 := e0.trans he
    obtain ⟨q0, q1⟩ := Row.st (r0.ext he)
    obtain ⟨d, a, hsa, hn, g0, g1, g2, g3, g4, g5, g6⟩ := (h.ext e01).at_ (mid_get hx)
    have hb0 : ((0 : Int) ≤ pre.length ∧ (pre.length : Int) < (l.len : Int)) := ⟨by omega, by omega⟩
    simp only [add_nought, exL q0]
    refine br_dt (by omega) (onSome_i hsa ⟨hb0, ?_⟩)
    simp only [exS g0, exI g1, exI g2, exI g3, exS g4, exL g5, exL g6]
    refine local7c fun w2 r2 e2 => fun w3 (e3 : Ext w2 w3) => ?_
    have r3 : Row w3 w1.heap.size (cIt (x.1, x.2.1, d)) 52 := Row.ext r2 e3
    obtain ⟨k0, k1, k2, k3, k4, k5, k6, n1, n2, n3, n4⟩ := Row.it r3
    simp only [exS k0]
    have e13 : Ext w1 w3 := e2.trans e3
    refine (c_spec_validName x.1 w3 (h.sz x (by rw [hx]; simp))).go fun w4 e4 => ⟨_, rfl, ?_⟩
    have e14 := e13.trans e4
    have e04 := e01.trans e14
    refine br_i (fun f1 => ⟨by rw [vSt_not_ok hx]; simp at f1; simp [okIt, f1], e04⟩) (fun f1 => ?_)
    simp only [exI (e4.get k2), exI (e4.get n1), exS (e4.get n2), exL (e4.get n3), exL (e4.get n4)]
    refine (c_spec_validNode (hn.ext e14)).go fun w5 e5 => ⟨_, rfl, ?_⟩
    have e15 := e14.trans e5
    have e05 := e01.trans e15
    refine br_i (fun f2 => ⟨by rw [vSt_not_ok hx]; simp at f2; simp [okIt, f2], e05⟩) (fun f2 => ?_)
    simp only [exI ((e4.trans e5).get k1), exI (e15.get q1)]
    refine (c_spec_inRange _ _ _ _).go fun w6 e6 => ⟨_, rfl, ?_⟩
    have e16 := e15.trans e6
    have e06 := e01.trans e16
    refine br_i (fun f3 => ⟨by rw [vSt_not_ok hx]; simp only [Bool.not_eq_true', decide_eq_false_iff_not] at f3; simp [okIt, f3], e06⟩) (fun f3 => ?_)
    have hok : okIt c x = true := by
      simp only [Bool.not_eq_false', decide_eq_true_eq] at f1 f2 f3
      simp [okIt, f1, f2, f3]
    have hall : (pre ++ [x]).all (okIt c) = true := by simp [ha, hok]
    rcases snoc_casesI pre with rfl | ⟨r, p, rfl⟩
    · exact br_df (by simp) ⟨inR_i64 (by simp) (by simp), hK _ _ ⟨he.trans e16, hall, rfl⟩⟩
    · have hx' : xs = r ++ p :: (x :: post) := by rw [hx]; simp
      obtain ⟨d', a', hsa', _, p0, _, _, _, _, _, _⟩ := (h.ext e06).at_ (mid_get hx')
      rw [hsa] at hsa'
      obtain rfl := Option.some.inj hsa'
      have hpl : ((r ++ [p]).length : Int) - 1 = (r.length : Int) := by simp
      have e46 := (e4.trans e5).trans e6
      simp only [exS (e46.get k0), exL (e16.get q0)]
      refine br_dt (by simp) ⟨inR_i64 (by omega) (by omega), onSome_i hsa ?_⟩
      rw [hpl]
      refine ⟨⟨by omega, by simp at hm; omega⟩, _, p0, ?_⟩
      rw [sle_not]
      refine br_i (fun f4 => ⟨by rw [vSt_not_asc hx' (by simpa using f4)], e06⟩) (fun f4 => ⟨inR_i64 (by omega) (by omega), hK _ _ ⟨he.trans e16, hall, ?_⟩⟩)
      have f5 : sltB p.1 x.1 = true := by simpa using f4
      rw [List.append_assoc]
      show ascI (r ++ [p, x]) = true
      rw [ascI_snoc, hasc, f5]; rfl
  · rintro K t w1 ⟨he, ha, hasc⟩ _
    obtain ⟨q0, q1⟩ := Row.st (r0.ext he)
    simp only [add_nought, exL q0, exI q1]
    have e01 := e0.trans he
    refine br_df (by omega) (br_d (fun f1 => ?_) (fun f1 => ⟨?_, e01⟩))
    · refine (c_spec_inRange _ _ _ _).go fun w2 e2 => ⟨_, rfl, ?_, e01.trans e2⟩
      have : xs.length ≤ 10 := by omega
      simp [vSt, ha, hasc, this]
    · have : ¬ xs.length ≤ 10 := by omega
      simp [vSt, this]

theorem c_spec_ValidStore {S : Nat → Prop} {w : World} {l : Sl} {xs : List It} {c : Int} (h : ItsAt S w l xs) :
    CallR Try.prog 8 [svE l c] w (fun v w' => v = .bool (vSt xs c) ∧ Ext w w') := by
  refine fn_spec_ValidStore _ _ _ _ ?_
  unfold g_spec_ValidStore
  refine stBox fun w1 e1 r1 => ?_
  obtain ⟨q0, q1⟩ := Row.st r1
  simp only [add_nought, exL q0, exI q1]
  exact (c_spec_validStore (h.ext e1)).go fun w2 e2 => ⟨_, rfl, rfl, e1.trans e2⟩

theorem c_impl_ValidStore {S : Nat → Prop} {w : World} {l : Sl} {xs : List It} {c : Int} (h : ItsAt S w l xs) :
    CallR Try.prog 10 [svE l c] w (fun v w' => v = .bool (vSt xs c) ∧ Ext w w') := by
  refine fn_impl_ValidStore _ _ _ _ ?_
  unfold g_impl_ValidStore
  have hk := h.slen
  refine stBox fun w0 e0 r0 => ?_
  obtain ⟨q0, q1⟩ := Row.st r0
  simp only [add_nought, exL q0, exI q1]
  refine br_d (fun h1 => ⟨?_, e0⟩) (fun h1 => br_d (fun h2 => ⟨?_, e0⟩) (fun h2 => br_d (fun h3 => ⟨?_, e0⟩) (fun h3 => ?_)))
  · have : ¬ xs.length ≤ 10 := by omega
    simp [vSt, this]
  · have : ¬ 0 ≤ c := by omega
    simp [vSt, this]
  · have : ¬ c ≤ 999 := by omega
    simp [vSt, this]
  refine sLoop_list xs (fun pre _ w' => Ext w0 w' ∧ pre.all (okIt c) = true ∧ ascI pre = true) ⟨Ext.refl _, rfl, rfl⟩ ?_ ?_
  · rintro K pre post x t w1 hx ⟨he, ha, hasc⟩ hK _
    have hm := mid_len hx
    have e01 := e0.trans he
    obtain ⟨q0, q1⟩ := Row.st (r0.ext he)
    obtain ⟨d, a, hsa, hn, g0, g1, g2, g3, g4, g5, g6⟩ := (h.ext e01).at_ (mid_get hx)
    have hb0 : ((0 : Int) ≤ pre.length ∧ (pre.length : Int) < (l.len : Int)) := ⟨by omega, by omega⟩
    refine br_dt (by omega) (onSome_i hsa ⟨hb0, ?_⟩)
    simp only [exS g0, exI g1, exI g2, exI g3, exS g4, exL g5, exL g6]
    refine local7c fun w2 r2 e2 => fun w3 (e3 : Ext w2 w3) => ?_
    have r3 : Row w3 w1.heap.size (cIt (x.1, x.2.1, d)) 52 := Row.ext r2 e3
    obtain ⟨k0, k1, k2, k3, k4, k5, k6, n1, n2, n3, n4⟩ := Row.it r3
    simp only [exS k0]
    have e13 : Ext w1 w3 := e2.trans e3
    refine (c_impl_isName x.1 w3).go fun w4 e4 => ⟨_, rfl, ?_⟩
    have e14 := e13.trans e4
    have e04 := e01.trans e14
    refine br_i (fun f1 => ⟨by rw [vSt_not_ok hx]; simp at f1; simp [okIt, f1], e04⟩) (fun f1 => ?_)
    have f1' : vName x.1 = true := by simpa using f1
    have bad : ¬ (1 ≤ x.2.1 ∧ x.2.1 ≤ c) → (Value.bool false = .bool (vSt xs c) ∧ Ext w w4) := fun hn => by
      refine ⟨?_, e04⟩
      rw [vSt_not_ok hx]
      simp [okIt, hn]
    have good : ascI (pre ++ [x]) = true → (1 ≤ x.2.1 ∧ x.2.1 ≤ c) → CallR Try.prog 24 [d.v] w4 (fun r w' => ∃ b : Bool, r = .bool b ∧ br (!b) (Value.bool false = Value.bool (vSt xs c) ∧ Ext w w') (InR .i64 ((pre.length : Int) + 1) ∧ K ((pre.length : Int) + 1, ()) w')) := fun hasc' hv => by
      refine (c_impl_ValidNode (hn.ext e14)).go fun w5 e5 => ⟨_, rfl, br_i (fun f2 => ⟨?_, e04.trans e5⟩) (fun f2 => ⟨inR_i64 (by omega) (by omega), hK _ _ ⟨(he.trans e14).trans e5, ?_, hasc'⟩⟩)⟩
      · rw [vSt_not_ok hx]; simp at f2; simp [okIt, f2]
      · simp at f2; simp [ha, okIt, f1', f2, hv]
    rcases snoc_casesI pre with rfl | ⟨r, p, rfl⟩
    · refine br_df (by simp) ?_
      simp only [exI (e4.get k1), exI (e14.get q1), exI (e4.get k2), exI (e4.get n1), exS (e4.get n2), exL (e4.get n3), exL (e4.get n4)]
      exact br_d (fun f3 => bad (by omega)) (fun f3 => br_d (fun f4 => bad (by omega)) (fun f4 => good rfl (by omega)))
    · have hx' : xs = r ++ p :: (x :: post) := by rw [hx]; simp
      have hpl : ((r ++ [p]).length : Int) - 1 = (r.length : Int) := by simp
      obtain ⟨d', a', hsa', _, p0, _, _, _, _, _, _⟩ := (h.ext e04).at_ (mid_get hx')
      rw [hsa] at hsa'
      obtain rfl := Option.some.inj hsa'
      simp only [exL (e14.get q0), exI (e4.get k1), exI (e14.get q1), exI (e4.get k2), exI (e4.get n1), exS (e4.get k0), exS (e4.get n2), exL (e4.get n3), exL (e4.get n4)]
      refine br_dt (by simp) ⟨inR_i64 (by omega) (by omega), onSome_i hsa ?_⟩
      rw [hpl]
      refine ⟨⟨by omega, by simp at hm; omega⟩, _, p0, ?_⟩
      refine br_i (fun f5 => ⟨by rw [vSt_not_asc hx' (by simpa using f5)], e04⟩) (fun f5 => ?_)
      have f6 : sltB p.1 x.1 = true := by simpa using f5
      have hasc' : ascI ((r ++ [p]) ++ [x]) = true := by
        rw [List.append_assoc]
        show ascI (r ++ [p, x]) = true
        rw [ascI_snoc, hasc, f6]; rfl
      exact br_d (fun f3 => bad (by omega)) (fun f3 => br_d (fun f4 => bad (by omega)) (fun f4 => good hasc' (by omega)))
  · rintro K t w1 ⟨he, ha, hasc⟩ _
    refine br_df (by omega) ⟨?_, e0.trans he⟩
    have h4 : xs.length ≤ 10 := by omega
    have h5 : 0 ≤ c := by omega
    have h6 : c ≤ 999 := by omega
    simp [vSt, ha, hasc, h4, h5, h6]

theorem c_laws_FnExactValidStore {w : World} {l : Sl} {c : Int} {xs : List It} (h : ItsAt (fun _ => True) w l xs) (_ : l.cap ≤ maxLen) :
    CallR Try.prog 3 [svE l c] w (fun v w' => v = .bool true ∧ Ext w w') := by
  refine fn_laws_FnExactValidStore _ _ _ _ ?_
  unfold g_laws_FnExactValidStore
  refine stBox fun w1 e1 r1 => ?_
  obtain ⟨k0, k1⟩ := Row.st r1
  simp only [add_nought, exL k0, exI k1]
  refine (c_laws_szStore _ (h.ext e1) (by omega) (by omega)).mono ?_
  rintro _ w2 ⟨hv, e2⟩
  rcases hv with rfl | ⟨rfl, hpos⟩
  · exact ⟨_, rfl, br_dt (by omega) ⟨by simp, e1.trans e2⟩⟩
  have hz : xs.length + mzIs xs ≤ 1048576 := by omega
  refine ⟨_, rfl, br_df (by omega) ?_⟩
  simp only [exL (e2.get k0), exI (e2.get k1)]
  have e02 := e1.trans e2
  refine c_laws_toStore (h.ext e02) hz fun t3 w3 h3 e3 => ⟨t3, c, rfl, ?_⟩
  have e03 := e02.trans e3
  refine (c_spec_ValidStore h3).go fun w4 e4 => ⟨_, rfl, ?_⟩
  have e04 := e03.trans e4
  have e14 := (e2.trans e3).trans e4
  simp only [exL (e14.get k0), exI (e14.get k1)]
  refine c_laws_toStore (h.ext e04) hz fun t5 w5 h5 e5 => ⟨t5, c, rfl, ?_⟩
  have e05 := e04.trans e5
  refine stLocal fun w6 r6 e6 => ?_
  obtain ⟨m0, m1⟩ := Row.st r6
  simp only [exL m0, exI m1]
  have e06 := e05.trans e6
  refine (c_impl_ValidStore (h5.ext e6)).go fun w7 e7 => ⟨_, rfl, br_f (by simp) ?_⟩
  have e07 := e06.trans e7
  refine ⟨fun w' => Ext w7 w', fun w' he => he, fun w8 (e8 : Ext w7 w8) => ⟨e8, ?_⟩⟩
  have e78 := e7.trans e8
  refine ⟨t5, fun w' (he : Ext w7 w') => (e7.trans he).get m0, c, fun w' (he : Ext w7 w') => (e7.trans he).get m1, ?_⟩
  have e48 := (e5.trans e6).trans e78
  have e18 := e14.trans e48
  simp only [exL (e18.get k0), exI (e18.get k1)]
  refine ⟨e8, ?_⟩
  have e08 := e04.trans e48
  refine c_laws_toStore (h.ext e08) hz fun t9 w9 h9 e9 => ⟨t9, c, rfl, e8.trans e9, ?_⟩
  exact (c_laws_eqStore (((h5.ext e6).ext e78).ext e9) h9).go fun w10 e10 => ⟨_, rfl, br_f (by simp) ⟨by simp, (e08.trans e9).trans e10⟩⟩
end Go.Proofs
