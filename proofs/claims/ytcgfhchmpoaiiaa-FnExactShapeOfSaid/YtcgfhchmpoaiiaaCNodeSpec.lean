/-
  What functions of this seat compute, part 'NodeSpec': contracts over their readable predicates. Conditions: each theorem's own hypotheses.
-/
import Derived.Test.YtcgfhchmpoaiiaaBase
import Derived.Test.YtcgfhchmpoaiiaaOpen
import Derived.Test.YtcgfhchmpoaiiaaGen
import Derived.Test.YtcgfhchmpoaiiaaCSmall
import Derived.Test.YtcgfhchmpoaiiaaCOrder
import Derived.Test.YtcgfhchmpoaiiaaCNode
import Derived.Test.YtcgfhchmpoaiiaaCNodeText
import Derived.Test.YtcgfhchmpoaiiaaCNodeValid
namespace Go.Proofs
open Go Go.Vc Go.RowKit
set_option maxRecDepth 100000
set_option linter.unusedVariables false
--! C:Small C:Order C:Node C:NodeText C:NodeValid
/-! ## Nodes: what the definitions count -/

theorem cnt_le_of {n x : Nd} {pre post : List Nd} (h : n.ks = pre ++ x :: post) : cntL pre + cnt x < cnt n := by
  rw [cnt_eq n, h, cntL_append]; simp only [cntL]; omega

theorem c_spec_kids_of {S : Nat → Prop} {d : Nat} (hd : d ≤ 5) (ih : ∀ (w : World) (c : NdC) (n : Nd), NdAt S w c n → CallR Try.prog 67 [c.v, .int .i64 (d : Int)] w (fun v w' => v = .bool (shp d n) ∧ Ext w w'))
    {w : World} {c : NdC} {n : Nd} (h : NdAt S w c n) : CallR Try.prog 79 [c.v, .int .i64 ((d + 1 : Nat) : Int)] w (fun v w' => v = .bool (n.ks.all (shp d)) ∧ Ext w w') := by
  refine fn_spec_kids _ _ _ _ _ _ _ _ ?_
  unfold g_spec_kids
  refine ndStart fun w1 e1 r1 => ?_
  obtain ⟨k0, k1, k2, k3, k4⟩ := Row.nd r1
  have hk := h.klen
  have hm := h.out.2.2.2.2.2.2.1
  unfold maxLen at hm
  refine sLoop_list n.ks (fun pre _ w' => Ext w1 w' ∧ pre.all (shp d) = true) ⟨Ext.refl _, rfl⟩ ?_ ?_
  · intro K pre post x t w3 hx ⟨he, ha⟩ hK _
    have hl := mid_len hx
    rw [exL (he.get k4)]
    refine br_dt (by simp only; omega) ?_
    rw [exL (he.get k4)]
    obtain ⟨_, dd, a, hsa, hd', g0, g1, g2, g3, g4⟩ := (h.ext (e1.trans he)).kid (i := pre.length) (mid_get hx)
    rw [hsa]
    refine ⟨⟨by simp only; omega, by simp only; omega⟩, ?_⟩
    simp only [exI g0, exI g1, exS g2, exL g3, exL g4]
    have hlev : ((d + 1 : Nat) : Int) - 1 = d := by omega
    rw [hlev]
    refine ⟨inR_i64 (by omega) (by omega), (ih w3 dd x hd').go fun w4 e4 => ⟨_, rfl, br_i (fun g => ⟨?_, (e1.trans he).trans e4⟩) (fun g => ⟨inR_i64 (by omega) (by omega), hK _ _ ⟨he.trans e4, ?_⟩⟩)⟩⟩
    · have : shp d x = false := nott g
      rw [hx]; simp [this]
    · have : shp d x = true := notf g
      simp [ha, this]
  · intro K t w3 ⟨he, ha⟩ _
    rw [exL (he.get k4)]
    exact br_df (by simp only; omega) ⟨by rw [ha], e1.trans he⟩

set_option maxHeartbeats 8000000 in
theorem c_spec_shape {S : Nat → Prop} : ∀ (d : Nat) (w : World) (c : NdC) (n : Nd), d ≤ 5 → NdAt S w c n →
    CallR Try.prog 67 [c.v, .int .i64 (d : Int)] w (fun v w' => v = .bool (shp d n) ∧ Ext w w') := by
  intro d
  induction d with
  | zero =>
    intro w c n _ h
    refine fn_spec_shape _ _ _ _ _ _ _ _ ?_
    unfold g_spec_shape
    refine ndStart fun w1 e1 r1 => ?_
    exact ⟨rfl, e1⟩
  | succ d ih =>
    intro w c n hd h
    refine fn_spec_shape _ _ _ _ _ _ _ _ ?_
    unfold g_spec_shape
    refine ndStart fun w1 e1 r1 => ?_
    obtain ⟨k0, k1, k2, k3, k4⟩ := Row.nd r1
    obtain ⟨hk', hm, ht, hn, hts, hnl, hkl, hns, _⟩ := h.out
    obtain ⟨hl1, hl2, _, _⟩ := h.klen
    have hp : parts n = partsC c.k c.m c.t n.ns c.sk.len := by rw [parts, hk', hm, ht, hl1]
    have hsp : shp (d + 1) n = (partsC c.k c.m c.t n.ns c.sk.len && n.ks.all (shp d)) := by rw [shp, hp]
    have hz : (((d + 1 : Nat) : Int) == 0) = false := by rw [beqI]; exact decide_eq_false (by omega)
    rw [hz, brF, exL k4]
    refine br_d (fun g6 => ⟨?_, e1⟩) (fun g6 => ?_)
    · cases hh : shp (d + 1) n with
      | false => rfl
      | true =>
        have : parts n = true := by rw [hp]; rw [hsp, Bool.and_eq_true] at hh; exact hh.1
        have := parts_len this
        omega
    have kids := fun (w2 : World) (e2 : Ext w w2) => c_spec_kids_of (by omega) (fun w c n h => ih w c n (by omega) h) (h.ext e2)
    have hnil : c.sk.len = 0 → n.ks = [] := fun e => List.eq_nil_of_length_eq_zero (by omega)
    have hkn : ((c.sk.len : Int) > 0) → ¬ c.sk.len = 0 := fun e => by omega
    have hnn : ¬ ((c.sn.len : Int) > 0) → n.ns = [] := fun e => List.eq_nil_of_length_eq_zero (by omega)
    have hnn' : ((c.sn.len : Int) > 0) → n.ns ≠ [] := fun e h0 => by
      have := congrArg List.length h0
      simp only [List.length_nil] at this
      omega
    rcases (by omega : c.k = 0 ∨ c.k = 1 ∨ c.k = 2 ∨ c.k = 3 ∨ c.k = 4 ∨ (c.k < 0 ∨ c.k > 4)) with hc | hc | hc | hc | hc | hc
    · have d0 : decide (c.k = 0) = true := decide_eq_true (by omega)
      have d1 : decide (c.k = 1) = false := decide_eq_false (by omega)
      have d2 : decide (c.k = 2) = false := decide_eq_false (by omega)
      have d3 : decide (c.k = 3) = false := decide_eq_false (by omega)
      have d4 : decide (c.k = 4) = false := decide_eq_false (by omega)
      have dl : decide (c.k < 3) = true := decide_eq_true (by omega)
      simp only [exI k0, exI k1, exS k2, exL k3, exL k4, bne, beqI, seqB_nil, d0, d1, d2, d3, d4, dl, Bool.not_true, Bool.not_false, brT, brF]
      refine br_i (fun g => ⟨by rw [hsp, partsC]; simp [hc, of_decide_eq_false (nott g)], e1⟩) (fun g => ?_)
      have gm := of_decide_eq_true (notf g)
      refine br_i (fun g => ⟨by rw [hsp, partsC]; simp [hc, of_decide_eq_false (nott g)], e1⟩) (fun g => ?_)
      have gt := of_decide_eq_true (notf g)
      refine br_d (fun g => ⟨by rw [hsp, partsC]; simp [hc, hnn' g], e1⟩) (fun gn => ?_)
      have gn0 := hnn gn
      refine br_d (fun g => ⟨by rw [hsp, partsC]; simp [hc, hkn g], e1⟩) (fun gk => ?_)
      have gk0 : c.sk.len = 0 := by omega
      have gk1 := hnil gk0
      exact ⟨by rw [hsp, partsC]; simp [hc, gm, gt, gn0, gk0, gk1], e1⟩
    · have d0 : decide (c.k = 0) = false := decide_eq_false (by omega)
      have d1 : decide (c.k = 1) = true := decide_eq_true (by omega)
      have d2 : decide (c.k = 2) = false := decide_eq_false (by omega)
      have d3 : decide (c.k = 3) = false := decide_eq_false (by omega)
      have d4 : decide (c.k = 4) = false := decide_eq_false (by omega)
      have dl : decide (c.k < 3) = true := decide_eq_true (by omega)
      simp only [exI k0, exI k1, exS k2, exL k3, exL k4, bne, beqI, seqB_nil, d0, d1, d2, d3, d4, dl, Bool.not_true, Bool.not_false, brT, brF]
      refine br_i (fun g => ⟨by rw [hsp, partsC]; simp [hc, of_decide_eq_false (nott g)], e1⟩) (fun g => ?_)
      have gt := of_decide_eq_true (notf g)
      refine br_d (fun g => ⟨by rw [hsp, partsC]; simp [hc, hnn' g], e1⟩) (fun gn => ?_)
      have gn0 := hnn gn
      refine br_d (fun g => ⟨by rw [hsp, partsC]; simp [hc, hkn g], e1⟩) (fun gk => ?_)
      have gk0 : c.sk.len = 0 := by omega
      have gk1 := hnil gk0
      exact (c_spec_inRange _ _ _ _).go fun w2 e2 => ⟨_, rfl, by rw [hsp, partsC]; simp [hc, gt, gn0, gk0, gk1], e1.trans e2⟩
    · have d0 : decide (c.k = 0) = false := decide_eq_false (by omega)
      have d1 : decide (c.k = 1) = false := decide_eq_false (by omega)
      have d2 : decide (c.k = 2) = true := decide_eq_true (by omega)
      have d3 : decide (c.k = 3) = false := decide_eq_false (by omega)
      have d4 : decide (c.k = 4) = false := decide_eq_false (by omega)
      have dl : decide (c.k < 3) = true := decide_eq_true (by omega)
      simp only [exI k0, exI k1, exS k2, exL k3, exL k4, bne, beqI, seqB_nil, d0, d1, d2, d3, d4, dl, Bool.not_true, Bool.not_false, brT, brF]
      refine br_i (fun g => ⟨by rw [hsp, partsC]; simp [hc, of_decide_eq_false (nott g)], e1⟩) (fun g => ?_)
      have gm := of_decide_eq_true (notf g)
      refine br_d (fun g => ⟨by rw [hsp, partsC]; simp [hc, hnn' g], e1⟩) (fun gn => ?_)
      have gn0 := hnn gn
      refine br_d (fun g => ⟨by rw [hsp, partsC]; simp [hc, hkn g], e1⟩) (fun gk => ?_)
      have gk0 : c.sk.len = 0 := by omega
      have gk1 := hnil gk0
      exact (c_spec_validText _ _ hts).go fun w2 e2 => ⟨_, rfl, by rw [hsp, partsC]; simp [hc, gm, gn0, gk0, gk1], e1.trans e2⟩
    · have d0 : decide (c.k = 0) = false := decide_eq_false (by omega)
      have d1 : decide (c.k = 1) = false := decide_eq_false (by omega)
      have d2 : decide (c.k = 2) = false := decide_eq_false (by omega)
      have d3 : decide (c.k = 3) = true := decide_eq_true (by omega)
      have d4 : decide (c.k = 4) = false := decide_eq_false (by omega)
      have dl : decide (c.k < 3) = false := decide_eq_false (by omega)
      simp only [exI k0, exI k1, exS k2, exL k3, exL k4, bne, beqI, seqB_nil, d0, d1, d2, d3, d4, dl, Bool.not_true, Bool.not_false, brT, brF]
      refine br_i (fun g => ⟨by rw [hsp, partsC]; simp [hc, of_decide_eq_false (nott g)], e1⟩) (fun g => ?_)
      have gm := of_decide_eq_true (notf g)
      refine br_i (fun g => ⟨by rw [hsp, partsC]; simp [hc, of_decide_eq_false (nott g)], e1⟩) (fun g => ?_)
      have gt := of_decide_eq_true (notf g)
      refine br_d (fun g => ⟨by rw [hsp, partsC]; simp [hc, hnn' g], e1⟩) (fun gn => ?_)
      have gn0 := hnn gn
      refine (kids w1 e1).go fun w2 e2 => ⟨_, rfl, ?_, e1.trans e2⟩
      have h6 : c.sk.len ≤ 6 := by omega
      rw [hsp, partsC]; simp [hc, gm, gt, gn0, h6]
    · have d0 : decide (c.k = 0) = false := decide_eq_false (by omega)
      have d1 : decide (c.k = 1) = false := decide_eq_false (by omega)
      have d2 : decide (c.k = 2) = false := decide_eq_false (by omega)
      have d3 : decide (c.k = 3) = false := decide_eq_false (by omega)
      have d4 : decide (c.k = 4) = true := decide_eq_true (by omega)
      have dl : decide (c.k < 3) = false := decide_eq_false (by omega)
      simp only [exI k0, exI k1, exS k2, exL k3, exL k4, bne, beqI, seqB_nil, d0, d1, d2, d3, d4, dl, Bool.not_true, Bool.not_false, brT, brF]
      refine br_i (fun g => ⟨by rw [hsp, partsC]; simp [hc, of_decide_eq_false (nott g)], e1⟩) (fun g => ?_)
      have gm := of_decide_eq_true (notf g)
      refine br_i (fun g => ⟨by rw [hsp, partsC]; simp [hc, of_decide_eq_false (nott g)], e1⟩) (fun g => ?_)
      have gt := of_decide_eq_true (notf g)
      have h6 : c.sk.len ≤ 6 := by omega
      refine br_d (fun ge => ?_) (fun ge => ⟨?_, e1⟩)
      · refine (c_spec_names (hn.ext e1) hnl hns).go fun w2 e2 => ⟨_, rfl, br_i (fun gk => ?_) (fun gk => ⟨?_, e1.trans e2⟩)⟩
        · simp only [exI (e2.get k0), exI (e2.get k1), exS (e2.get k2), exL (e2.get k3), exL (e2.get k4)]
          refine (kids w2 (e1.trans e2)).go fun w3 e3 => ⟨_, rfl, ?_, (e1.trans e2).trans e3⟩
          have h7 : n.ns.length ≤ 6 := by omega
          have h8 : c.sk.len = n.ns.length := by omega
          rw [hsp, partsC, gk]; simp [hc, gm, gt, h7, h8]
        · rw [hsp, partsC, gk]; simp [hc]
      · have h8 : ¬ c.sk.len = n.ns.length := by omega
        rw [hsp, partsC]; simp [hc, h8]
    · have d0 : ¬ c.k = 0 := by omega
      have d1 : ¬ c.k = 1 := by omega
      have d2 : ¬ c.k = 2 := by omega
      have d3 : ¬ c.k = 3 := by omega
      have d4 : ¬ c.k = 4 := by omega
      have hf : shp (d + 1) n = false := by rw [hsp, partsC]; simp [d0, d1, d2, d3, d4]
      have b0 := decide_eq_false d0
      have b1 := decide_eq_false d1
      have b2 := decide_eq_false d2
      have b3 := decide_eq_false d3
      have b4 := decide_eq_false d4
      simp only [exI k0, exI k1, exS k2, exL k3, exL k4, bne, beqI, seqB_nil, b0, b1, b2, b3, b4, Bool.not_true, Bool.not_false, brT, brF]
      have ok : Value.bool false = .bool (shp (d + 1) n) ∧ Ext w w1 := ⟨by rw [hf], e1⟩
      exact br_i (fun _ => ok) fun _ => br_i (fun _ => ok) fun _ => br_i (fun _ => ok) fun _ => br_i (fun _ => br_i (fun _ => ok) fun _ => ok) fun _ => ok

theorem c_spec_count {S : Nat → Prop} : ∀ (N : Nat) (w : World) (c : NdC) (n : Nd), cnt n ≤ N → cnt n ≤ 1000000000 → NdAt S w c n → CallR Try.prog 68 [c.v] w (fun v w' => v = .int .i64 (cnt n) ∧ Ext w w') := by
  intro N
  induction N with
  | zero => intro w c n h; have := cnt_pos n; omega
  | succ N ih =>
    intro w c n hN hB h
    refine fn_spec_count _ _ _ _ _ _ _ ?_
    unfold g_spec_count
    refine ndStart fun w1 e1 r1 => ?_
    obtain ⟨k0, k1, k2, k3, k4⟩ := Row.nd r1
    have hk := h.klen
    have hm := h.out.2.2.2.2.2.2.1
    unfold maxLen at hm
    refine sLoop_list n.ks (fun pre t w' => Ext w1 w' ∧ t = ((1 + cntL pre : Int), ())) ⟨Ext.refl _, rfl⟩ ?_ ?_
    · intro K pre post x t w3 hx ⟨he, ht⟩ hK _
      subst ht
      have hl := mid_len hx
      rw [exL (he.get k4)]
      refine br_dt (by simp only; omega) ?_
      rw [exL (he.get k4)]
      obtain ⟨_, dd, a, hsa, hd', g0, g1, g2, g3, g4⟩ := (h.ext (e1.trans he)).kid (i := pre.length) (mid_get hx)
      rw [hsa]
      refine ⟨⟨by simp only; omega, by simp only; omega⟩, ?_⟩
      simp only [exI g0, exI g1, exS g2, exL g3, exL g4]
      have hc1 := cnt_le_of hx
      refine (ih w3 dd x (by omega) (by omega) hd').go fun w4 e4 => ⟨_, rfl, inR_i64 (by omega) (by omega), inR_i64 (by omega) (by omega), hK _ _ ⟨he.trans e4, ?_⟩⟩
      rw [cntL_append]
      simp only [cntL, Prod.mk.injEq, and_true]
      omega
    · intro K t w3 ⟨he, ht⟩ _
      subst ht
      rw [exL (he.get k4)]
      exact br_df (by simp only; omega) ⟨by rw [cnt_eq]; simp, e1.trans he⟩


mutual
def pln : Nd → Bool
  | .mk k _ _ _ ks => !decide (k = 4) || plnL ks
def plnL : List Nd → Bool
  | [] => true
  | n :: r => (!decide (n.k = 0) && pln n) && plnL r
end

theorem plnL_all : ∀ l : List Nd, plnL l = l.all (fun x => !decide (x.k = 0) && pln x)
  | [] => by simp [plnL]
  | x :: r => by simp only [plnL, List.all_cons, plnL_all r]
theorem pln_eq (n : Nd) : pln n = (!decide (n.k = 4) || n.ks.all (fun x => !decide (x.k = 0) && pln x)) := by
  cases n with
  | mk k m t ns ks => simp only [pln, plnL_all]; rfl

theorem pln_bad {n x : Nd} {pre post : List Nd} (h4 : n.k = 4) (hx : n.ks = pre ++ x :: post) (hb : (!decide (x.k = 0) && pln x) = false) : pln n = false := by
  rw [pln_eq, hx, List.all_append, List.all_cons, hb]
  simp [h4]


end Go.Proofs
