/-
  What functions of this seat compute, part 'LeaseLaws3': contracts over their readable predicates. Conditions: each theorem's own hypotheses.
-/
import Derived.Test.YtcgmjkokkclciaaBase
import Derived.Test.YtcgmjkokkclciaaOpen
import Derived.Test.YtcgmjkokkclciaaGen
import Derived.Test.YtcgmjkokkclciaaCLease
import Derived.Test.YtcgmjkokkclciaaCLease2
import Derived.Test.YtcgmjkokkclciaaCLease3
import Derived.Test.YtcgmjkokkclciaaCLease5
import Derived.Test.YtcgmjkokkclciaaCLease6
import Derived.Test.YtcgmjkokkclciaaCLeaseDraw
import Derived.Test.YtcgmjkokkclciaaCLeaseMath
import Derived.Test.YtcgmjkokkclciaaCLeaseLaws2
namespace Go.Proofs
open Go Go.Vc Go.RowKit
set_option maxRecDepth 100000
set_option linter.unusedVariables false
--! C:Lease C:Lease2 C:Lease3 C:Lease5 C:Lease6 C:LeaseDraw C:LeaseMath C:LeaseLaws2
/-! ## Leases: the laws at drawn lists -/

theorem slTake {α : Type} {c : α → List Value} {n : Nat} {w : World} {s : Sl} {xs : List α} (h : SlOf c w s xs) (hc : ∀ x, (c x).length = n) {k : Nat} (hk : k ≤ s.len) : SlOf c w ⟨s.a, k, s.cap⟩ (xs.take k) := by
  have hl := h.len
  refine ⟨by simp; omega, Nat.le_trans hk h.cap, fun i v hi => h.at_ i v ?_⟩
  conv => lhs; rw [← List.take_append_drop k xs]
  rw [List.flatMap_append, List.getElem?_append_left (List.getElem?_eq_some_iff.1 hi).1]
  exact hi

theorem c_laws_FnValidLeases {w : World} {s : Sl} {bs : List UInt8} (hs : Bytes w s bs) (_ : s.cap ≤ maxLen) : CallR Try.prog 4 [.slice s.a s.len s.cap] w (fun v w' => v = .bool true ∧ Ext w w') := by
  refine fn_laws_FnValidLeases _ _ _ ?_
  unfold g_laws_FnValidLeases
  refine br_d (fun _ => ⟨rfl, Ext.refl _⟩) (fun _ => ?_)
  refine (c_spec_DrawValidLeases hs).mono ?_
  rintro _ w1 ⟨⟨l, xs, rfl, d⟩, e1⟩
  have hm := d.max
  have hl := d.ls.len
  have hl13 := d.len
  refine ⟨l, rfl, (c_impl_ValidLeases d.ls).go fun w2 e2 => ⟨_, rfl, (c_spec_validLeases (d.ls.ext e2) hm.1 hm.2 |> c_spec_ValidLeases).go fun w3 e3 => ⟨_, rfl, ?_⟩⟩⟩
  have e03 := e1.trans (e2.trans e3)
  have d3 := (d.ls.ext e2).ext e3
  refine br_f (by simp) (br_i (fun g => ?_) (fun g => br_i (fun g1 => ?_) (fun g1 => ?_)))
  · exact (c_spec_validLeases d3 hm.1 hm.2 |> c_spec_ValidLeases).go fun w4 e4 => ⟨_, rfl, by simp, e03.trans e4⟩
  · exact (c_spec_validLeases d3 hm.1 hm.2 |> c_spec_ValidLeases).go fun w4 e4 => ⟨_, rfl, by simp, e03.trans e4⟩
  · have hpos : 0 < l.len := by simp at g1; omega
    have hcap := d3.cap
    refine ⟨inR_i64 (by omega) (by omega), ⟨by omega, by omega, by omega⟩, ?_⟩
    have hk : ((l.len : Int) - 1).toNat = l.len - 1 := by omega
    simp only [Int.toNat_zero, Nat.sub_zero, resl_zero, hk]
    refine (c_impl_ValidLeases (slTake d3 cL_len (show l.len - 1 ≤ l.len by omega))).go fun w4 e4 => ⟨_, rfl, ?_, e03.trans e4⟩
    rw [vLs_take _ (notf g)]

theorem c_laws_FnHolderOf {w : World} {s : Sl} {bs : List UInt8} (hs : Bytes w s bs) (_ : s.cap ≤ maxLen) : CallR Try.prog 9 [.slice s.a s.len s.cap] w (fun v w' => v = .bool true ∧ Ext w w') := by
  refine fn_laws_FnHolderOf _ _ _ ?_
  unfold g_laws_FnHolderOf
  refine br_d (fun _ => ⟨rfl, Ext.refl _⟩) (fun _ => ?_)
  refine (c_spec_DrawHolderOf hs).mono ?_
  rintro _ w1 ⟨⟨l, xs, name, now, rfl, d, hn, hnow⟩, e1⟩
  have hm := d.max
  have hl := d.ls.len
  have hl13 := d.len
  refine ⟨l, name, now, rfl, (c_impl_HolderOf name now d.ls).go fun w2 e2 => ⟨_, rfl, (c_spec_HolderOf name now (d.ls.ext e2) hm.1 hm.2).go fun w3 e3 => ⟨_, rfl, br_f (by simp) ?_⟩⟩⟩
  have d3 := (d.ls.ext e2).ext e3
  have e03 := e1.trans (e2.trans e3)
  refine (c_impl_ValidLeases d3).go fun w4 e4 => ⟨_, rfl, br_i (fun g => ?_) (fun g => ?_)⟩
  · exact (c_spec_HolderOf name now (d3.ext e4) hm.1 hm.2).go fun w5 e5 => ⟨_, rfl, by simp, (e03.trans e4).trans e5⟩
  have hv := notf g
  have p := vLs_parts hv
  have hb := holderOf_bounds xs name now
  have d4 := d3.ext e4
  refine sLoop_list xs (fun pre _ w' => Ext w4 w') (Ext.refl _) ?_ ?_
  · rintro K pre post c u w5 hx he hK _
    have hmid := mid_len hx
    refine br_dt (by omega) ⟨fun w' => Ext w5 w', fun _ h => h, fun w6 e6 => ?_⟩
    have d6 := (d4.ext he).ext e6
    have hb0 : ((0 : Int) ≤ pre.length ∧ (pre.length : Int) < (l.len : Int)) := ⟨by omega, by omega⟩
    obtain ⟨a, ha, c0, c1, c2⟩ := lz_mid (d4.ext he) hx
    have hokc := List.all_eq_true.1 p.1 c (by rw [hx]; simp)
    simp only [okL, Bool.and_eq_true, decide_eq_true_eq] at hokc
    have hasc := p.2.1
    have z1 : holderOf xs c.1 c.2.2 = 0 := holderOf_zero (by rw [hx] at hasc ⊢; rw [hold_asc hasc, if_neg (by omega)])
    have z2 : holderOf xs c.1 (c.2.2 - 1) = c.2.1 := by
      rw [holderOf_val hv (inT_mk (by omega) (by omega))]
      rw [hx] at hasc ⊢; rw [hold_asc hasc, if_pos (by omega)]
    refine onSome_i ha ⟨hb0, _, Ext.get e6 c0, onSome_i ha ⟨hb0, _, Ext.get e6 c2, (c_impl_HolderOf c.1 c.2.2 d6).go fun w7 e7 => ⟨_, rfl, ?_⟩⟩⟩
    rw [z1]
    have e57 : Ext w5 w7 := Ext.trans e6 e7
    refine br_f (by simp) (onSome_i ha ⟨hb0, _, e57.get c0, onSome_i ha ⟨hb0, _, e57.get c2, inR_i64 (by omega) (by omega), e57, (c_impl_HolderOf c.1 (c.2.2 - 1) (d6.ext e7)).go fun w8 e8 => ⟨_, rfl, e57.trans e8, ?_⟩⟩⟩)
    rw [z2]
    exact onSome_i ha ⟨hb0, e57.trans e8, _, fun w9 e9 => Ext.get e9 c1, br_f (by simp) ⟨inR_i64 (by omega) (by omega), hK _ _ (he.trans (e57.trans e8))⟩⟩
  · rintro K u w5 he _
    refine br_df (by omega) (br_dt (by omega) ⟨?_, (e03.trans e4).trans he⟩)
    have : holderOf xs name now ≤ 5 := hb.2
    simp [this]

set_option maxHeartbeats 1000000 in
theorem c_laws_FnLiveLeases {w : World} {s : Sl} {bs : List UInt8} (hs : Bytes w s bs) (_ : s.cap ≤ maxLen) : CallR Try.prog 7 [.slice s.a s.len s.cap] w (fun v w' => v = .bool true ∧ Ext w w') := by
  refine fn_laws_FnLiveLeases _ _ _ ?_
  unfold g_laws_FnLiveLeases
  refine br_d (fun _ => ⟨rfl, Ext.refl _⟩) (fun _ => ?_)
  refine (c_spec_DrawLiveLeases hs).mono ?_
  rintro _ w1 ⟨⟨l, xs, now, rfl, d, hnow⟩, e1⟩
  have hm := d.max
  have hl := d.ls.len
  have hl13 := d.len
  refine ⟨l, now, rfl, (c_impl_LiveLeases now d.ls).mono ?_⟩
  rintro _ w2 ⟨l2, rfl, o2, e2⟩
  refine ⟨l2, rfl, (c_spec_LiveLeases now (d.ls.ext e2) hm.1 hm.2).mono ?_⟩
  rintro _ w3 ⟨l3, rfl, o3, e3⟩
  unfold LiveR at o2 o3
  have hsh := live_short xs now
  generalize hR : (if vLs xs = true ∧ inT now = true then xs.filter (live now) else []) = R at *
  have q2 := (o2.slOf cL_len (by decide)).ext e3
  have q3 := o3.slOf cL_len (by decide)
  have e03 := e1.trans (e2.trans e3)
  have d3 := (d.ls.ext e2).ext e3
  have mR : R.length ≤ maxLen := by unfold maxLen; omega
  refine ⟨l3, rfl, (c_laws_equalLeases q2 q3 mR).go fun w4 e4 => ⟨_, rfl, br_f (by simp) ?_⟩⟩
  have e04 := e03.trans e4
  have exit : ∀ w5, Ext w4 w5 → CallR Try.prog 26 [.slice l.a l.len l.cap, .int .i64 now] w5 (fun r w' => ∃ l16 : Sl, r = .slice l16.a l16.len l16.cap ∧
      CallR Try.prog 31 [.slice l2.a l2.len l2.cap, .slice l16.a l16.len l16.cap] w' (fun r w'' => ∃ b : Bool, r = .bool b ∧ (Value.bool b = .bool true ∧ Ext w w''))) := fun w5 e5 => by
    refine (c_spec_LiveLeases now ((d3.ext e4).ext e5) hm.1 hm.2).mono ?_
    rintro _ w6 ⟨l6, rfl, o6, e6⟩
    unfold LiveR at o6
    rw [hR] at o6
    exact ⟨l6, rfl, (c_laws_equalLeases (((q2.ext e4).ext e5).ext e6) (o6.slOf cL_len (by decide)) mR).go fun w7 e7 => ⟨_, rfl, by simp, ((e04.trans e5).trans e6).trans e7⟩⟩
  refine (c_impl_ValidLeases (d3.ext e4)).go fun w5 e5 => ⟨_, rfl, br_i (fun g => exit w5 e5) (fun g => br_d (fun g1 => exit w5 e5) (fun g1 => br_d (fun g2 => exit w5 e5) (fun g2 => ?_)))⟩
  have hv := notf g
  have ht := inT_mk (now := now) (by omega) (by omega)
  rw [if_pos ⟨hv, ht⟩] at hR
  subst hR
  have e05 := e04.trans e5
  have d5 := (d3.ext e4).ext e5
  have q5 := (q2.ext e4).ext e5
  have hl2 := q5.len
  clear exit e1 e2 e3 e03
  refine sLoop_list xs (fun pre _ w' => Ext w5 w') (Ext.refl _) ?_ ?_
  · rintro K pre post c u w6 hx he hK _
    have hmid := mid_len hx
    have hb0 : ((0 : Int) ≤ pre.length ∧ (pre.length : Int) < (l.len : Int)) := ⟨by omega, by omega⟩
    refine br_dt (by omega) ⟨fun w' => Ext w6 w', fun _ h => h, fun w7 e7 => ?_⟩
    obtain ⟨a, ha, c0, c1, c2⟩ := lz_mid (d5.ext he) hx
    refine onSome_i ha ⟨hb0, _, Ext.get e7 c0, e7, (c_impl_HolderOf c.1 now ((q5.ext he).ext e7)).go fun w8 e8 => ⟨_, rfl, Ext.trans e7 e8, onSome_i ha ⟨hb0, Ext.trans e7 e8, _, fun w9 e9 => Ext.get e9 c0, ?_⟩⟩⟩
    rw [holderOf_live hv ht]
    exact (c_impl_HolderOf c.1 now (((d5.ext he).ext e7).ext e8)).go fun w9 e9 => ⟨_, rfl, br_f (by simp) ⟨inR_i64 (by omega) (by omega), hK _ _ (((he.trans e7).trans e8).trans e9)⟩⟩
  · rintro K u w6 he _
    refine br_df (by omega) ?_
    refine sLoop_list (xs.filter (live now)) (fun pre _ w' => Ext w5 w') he ?_ ?_
    · rintro K2 pre post c u2 w7 hx he7 hK2 _
      have hmid := mid_len hx
      obtain ⟨a, ha, c0, c1, c2⟩ := lz_mid (q5.ext he7) hx
      have hlive : live now c = true := (List.mem_filter.1 (show c ∈ xs.filter (live now) by rw [hx]; simp)).2
      have := of_decide_eq_true hlive
      exact br_dt (by omega) (onSome_i ha ⟨⟨by omega, by omega⟩, _, c2, br_df (by omega) ⟨inR_i64 (by omega) (by omega), hK2 _ _ he7⟩⟩)
    · rintro K2 u2 w7 he7 _
      refine br_df (by omega) ((c_impl_ValidLeases (q5.ext he7)).go fun w8 e8 => ⟨_, rfl, ?_, (e05.trans he7).trans e8⟩)
      rw [vLs_filter _ hv]

set_option maxHeartbeats 1000000 in
theorem c_laws_FnLiveLeasesLater {w : World} {s : Sl} {bs : List UInt8} (hs : Bytes w s bs) (_ : s.cap ≤ maxLen) : CallR Try.prog 8 [.slice s.a s.len s.cap] w (fun v w' => v = .bool true ∧ Ext w w') := by
  refine fn_laws_FnLiveLeasesLater _ _ _ ?_
  unfold g_laws_FnLiveLeasesLater
  refine br_d (fun _ => ⟨rfl, Ext.refl _⟩) (fun _ => ?_)
  refine (c_spec_DrawLiveLeases hs).mono ?_
  rintro _ w1 ⟨⟨l, xs, now, rfl, d, hnow⟩, e1⟩
  have hm := d.max
  have hl := d.ls.len
  have hl13 := d.len
  refine ⟨l, now, rfl, (c_impl_LiveLeases now d.ls).mono ?_⟩
  rintro _ w2 ⟨l2, rfl, o2, e2⟩
  refine ⟨l2, rfl, (c_spec_LiveLeases now (d.ls.ext e2) hm.1 hm.2).mono ?_⟩
  rintro _ w3 ⟨l3, rfl, o3, e3⟩
  unfold LiveR at o2 o3
  have hsh := live_short xs now
  generalize hR : (if vLs xs = true ∧ inT now = true then xs.filter (live now) else []) = R at *
  have q2 := (o2.slOf cL_len (by decide)).ext e3
  have q3 := o3.slOf cL_len (by decide)
  have e03 := e1.trans (e2.trans e3)
  have d3 := (d.ls.ext e2).ext e3
  have mR : R.length ≤ maxLen := by unfold maxLen; omega
  refine ⟨l3, rfl, (c_laws_equalLeases q2 q3 mR).go fun w4 e4 => ⟨_, rfl, br_f (by simp) ?_⟩⟩
  have e04 := e03.trans e4
  have exit : CallR Try.prog 26 [.slice l.a l.len l.cap, .int .i64 now] w4 (fun r w' => ∃ l16 : Sl, r = .slice l16.a l16.len l16.cap ∧
      CallR Try.prog 31 [.slice l2.a l2.len l2.cap, .slice l16.a l16.len l16.cap] w' (fun r w'' => ∃ b : Bool, r = .bool b ∧ (Value.bool b = .bool true ∧ Ext w w''))) := by
    refine (c_spec_LiveLeases now (d3.ext e4) hm.1 hm.2).mono ?_
    rintro _ w6 ⟨l6, rfl, o6, e6⟩
    unfold LiveR at o6
    rw [hR] at o6
    exact ⟨l6, rfl, (c_laws_equalLeases ((q2.ext e4).ext e6) (o6.slOf cL_len (by decide)) mR).go fun w7 e7 => ⟨_, rfl, by simp, (e04.trans e6).trans e7⟩⟩
  refine br_d (fun _ => exit) (fun g1 => ⟨inR_i64 (by omega) (by omega), br_d (fun _ => exit) (fun g2 => ⟨inR_i64 (by omega) (by omega), ?_⟩)⟩)
  refine (c_impl_LiveLeases (now + 9) (q2.ext e4)).mono ?_
  rintro _ w5 ⟨l5, rfl, o5, e5⟩
  refine ⟨l5, rfl, inR_i64 (by omega) (by omega), (c_impl_LiveLeases (now + 9) ((d3.ext e4).ext e5)).mono ?_⟩
  rintro _ w6 ⟨l6, rfl, o6, e6⟩
  unfold LiveR at o5 o6
  have ht := inT_mk (now := now) (by omega) (by omega)
  have ht9 := inT_mk (now := now + 9) (by omega) (by omega)
  have heq : (if vLs R = true ∧ inT (now + 9) = true then R.filter (live (now + 9)) else []) = (if vLs xs = true ∧ inT (now + 9) = true then xs.filter (live (now + 9)) else []) := by
    by_cases hv : vLs xs = true
    · have hR' : R = xs.filter (live now) := by rw [← hR, if_pos ⟨hv, ht⟩]
      rw [hR', if_pos ⟨vLs_filter _ hv, ht9⟩, if_pos ⟨hv, ht9⟩, List.filter_filter]
      congr 1
      funext x
      unfold live
      by_cases h1 : now + 9 < x.2.2
      · have h2 : now < x.2.2 := by omega
        simp [h1, h2]
      · simp [h1]
    · have hn : ¬ (vLs xs = true ∧ inT now = true) := fun h => hv h.1
      have hn9 : ¬ (vLs xs = true ∧ inT (now + 9) = true) := fun h => hv h.1
      have hR' : R = [] := by rw [← hR, if_neg hn]
      rw [hR', if_neg hn9]
      split <;> rfl
  rw [heq] at o5
  have hsh9 := live_short xs (now + 9)
  refine ⟨l6, rfl, (c_laws_equalLeases ((o5.slOf cL_len (by decide)).ext e6) (o6.slOf cL_len (by decide)) (by unfold maxLen; omega)).go fun w7 e7 => ⟨_, rfl, by simp, ((e04.trans e5).trans e6).trans e7⟩⟩

theorem c_laws_FnHolderOfNone {w : World} {s : Sl} {bs : List UInt8} (hs : Bytes w s bs) (_ : s.cap ≤ maxLen) : CallR Try.prog 12 [.slice s.a s.len s.cap] w (fun v w' => v = .bool true ∧ Ext w w') := by
  refine fn_laws_FnHolderOfNone _ _ _ ?_
  unfold g_laws_FnHolderOfNone
  refine br_d (fun _ => ⟨rfl, Ext.refl _⟩) (fun _ => ?_)
  refine (c_spec_DrawHolderOf hs).mono ?_
  rintro _ w1 ⟨⟨l, xs, name, now, rfl, d, hn, hnow⟩, e1⟩
  have hm := d.max
  refine ⟨l, name, now, rfl, (c_impl_HolderOf name now d.ls).go fun w2 e2 => ⟨_, rfl, (c_spec_HolderOf name now (d.ls.ext e2) hm.1 hm.2).go fun w3 e3 => ⟨_, rfl, br_f (by simp) ?_⟩⟩⟩
  have d3 := (d.ls.ext e2).ext e3
  have e03 := e1.trans (e2.trans e3)
  have exit : CallR Try.prog 24 [.slice l.a l.len l.cap, .string name, .int .i64 now] w3 (fun r w' => ∃ n : Int, r = .int .i64 n ∧ (Value.bool (holderOf xs name now == n) = .bool true ∧ Ext w w')) :=
    (c_spec_HolderOf name now d3 hm.1 hm.2).go fun w5 e5 => ⟨_, rfl, by simp, e03.trans e5⟩
  refine br_i (fun _ => exit) (fun _ => br_d (fun _ => exit) (fun g1 => br_d (fun _ => exit) (fun g2 => ?_)))
  refine (c_impl_TakeLease name 3 now 2 d3).mono ?_
  rintro _ w4 ⟨⟨l4, rfl, o4⟩, e4⟩
  have z : holderOf [] name now = 0 := holderOf_zero rfl
  refine ⟨l4, _, rfl, (c_impl_HolderOf name now (SlOf.nil cL w4)).go fun w5 e5 => ⟨_, rfl, ?_⟩⟩
  rw [z]
  refine br_t (by simp) (br_i (fun g => ⟨rfl, (e03.trans e4).trans e5⟩) (fun g => ?_))
  obtain ⟨ys, hys⟩ := Option.isSome_iff_exists.1 (notf g)
  rw [hys] at o4
  have o4' : Own w3.heap.size 40 3 w4 l4 (ys.flatMap cL) := o4
  refine (c_impl_HolderOf name now ((o4'.slOf cL_len (by decide)).ext e5)).go fun w6 e6 => ⟨_, rfl, ?_, ((e03.trans e4).trans e5).trans e6⟩
  rw [take_holds hys (Int.le_refl now) (by omega)]; rfl

set_option maxHeartbeats 1000000 in
theorem c_laws_FnGiveLease {w : World} {s : Sl} {bs : List UInt8} (hs : Bytes w s bs) (_ : s.cap ≤ maxLen) : CallR Try.prog 11 [.slice s.a s.len s.cap] w (fun v w' => v = .bool true ∧ Ext w w') := by
  refine fn_laws_FnGiveLease _ _ _ ?_
  unfold g_laws_FnGiveLease
  refine br_d (fun _ => ⟨rfl, Ext.refl _⟩) (fun _ => ?_)
  refine (c_spec_DrawGiveLease hs).mono ?_
  rintro _ w1 ⟨⟨l, xs, name, owner, now, rfl, d, hn, hnow, ho0, ho1⟩, e1⟩
  have hm := d.max
  have hl := d.ls.len
  have hl13 := d.len
  refine ⟨l, name, owner, now, rfl, (c_impl_GiveLease name owner now d.ls).mono ?_⟩
  rintro _ w2 ⟨⟨l2, rfl, o2⟩, e2⟩
  refine ⟨l2, _, rfl, (c_spec_GiveLease name owner now (d.ls.ext e2) hm.1 hm.2).mono ?_⟩
  rintro _ w3 ⟨⟨l3, rfl, o3⟩, e3⟩
  have hsh := giveL_short xs name owner now
  have q2 := (o2.slOf cL_len (by decide)).ext e3
  have q3 := o3.slOf cL_len (by decide)
  have e03 := e1.trans (e2.trans e3)
  have d3 := (d.ls.ext e2).ext e3
  refine ⟨l3, _, rfl, (c_laws_equalLeases q2 q3 (by unfold maxLen; omega)).go fun w4 e4 => ⟨_, rfl, br_f (by simp) (br_f (by simp) (br_i (fun g => ?_) (fun g => ?_)))⟩⟩
  · exact (c_laws_equalLeases (q2.ext e4) (q3.ext e4) (by unfold maxLen; omega)).go fun w5 e5 => ⟨_, rfl, br_t (by simp) ⟨by simp, (e03.trans e4).trans e5⟩⟩
  obtain ⟨ys, hys⟩ := Option.isSome_iff_exists.1 (notf g)
  rw [hys] at q2
  have q4 : Leases w4 l2 ys := SlOf.ext q2 e4
  have d4 := d3.ext e4
  obtain ⟨hv, ht, hob, hvy, hlen, hh, hvn⟩ := give_parts hys
  obtain ⟨hho, hne, _⟩ := giveL_some hys
  have e04 := e03.trans e4
  have hz : holderOf ys name now = 0 := holderOf_zero hh
  refine (c_impl_GiveLease name owner now q4).mono ?_
  rintro _ w5 ⟨⟨l5, rfl, _⟩, e5⟩
  have em : owner % 5 = ((owner.toNat % 5 : Nat) : Int) := by omega
  have hm5 : 0 ≤ owner % 5 ∧ owner % 5 < 5 := by omega
  refine ⟨l5, _, rfl, ⟨by omega, by omega⟩, inR_i64 (by omega) (by omega), (c_impl_GiveLease name (owner % 5 + 1) now (d4.ext e5)).mono ?_⟩
  rintro _ w6 ⟨⟨l6, rfl, _⟩, e6⟩
  refine ⟨l6, _, rfl, (c_impl_HolderOf name now ((q4.ext e5).ext e6)).go fun w7 e7 => ⟨_, rfl, ?_⟩⟩
  have n1 : giveL ys name owner now = none := by unfold giveL; rw [if_neg]; rintro ⟨h1, h2⟩; omega
  have n2 : giveL xs name (owner % 5 + 1) now = none := by unfold giveL; rw [if_neg]; rintro ⟨h1, h2⟩; omega
  rw [hz, n1, n2]
  have hl2 := q4.len
  refine br_t rfl (br_t rfl (br_t rfl ⟨inR_i64 (by omega) (by omega), br_t (by simp; omega) ?_⟩))
  refine (c_impl_ValidLeases (((q4.ext e5).ext e6).ext e7)).go fun w8 e8 => ⟨_, rfl, ?_, (((e04.trans e5).trans e6).trans e7).trans e8⟩
  rw [hvy]

set_option maxHeartbeats 1000000 in
theorem c_laws_FnTakeLease {w : World} {s : Sl} {bs : List UInt8} (hs : Bytes w s bs) (_ : s.cap ≤ maxLen) : CallR Try.prog 13 [.slice s.a s.len s.cap] w (fun v w' => v = .bool true ∧ Ext w w') := by
  refine fn_laws_FnTakeLease _ _ _ ?_
  unfold g_laws_FnTakeLease
  refine br_d (fun _ => ⟨rfl, Ext.refl _⟩) (fun _ => ?_)
  refine (c_spec_DrawTakeLease hs).mono ?_
  rintro _ w1 ⟨⟨l, xs, name, owner, now, span, rfl, d, hn, hnow, ho, hsp⟩, e1⟩
  have hm := d.max
  refine ⟨l, name, owner, now, span, rfl, (c_impl_TakeLease name owner now span d.ls).mono ?_⟩
  rintro _ w2 ⟨⟨l2, rfl, o2⟩, e2⟩
  refine ⟨l2, _, rfl, (c_spec_TakeLease name owner now span (d.ls.ext e2) hm.1 hm.2 (by unfold maxLen; omega)).mono ?_⟩
  rintro _ w3 ⟨⟨l3, rfl, o3⟩, e3⟩
  have hsh := takeL_short xs name owner now span
  have q2 := (o2.slOf cL_len (by decide)).ext e3
  have q3 := o3.slOf cL_len (by decide)
  have e03 := e1.trans (e2.trans e3)
  refine ⟨l3, _, rfl, (c_laws_equalLeases q2 q3 (by unfold maxLen; omega)).go fun w4 e4 => ⟨_, rfl, br_f (by simp) (br_f (by simp) (br_i (fun g => ?_) (fun g => ?_)))⟩⟩
  · exact (c_laws_equalLeases (q2.ext e4) (q3.ext e4) (by unfold maxLen; omega)).go fun w5 e5 => ⟨_, rfl, br_t (by simp) ⟨by simp, (e03.trans e4).trans e5⟩⟩
  obtain ⟨ys, hys⟩ := Option.isSome_iff_exists.1 (notf g)
  rw [hys] at q2
  have q4 : Leases w4 l2 ys := SlOf.ext q2 e4
  obtain ⟨hv0, hvn, hob, hnb, hsb, hvy, hy, hle⟩ := takeL_some hys
  have e04 := e03.trans e4
  refine (c_impl_ValidLeases q4).go fun w5 e5 => ⟨_, rfl, br_t hvy ?_⟩
  refine (c_impl_HolderOf name now (q4.ext e5)).go fun w6 e6 => ⟨_, rfl, ?_⟩
  rw [take_holds hys (Int.le_refl now) (by omega)]
  refine br_t (by simp) ⟨inR_i64 (by omega) (by omega), inR_i64 (by omega) (by omega), ?_⟩
  refine (c_impl_HolderOf name (now + span - 1) ((q4.ext e5).ext e6)).go fun w7 e7 => ⟨_, rfl, ?_⟩
  rw [take_holds hys (show now ≤ now + span - 1 by omega) (by omega)]
  refine br_t (by simp) ⟨inR_i64 (by omega) (by omega), ?_⟩
  refine (c_impl_HolderOf name (now + span) (((q4.ext e5).ext e6).ext e7)).go fun w8 e8 => ⟨_, rfl, ?_, (((e04.trans e5).trans e6).trans e7).trans e8⟩
  rw [take_ends hys]; rfl

set_option maxHeartbeats 1000000 in
theorem c_laws_FnTakeLeaseAgain {w : World} {s : Sl} {bs : List UInt8} (hs : Bytes w s bs) (_ : s.cap ≤ maxLen) : CallR Try.prog 14 [.slice s.a s.len s.cap] w (fun v w' => v = .bool true ∧ Ext w w') := by
  refine fn_laws_FnTakeLeaseAgain _ _ _ ?_
  unfold g_laws_FnTakeLeaseAgain
  refine br_d (fun _ => ⟨rfl, Ext.refl _⟩) (fun _ => ?_)
  refine (c_spec_DrawTakeLease hs).mono ?_
  rintro _ w1 ⟨⟨l, xs, name, owner, now, span, rfl, d, hn, hnow, ho, hsp⟩, e1⟩
  have hm := d.max
  refine ⟨l, name, owner, now, span, rfl, (c_impl_TakeLease name owner now span d.ls).mono ?_⟩
  rintro _ w2 ⟨⟨l2, rfl, o2⟩, e2⟩
  refine ⟨l2, _, rfl, (c_spec_TakeLease name owner now span (d.ls.ext e2) hm.1 hm.2 (by unfold maxLen; omega)).mono ?_⟩
  rintro _ w3 ⟨⟨l3, rfl, o3⟩, e3⟩
  have hsh := takeL_short xs name owner now span
  have q2 := (o2.slOf cL_len (by decide)).ext e3
  have q3 := o3.slOf cL_len (by decide)
  have e03 := e1.trans (e2.trans e3)
  refine ⟨l3, _, rfl, (c_laws_equalLeases q2 q3 (by unfold maxLen; omega)).go fun w4 e4 => ⟨_, rfl, ?_⟩⟩
  have exit : CallR Try.prog 31 [.slice l2.a l2.len l2.cap, .slice l3.a l3.len l3.cap] w4 (fun r w' => ∃ b : Bool, r = .bool b ∧ br b (Value.bool ((takeL xs name owner now span).isSome == (takeL xs name owner now span).isSome) = .bool true ∧ Ext w w') (Value.bool false = .bool true ∧ Ext w w')) :=
    (c_laws_equalLeases (q2.ext e4) (q3.ext e4) (by unfold maxLen; omega)).go fun w5 e5 => ⟨_, rfl, br_t (by simp) ⟨by simp, (e03.trans e4).trans e5⟩⟩
  refine br_f (by simp) (br_f (by simp) (br_i (fun g => exit) (fun g => ⟨inR_i64 (by omega) (by omega), br_d (fun _ => exit) (fun g1 => br_i (fun _ => exit) (fun g2 => ?_))⟩)))
  obtain ⟨ys, hys⟩ := Option.isSome_iff_exists.1 (notf g)
  rw [hys] at q2
  have q4 : Leases w4 l2 ys := SlOf.ext q2 e4
  obtain ⟨zs, hzs, hzl, hzh⟩ := take_again hys (by omega) (by simpa using g2)
  have e04 := e03.trans e4
  refine ⟨inR_i64 (by omega) (by omega), (c_impl_TakeLease name owner now (span + 1) q4).mono ?_⟩
  rintro _ w5 ⟨⟨l5, rfl, o5⟩, e5⟩
  rw [hzs] at o5 ⊢
  have q5 : Leases w5 l5 zs := o5.slOf cL_len (by decide)
  have h5 := q5.len
  have h4 := q4.len
  refine ⟨l5, _, rfl, br_t rfl (br_t (by simp; omega) ⟨inR_i64 (by omega) (by omega), (c_impl_HolderOf name (now + span) q5).go fun w6 e6 => ⟨_, rfl, ?_, (e04.trans e5).trans e6⟩⟩)⟩
  rw [hzh]; simp

set_option maxHeartbeats 1000000 in
theorem c_laws_FnTakeLeaseOthers {w : World} {s : Sl} {bs : List UInt8} (hs : Bytes w s bs) (_ : s.cap ≤ maxLen) : CallR Try.prog 15 [.slice s.a s.len s.cap] w (fun v w' => v = .bool true ∧ Ext w w') := by
  refine fn_laws_FnTakeLeaseOthers _ _ _ ?_
  unfold g_laws_FnTakeLeaseOthers
  refine br_d (fun _ => ⟨rfl, Ext.refl _⟩) (fun _ => ?_)
  refine (c_spec_DrawTakeLease hs).mono ?_
  rintro _ w1 ⟨⟨l, xs, name, owner, now, span, rfl, d, hn, hnow, ho, hsp⟩, e1⟩
  have hm := d.max
  have hl := d.ls.len
  have hl13 := d.len
  refine ⟨l, name, owner, now, span, rfl, (c_impl_TakeLease name owner now span d.ls).mono ?_⟩
  rintro _ w2 ⟨⟨l2, rfl, o2⟩, e2⟩
  refine ⟨l2, _, rfl, (c_spec_TakeLease name owner now span (d.ls.ext e2) hm.1 hm.2 (by unfold maxLen; omega)).mono ?_⟩
  rintro _ w3 ⟨⟨l3, rfl, o3⟩, e3⟩
  have hsh := takeL_short xs name owner now span
  have q2 := (o2.slOf cL_len (by decide)).ext e3
  have q3 := o3.slOf cL_len (by decide)
  have e03 := e1.trans (e2.trans e3)
  have d3 := (d.ls.ext e2).ext e3
  refine ⟨l3, _, rfl, (c_laws_equalLeases q2 q3 (by unfold maxLen; omega)).go fun w4 e4 => ⟨_, rfl, br_f (by simp) (br_f (by simp) (br_i (fun g => ?_) (fun g => ?_)))⟩⟩
  · exact (c_laws_equalLeases (q2.ext e4) (q3.ext e4) (by unfold maxLen; omega)).go fun w5 e5 => ⟨_, rfl, br_t (by simp) ⟨by simp, (e03.trans e4).trans e5⟩⟩
  obtain ⟨ys, hys⟩ := Option.isSome_iff_exists.1 (notf g)
  rw [hys] at q2
  have q4 : Leases w4 l2 ys := SlOf.ext q2 e4
  have d4 := d3.ext e4
  obtain ⟨hv0, hvn, hob, hnb, hsb, hvy, hy, hle⟩ := takeL_some hys
  have e04 := e03.trans e4
  have hy10 := (vLs_parts hvy).2.2
  have hm5 : 0 ≤ owner % 5 ∧ owner % 5 < 5 := by omega
  have hoth := take_other hys (other := owner % 5 + 1) (by omega) span
  refine ⟨⟨by omega, by omega⟩, inR_i64 (by omega) (by omega), (c_impl_TakeLease name (owner % 5 + 1) now span q4).mono ?_⟩
  rintro _ w5 ⟨⟨l5, rfl, _⟩, e5⟩
  rw [hoth]
  have e05 := e04.trans e5
  have d5 := d4.ext e5
  have q5 := q4.ext e5
  have hq5 := q5.len
  refine ⟨l5, _, rfl, ?_⟩
  refine sLoop_list xs (fun pre _ w' => Ext w5 w') (Ext.refl _) ?_ ?_
  · rintro K pre post c u w6 hx he hK _
    have hmid := mid_len hx
    have hb0 : ((0 : Int) ≤ pre.length ∧ (pre.length : Int) < (l.len : Int)) := ⟨by omega, by omega⟩
    obtain ⟨a, ha, c0, c1, c2⟩ := lz_mid (d5.ext he) hx
    refine br_dt (by omega) (onSome_i ha ⟨hb0, _, c0, ?_⟩)
    rw [seqB_eq]
    refine br_d (fun g1 => ⟨inR_i64 (by omega) (by omega), hK _ _ he⟩) (fun g1 => ?_)
    have hcm : c ∈ ys := by
      rw [hy]
      have hcx : c ∈ xs := by rw [hx]; simp
      unfold putL
      rw [List.mem_append, List.mem_cons]
      cases hlt : sltB c.1 name with
      | true => exact .inl (List.mem_filter.2 ⟨hcx, hlt⟩)
      | false =>
        right; right
        refine List.mem_filter.2 ⟨hcx, ?_⟩
        unfold gtN
        cases hgt : sltB name c.1 with
        | true => rfl
        | false => exact absurd (slt_total hlt hgt) g1
    refine sLoop_list ys (fun pre2 t w' => Ext w5 w' ∧ t.1 = pre2.any fun y => decide (c = y)) ⟨he, rfl⟩ ?_ ?_
    · rintro K2 pre2 post2 y ⟨t, u2⟩ w7 hx2 ⟨he7, ht⟩ hK2 _
      have hmid2 := mid_len hx2
      simp only at ht
      refine br_dt (by omega) (fun w8 (e8 : Ext w7 w8) => br_i (fun g2 => ?_) (fun g2 => ?_))
      · have g3 : t = true := g2
        rw [g3] at ht
        exact ⟨inR_i64 (by omega) (by omega), hK2 _ _ ⟨he7.trans e8, by rw [List.any_append, ← ht]; rfl⟩⟩
      · have g3 : t = false := g2
        rw [g3] at ht
        obtain ⟨b, hb, f0, f1, f2⟩ := lz_mid ((q5.ext he7).ext e8) hx2
        obtain ⟨a', ha', d0, d1, d2⟩ := lz_mid ((d5.ext he7).ext e8) hx
        refine onSome_i hb ⟨⟨by omega, by omega⟩, _, f0, _, f1, _, f2, onSome_i ha' ⟨hb0, _, d0, _, d1, _, d2, inR_i64 (by omega) (by omega), hK2 _ _ ⟨he7.trans e8, ?_⟩⟩⟩
        have heq : (seqB y.1 c.1 && (y.2.1 == c.2.1 && (y.2.2 == c.2.2 && true))) = decide (c = y) := by
          obtain ⟨c0, c1, c2⟩ := c
          obtain ⟨y0, y1, y2⟩ := y
          rw [seqB_eq, Bool.eq_iff_iff]
          simp only [Bool.and_eq_true, decide_eq_true_eq, beq_iff_eq, Prod.mk.injEq, Bool.and_true]
          constructor
          · rintro ⟨h1, h2, h3⟩; exact ⟨h1.symm, h2.symm, h3.symm⟩
          · rintro ⟨h1, h2, h3⟩; exact ⟨h1.symm, h2.symm, h3.symm⟩
        simp only
        rw [heq, List.any_append, ← ht]
        simp
    · rintro K2 ⟨t, u2⟩ w7 ⟨he7, ht⟩ _
      simp only at ht
      have hany : (ys.any fun y => decide (c = y)) = true := List.any_eq_true.2 ⟨c, hcm, by simp⟩
      rw [hany] at ht
      subst ht
      refine br_df (by omega) (br_f rfl ⟨inR_i64 (by omega) (by omega), hK _ _ he7⟩)
  · rintro K u w6 he _
    exact br_df (by omega) ⟨rfl, e05.trans he⟩

set_option maxHeartbeats 1000000 in
theorem c_laws_FnGiveLeaseTake {w : World} {s : Sl} {bs : List UInt8} (hs : Bytes w s bs) (_ : s.cap ≤ maxLen) : CallR Try.prog 17 [.slice s.a s.len s.cap] w (fun v w' => v = .bool true ∧ Ext w w') := by
  refine fn_laws_FnGiveLeaseTake _ _ _ ?_
  unfold g_laws_FnGiveLeaseTake
  refine br_d (fun _ => ⟨rfl, Ext.refl _⟩) (fun _ => ?_)
  refine (c_spec_DrawGiveLease hs).mono ?_
  rintro _ w1 ⟨⟨l, xs, name, owner, now, rfl, d, hn, hnow, ho0, ho1⟩, e1⟩
  have hm := d.max
  refine ⟨l, name, owner, now, rfl, (c_impl_GiveLease name owner now d.ls).mono ?_⟩
  rintro _ w2 ⟨⟨l2, rfl, o2⟩, e2⟩
  refine ⟨l2, _, rfl, (c_spec_GiveLease name owner now (d.ls.ext e2) hm.1 hm.2).mono ?_⟩
  rintro _ w3 ⟨⟨l3, rfl, o3⟩, e3⟩
  have hsh := giveL_short xs name owner now
  have q2 := (o2.slOf cL_len (by decide)).ext e3
  have q3 := o3.slOf cL_len (by decide)
  have e03 := e1.trans (e2.trans e3)
  refine ⟨l3, _, rfl, (c_laws_equalLeases q2 q3 (by unfold maxLen; omega)).go fun w4 e4 => ⟨_, rfl, ?_⟩⟩
  have exit : CallR Try.prog 31 [.slice l2.a l2.len l2.cap, .slice l3.a l3.len l3.cap] w4 (fun r w' => ∃ b : Bool, r = .bool b ∧ br b (Value.bool ((giveL xs name owner now).isSome == (giveL xs name owner now).isSome) = .bool true ∧ Ext w w') (Value.bool false = .bool true ∧ Ext w w')) :=
    (c_laws_equalLeases (q2.ext e4) (q3.ext e4) (by unfold maxLen; omega)).go fun w5 e5 => ⟨_, rfl, br_t (by simp) ⟨by simp, (e03.trans e4).trans e5⟩⟩
  refine br_f (by simp) (br_f (by simp) (br_i (fun g => exit) (fun g => ⟨inR_i64 (by omega) (by omega), br_d (fun _ => exit) (fun g1 => ?_)⟩)))
  obtain ⟨ys, hys⟩ := Option.isSome_iff_exists.1 (notf g)
  rw [hys] at q2
  have q4 : Leases w4 l2 ys := SlOf.ext q2 e4
  have e04 := e03.trans e4
  refine sLoop.intro (fun st w' => (1 ≤ st.1 ∧ st.1 ≤ 6) ∧ Ext w4 w') (fun st _ => (6 - st.1).toNat) ⟨⟨by decide, by decide⟩, Ext.refl _⟩ ?_
  rintro ⟨o, u⟩ w5 K ⟨⟨h1, h6⟩, he⟩ hK _
  simp only at h1 h6
  simp only
  refine br_d (fun g2 => ?_) (fun g2 => ⟨trivial, e04.trans he⟩)
  obtain ⟨zs, hzs⟩ := give_take (o := o) hys (by omega) ⟨h1, g2⟩
  refine (c_impl_TakeLease name o now 5 (q4.ext he)).mono ?_
  rintro _ w6 ⟨⟨l6, rfl, _⟩, e6⟩
  rw [hzs]
  exact ⟨l6, _, rfl, br_f rfl ⟨inR_i64 (by omega) (by omega), hK _ _ ⟨⟨by simp only; omega, by simp only; omega⟩, he.trans e6⟩ (by simp only; omega)⟩⟩
end Go.Proofs
