/-
  What functions of this seat compute, part 'CallsLaws': contracts over their readable predicates. Conditions: each theorem's own hypotheses.
-/
import Derived.Test.YtneehnkdgjijiaaBase
import Derived.Test.YtneehnkdgjijiaaOpen
import Derived.Test.YtneehnkdgjijiaaGen
import Derived.Test.YtneehnkdgjijiaaCCalls
import Derived.Test.YtneehnkdgjijiaaCCalls2
import Derived.Test.YtneehnkdgjijiaaCCalls3
import Derived.Test.YtneehnkdgjijiaaCCalls4
import Derived.Test.YtneehnkdgjijiaaCIntsHelp
import Derived.Test.YtneehnkdgjijiaaCCallsHelp
import Derived.Test.YtneehnkdgjijiaaCCallsDraw
import Derived.Test.YtneehnkdgjijiaaCCallsMath
namespace Go.Proofs
open Go Go.Vc Go.RowKit
set_option maxRecDepth 100000
set_option linter.unusedVariables false
--! C:Calls C:Calls2 C:Calls3 C:Calls4 C:IntsHelp C:CallsHelp C:CallsDraw C:CallsMath
/-! ## Orders: the laws -/

theorem castLen (ks : List Nat) : (castL ks).length = ks.length := by simp [castL]

theorem shortI (xs : List Cz) : (castL ((findO xs).getD [])).length ≤ maxLen := by
  have := findO_short (xs := xs)
  rw [castLen]; unfold maxLen; omega

theorem c_laws_FnFindOrder {w : World} {s : Sl} {bs : List UInt8} (hs : Bytes w s bs) (_ : s.cap ≤ maxLen) : CallR Try.prog 8 [.slice s.a s.len s.cap] w (fun v w' => v = .bool true ∧ Ext w w') := by
  refine fn_laws_FnFindOrder _ _ _ ?_
  unfold g_laws_FnFindOrder
  refine br_d (fun _ => ⟨rfl, Ext.refl _⟩) (fun _ => ?_)
  refine (c_spec_DrawFindOrder hs).mono ?_
  rintro _ w1 ⟨⟨l, xs, rfl, d⟩, e1⟩
  refine ⟨l, rfl, (c_impl_FindOrder d.ls).mono ?_⟩
  rintro _ w2 ⟨⟨l2, rfl, o2⟩, e2⟩
  refine ⟨l2, _, rfl, (c_spec_FindOrder (d.ls.ext e2) d.max).mono ?_⟩
  rintro _ w3 ⟨⟨l3, rfl, o3⟩, e3⟩
  have q2 := (o2.slOf cI_len (by decide)).ext e3
  have q3 := o3.slOf cI_len (by decide)
  have e03 := e1.trans (e2.trans e3)
  have d3 := (d.ls.ext e2).ext e3
  refine ⟨l3, _, rfl, (c_laws_equalInts q2 q3 (shortI xs)).go fun w4 e4 => ⟨_, rfl, br_f (by simp) (br_f (by simp) (br_i (fun g => ?_) (fun g => ?_)))⟩⟩
  · exact (c_laws_equalInts (q2.ext e4) (q3.ext e4) (shortI xs)).go fun w5 e5 => ⟨_, rfl, br_t (by simp) ⟨by simp, (e03.trans e4).trans e5⟩⟩
  obtain ⟨r, hr⟩ := Option.isSome_iff_exists.1 (notf g)
  rw [hr] at q2
  have q4 : Ints w4 l2 (castL r) := SlOf.ext q2 e4
  refine (c_impl_CheckOrder (d3.ext e4) q4).mono ?_
  rintro _ w5 ⟨⟨b, rfl, hb⟩, e5⟩
  have hgd := findO_sound hr
  have : b = true := hb.2 ⟨hgd.1, r, rfl, hgd.2⟩
  exact ⟨_, rfl, by rw [this], (e03.trans e4).trans e5⟩

theorem c_laws_FnCheckOrder {w : World} {s : Sl} {bs : List UInt8} (hs : Bytes w s bs) (_ : s.cap ≤ maxLen) : CallR Try.prog 10 [.slice s.a s.len s.cap] w (fun v w' => v = .bool true ∧ Ext w w') := by
  refine fn_laws_FnCheckOrder _ _ _ ?_
  unfold g_laws_FnCheckOrder
  refine br_d (fun _ => ⟨rfl, Ext.refl _⟩) (fun _ => ?_)
  refine (c_spec_DrawCheckOrder hs).mono ?_
  rintro _ w1 ⟨⟨l, xs, lo, ord, rfl, d, hi⟩, e1⟩
  refine ⟨l, lo, rfl, (c_impl_CheckOrder d.ls hi).mono ?_⟩
  rintro _ w2 ⟨⟨b, rfl, hb⟩, e2⟩
  refine ⟨_, rfl, (c_spec_CheckOrder (d.ls.ext e2) d.max (hi.ext e2)).mono ?_⟩
  rintro _ w3 ⟨⟨b', rfl, hb'⟩, e3⟩
  obtain rfl : b = b' := bool_iff hb b' hb'
  refine ⟨_, rfl, br_f (by simp) ?_⟩
  refine (c_impl_FindOrder ((d.ls.ext e2).ext e3)).mono ?_
  rintro _ w4 ⟨⟨l4, rfl, o4⟩, e4⟩
  have e04 := ((e1.trans e2).trans e3).trans e4
  refine ⟨l4, _, rfl, br_i (fun _ => ⟨rfl, e04⟩) (fun g => ⟨?_, e04⟩)⟩
  obtain ⟨hv, ks, _, hgd⟩ := hb.1 (notf g)
  rw [findO_complete hv hgd]

set_option maxHeartbeats 1000000 in
theorem c_laws_FnCheckOrderTimes {w : World} {s : Sl} {bs : List UInt8} (hs : Bytes w s bs) (_ : s.cap ≤ maxLen) : CallR Try.prog 7 [.slice s.a s.len s.cap] w (fun v w' => v = .bool true ∧ Ext w w') := by
  refine fn_laws_FnCheckOrderTimes _ _ _ ?_
  unfold g_laws_FnCheckOrderTimes
  refine br_d (fun _ => ⟨rfl, Ext.refl _⟩) (fun _ => ?_)
  refine (c_spec_DrawCheckOrder hs).mono ?_
  rintro _ w1 ⟨⟨l, xs, lo, ord, rfl, d, hi⟩, e1⟩
  refine ⟨l, lo, rfl, (c_impl_CheckOrder d.ls hi).mono ?_⟩
  rintro _ w2 ⟨⟨b, rfl, hb⟩, e2⟩
  refine ⟨_, rfl, (c_spec_CheckOrder (d.ls.ext e2) d.max (hi.ext e2)).mono ?_⟩
  rintro _ w3 ⟨⟨b', rfl, hb'⟩, e3⟩
  obtain rfl : b = b' := bool_iff hb b' hb'
  have e03 := (e1.trans e2).trans e3
  have d3 := (d.ls.ext e2).ext e3
  have i3 := (hi.ext e2).ext e3
  refine ⟨_, rfl, br_f (by simp) (br_i (fun g => ?_) (fun g => ?_))⟩
  · refine (c_spec_CheckOrder d3 d.max i3).mono ?_
    rintro _ w4 ⟨⟨b'', rfl, hb''⟩, e4⟩
    obtain rfl : b = b'' := bool_iff hb b'' hb''
    exact ⟨_, rfl, by simp, e03.trans e4⟩
  obtain ⟨hv, ks, rfl, hgd⟩ := hb.1 (notf g)
  have hl0 := d3.len
  have hlo := i3.len
  rw [castLen] at hlo
  have hkl := hgd.len
  have hl7 := d.len
  have cell : ∀ (w' : World) (i : Nat) (k : Nat), Ext w3 w' → ks[i]? = some k → ∃ ao a c, lo.a = some ao ∧ w'.cell? (ao.add ((i : Int).toNat * 1)) = some (.int .i64 (k : Int)) ∧ k < xs.length ∧ xs[k]? = some c ∧ l.a = some a ∧
      w'.cell? ((a.add ((k : Int).toNat * 4)).add 0) = some (.int .i64 c.1) ∧ w'.cell? ((a.add ((k : Int).toNat * 4)).add 1) = some (.int .i64 c.2.1) := by
    intro w' i k he hk
    have hkn : k < xs.length := hgd.lt k (List.mem_of_getElem? hk)
    obtain ⟨c, hc⟩ : ∃ c, xs[k]? = some c := ⟨_, List.getElem?_eq_getElem hkn⟩
    obtain ⟨ao, hao, co⟩ := (i3.ext he).cell1 cI_len (show (castL ks)[i]? = some (k : Int) by simp [castL, hk]) rfl
    obtain ⟨a, ha, c0, c1, _, _⟩ := cz_at (d3.ext he) hc
    exact ⟨ao, a, c, hao, co, hkn, hc, ha, c0, c1⟩
  refine sLoop_up ks.length (fun i _ w' => Ext w3 w') (Ext.refl _) ?_ ?_
  · rintro K i u w4 hik he hK _
    refine br_dt (by omega) ?_
    refine sLoop_up i (fun k _ w' => Ext w3 w') he ?_ ?_
    · rintro K2 j u2 w5 hj he5 hK2 _
      refine br_dt (by omega) (fun w6 (e6 : Ext w5 w6) => ?_)
      have e36 := he5.trans e6
      obtain ⟨ao, a, c, hao, co, hkn, hc, ha, c0, c1⟩ := cell w6 i ks[i] e36 (List.getElem?_eq_getElem hik)
      obtain ⟨ao', a', c', hao', co', hkn', hc', ha', c0', c1'⟩ := cell w6 j (ks[j]'(by omega)) e36 (List.getElem?_eq_getElem (by omega))
      refine onSome_i hao ⟨⟨by omega, by omega⟩, _, co, onSome_i ha ⟨⟨by omega, by omega⟩, _, c1, onSome_i hao' ⟨⟨by omega, by omega⟩, _, co', onSome_i ha' ⟨⟨by omega, by omega⟩, _, c0', br_df ?_ ⟨inR_i64 (by omega) (by omega), hK2 _ _ e36⟩⟩⟩⟩⟩
      have := List.pairwise_iff_getElem.1 hgd.ok j i (by omega) hik hj
      rw [til_get hc, frm_get hc'] at this
      exact this
    · rintro K2 u2 w5 he5 _
      exact br_df (by omega) ⟨inR_i64 (by omega) (by omega), hK _ _ he5⟩
  · rintro K u w4 he _
    refine br_df (by omega) ⟨?_, e03.trans he⟩
    simp; omega

theorem c_laws_FnExactCheckOrder {w : World} {s so : Sl} {xs : List Cz} {ord : List Int} (h : Calls4 w s xs) (hc : s.cap ≤ maxLen) (_ : ∀ x ∈ xs, True) (ho : Ints w so ord) (hco : so.cap ≤ maxLen) (_ : ∀ n ∈ ord, (Lit.int .i64 n).wf = true) :
    CallR Try.prog 6 [.slice s.a s.len s.cap, .slice so.a so.len so.cap] w (fun v w' => v = .bool true ∧ Ext w w') := by
  refine fn_laws_FnExactCheckOrder _ _ _ _ ?_
  unfold g_laws_FnExactCheckOrder
  have m1 : xs.length ≤ maxLen := by rw [← h.len]; exact Nat.le_trans h.cap hc
  have hlo := ho.len
  refine br_d (fun _ => ⟨rfl, Ext.refl _⟩) (fun g0 => ?_)
  refine (c_laws_szCallS _ h (by omega) (by omega) m1).mono ?_
  rintro _ w1 ⟨hv, e1⟩
  rcases hv with rfl | ⟨rfl, hpos⟩
  · exact ⟨_, rfl, br_dt (by omega) ⟨rfl, e1⟩⟩
  have b1 : xs.length ≤ 1048576 := by omega
  have b2 : ord.length ≤ 1048576 := by omega
  have m2 : ord.length ≤ maxLen := by unfold maxLen; omega
  refine ⟨_, rfl, br_df (by omega) (toC (h.ext e1) b1 fun x0 w2 _ h2 _ _ e2 => ⟨x0, rfl, ?_⟩)⟩
  have e02 := e1.trans e2
  refine toI (ho.ext e02) b2 fun x1 w3 _ h3 _ _ _ e3 => ⟨x1, rfl, ?_⟩
  have e03 := e02.trans e3
  refine (c_spec_CheckOrder (h2.ext e3) m1 h3).mono ?_
  rintro _ w4 ⟨⟨b, rfl, hb⟩, e4⟩
  have e04 := e03.trans e4
  refine ⟨_, rfl, toC (h.ext e04) b1 fun x2 w5 _ h5 _ _ e5 => ⟨x2, rfl, ?_⟩⟩
  have e05 := e04.trans e5
  refine toI (ho.ext e05) b2 fun x3 w6 _ h6 _ _ _ e6 => ⟨x3, rfl, ?_⟩
  have e06 := e05.trans e6
  refine (c_impl_CheckOrder (h5.ext e6) h6).mono ?_
  rintro _ w7 ⟨⟨b', rfl, hb'⟩, e7⟩
  obtain rfl : b = b' := bool_iff hb b' hb'
  have e07 := e06.trans e7
  refine ⟨_, rfl, br_f (by simp) (toC (h.ext e07) b1 fun x4 w8 _ h8 _ _ e8 => ⟨x4, rfl, ?_⟩)⟩
  have e08 := e07.trans e8
  refine (c_laws_eqCallS (((h5.ext e6).ext e7).ext e8) h8 m1).go fun w9 e9 => ⟨_, rfl, br_f (by simp) ?_⟩
  have e09 := e08.trans e9
  refine toI (ho.ext e09) b2 fun x5 w10 _ h10 _ _ _ e10 => ⟨x5, rfl, ?_⟩
  have e010 := e09.trans e10
  refine (c_laws_eqIntS ((((h6.ext e7).ext e8).ext e9).ext e10) h10 m2).go fun w11 e11 => ⟨_, rfl, br_f (by simp) ⟨rfl, e010.trans e11⟩⟩

set_option maxHeartbeats 2000000 in
theorem c_laws_FnExactFindOrder {w : World} {s : Sl} {xs : List Cz} (h : Calls4 w s xs) (hc : s.cap ≤ maxLen) (_ : ∀ x ∈ xs, True) :
    CallR Try.prog 9 [.slice s.a s.len s.cap] w (fun v w' => v = .bool true ∧ Ext w w') := by
  refine fn_laws_FnExactFindOrder _ _ _ ?_
  unfold g_laws_FnExactFindOrder
  have m1 : xs.length ≤ maxLen := by rw [← h.len]; exact Nat.le_trans h.cap hc
  refine (c_laws_szCallS _ h (by omega) (by omega) m1).mono ?_
  rintro _ w1 ⟨hv, e1⟩
  rcases hv with rfl | ⟨rfl, hpos⟩
  · exact ⟨_, rfl, br_dt (by omega) ⟨rfl, e1⟩⟩
  have b1 : xs.length ≤ 1048576 := by omega
  have hR0 := findO_short (xs := xs)
  obtain ⟨R, hR⟩ : ∃ R : List Int, castL ((findO xs).getD []) = R := ⟨_, rfl⟩
  have bR : R.length ≤ 1048576 := by rw [← hR, castLen]; omega
  have mR : R.length ≤ maxLen := by unfold maxLen; omega
  refine ⟨_, rfl, br_df (by omega) (toC (h.ext e1) b1 fun x0 w2 _ h2 _ _ e2 => ⟨x0, rfl, ?_⟩)⟩
  have e02 := e1.trans e2
  refine (c_spec_FindOrder h2 m1).mono ?_
  rintro _ w3 ⟨⟨l3, rfl, o3⟩, e3⟩
  rw [hR] at o3
  refine ⟨l3, _, rfl, ?_⟩
  have e03 := e02.trans e3
  refine toC (h.ext e03) b1 fun x1 w4 hx1 h4 r4 q4 e4 => ⟨x1, rfl, ?_⟩
  have e04 := e03.trans e4
  refine (c_impl_FindOrder h4).mono ?_
  rintro _ w5 ⟨⟨l5, rfl, o5⟩, e5⟩
  rw [hR] at o5
  refine ⟨l5, _, rfl, ?_⟩
  have e05 := e04.trans e5
  have s3 : Ints w5 l3 R := ((o3.slOf cI_len (by decide)).ext e4).ext e5
  have a3 : ∀ a, l3.a = some a → a.block < w3.heap.size := fun a ha => (o3.lt a.block (by simp [Sl.v, Value.ownBlock, ha])).2
  have a5 : ∀ a, l5.a = some a → w4.heap.size ≤ a.block := fun a ha => (o5.lt a.block (by simp [Sl.v, Value.ownBlock, ha])).1
  have o4 : Own w.heap.size 30 4 w5 x1 (xs.flatMap cC) := (q4.base_le e03.size).ext e5
  refine (c_laws_eqIntS (o5.slOf cI_len (by decide)) s3 mR).go fun w6 e6 => ⟨_, rfl, br_f (by simp) (br_f (by simp) ?_)⟩
  have e06 := e05.trans e6
  refine toC (h.ext e06) b1 fun x2 w7 _ h7 _ _ e7 => ⟨x2, rfl, ?_⟩
  have e07 := e06.trans e7
  have e57 := e6.trans e7
  refine (c_laws_eqCallS (((o4.ext e6).slOf cC_len (by decide)).ext e7) h7 m1).go fun w8 e8 => ⟨_, rfl, br_f (by simp) ?_⟩
  have e58 := e57.trans e8
  have e08 := e05.trans e58
  refine (c_laws_markCallS 1 (o4.ext e58) (by omega) (by omega) b1).mono ?_
  rintro _ w9 ⟨rfl, g9⟩
  have e09 : Ext w w9 := e08.own (o4.ext e58) g9 (Nat.le_refl _)
  have hb1 : x1.v.ownBlock = some w3.heap.size := by simp [Sl.v, Value.ownBlock, hx1]
  have s3' : Ints w9 l3 R := (s3.ext e58).grown g9 fun a ha hk => by
    rw [hb1] at hk
    have := a3 a ha
    have := Option.some.inj hk
    omega
  have o9 : Own w4.heap.size 3 1 w9 l5 (R.flatMap cI) := (o5.ext e58).kept g9 (by
    rw [hb1]
    cases hv : l5.a with
    | none => left; simp [Sl.v, Value.ownBlock, hv]
    | some a =>
      right
      have := a5 a hv
      simp only [Sl.v, Value.ownBlock, hv, ne_eq, Option.some.injEq]
      omega)
  refine ⟨_, rfl, br_df (by omega) ?_⟩
  refine (c_laws_eqIntS (o9.slOf cI_len (by decide)) s3' mR).go fun w10 e10 => ⟨_, rfl, br_f (by simp) (br_f (by simp) ?_)⟩
  have e010 := e09.trans e10
  have o10 := o9.ext e10
  refine (c_laws_markIntS 1 o10 (by omega) (by omega) bR).mono ?_
  rintro _ w11 ⟨rfl, o11, g11⟩
  have e011 : Ext w w11 := e010.own o10 g11 e04.size
  have s3'' : Ints w11 l3 R := (s3'.ext e10).grown g11 fun a ha hk => by
    have h1 := a3 a ha
    have h2 := (o10.lt _ hk.symm).1
    omega
  have m11 := o11.slOf cI_len (by decide)
  refine ⟨_, rfl, (c_laws_heldIntS 1 m11 (by omega) (by omega) bR).go fun w12 e12 => ⟨_, rfl, br_df (by omega) (br_f (by simp) ?_)⟩⟩
  have e012 := e011.trans e12
  refine toC (h.ext e012) b1 fun x3 w13 _ h13 _ _ e13 => ⟨x3, rfl, ?_⟩
  have e013 := e012.trans e13
  refine (c_impl_FindOrder h13).mono ?_
  rintro _ w14 ⟨⟨l14, rfl, o14⟩, e14⟩
  rw [hR] at o14
  refine ⟨l14, _, rfl, ?_⟩
  have e014 := e013.trans e14
  refine (c_laws_eqIntS (o14.slOf cI_len (by decide)) ((s3''.ext (e12.trans e13)).ext e14) mR).go fun w15 e15 => ⟨_, rfl, br_f (by simp) (br_f (by simp) ?_)⟩
  have e015 := e014.trans e15
  refine (c_laws_heldIntS 1 ((m11.ext (e12.trans e13)).ext (e14.trans e15)) (by omega) (by omega) bR).go fun w16 e16 => ⟨_, rfl, br_df (by omega) (br_f (by simp) ⟨rfl, e015.trans e16⟩)⟩

set_option maxHeartbeats 1000000 in
theorem c_laws_FnFindOrderShift {w : World} {s : Sl} {bs : List UInt8} (hs : Bytes w s bs) (_ : s.cap ≤ maxLen) : CallR Try.prog 4 [.slice s.a s.len s.cap] w (fun v w' => v = .bool true ∧ Ext w w') := by
  refine fn_laws_FnFindOrderShift _ _ _ ?_
  unfold g_laws_FnFindOrderShift
  refine br_d (fun _ => ⟨rfl, Ext.refl _⟩) (fun _ => ?_)
  refine (c_spec_DrawFindOrder hs).mono ?_
  rintro _ w1 ⟨⟨l, xs, rfl, d⟩, e1⟩
  refine ⟨l, rfl, (c_impl_FindOrder d.ls).mono ?_⟩
  rintro _ w2 ⟨⟨l2, rfl, o2⟩, e2⟩
  refine ⟨l2, _, rfl, (c_spec_FindOrder (d.ls.ext e2) d.max).mono ?_⟩
  rintro _ w3 ⟨⟨l3, rfl, o3⟩, e3⟩
  have q2 := (o2.slOf cI_len (by decide)).ext e3
  have q3 := o3.slOf cI_len (by decide)
  have e03 := e1.trans (e2.trans e3)
  have d3 := (d.ls.ext e2).ext e3
  have hl0 := d.ls.len
  have hl7 := d.len
  refine ⟨l3, _, rfl, (c_laws_equalInts q2 q3 (shortI xs)).go fun w4 e4 => ⟨_, rfl, br_f (by simp) (br_f (by simp) (letW_i fun w5 hw5 => ?_))⟩⟩
  have e04 := e03.trans e4
  have e5 : Ext w4 w5 := by rw [hw5]; exact (Ext.refl w4).alloc _
  have o5 : Own w4.heap.size 30 4 w5 ⟨some ⟨w4.heap.size, 0, none⟩, 0, 0⟩ (([] : List Cz).flatMap cC) := by rw [hw5]; exact Own.fresh w4 _ 4 _ (Nat.le_refl _)
  have d4 := d3.ext e4
  have q4 := q2.ext e4
  clear hw5
  refine sLoop_list xs (fun pre t w' => Ext w4 w' ∧ Own w4.heap.size 30 4 w' t.1 ((pre.map sh).flatMap cC) ∧ ∀ c ∈ pre, c.2.1 + 7 ≤ 999 ∧ 0 ≤ c.1) ⟨e5, o5, by simp⟩ ?_ ?_
  · rintro K pre post c ⟨t, u⟩ w6 hx ⟨he, ho, hall⟩ hK _
    have hm := mid_len hx
    have hsm := d.small c (by rw [hx]; simp)
    unfold smallC at hsm
    have hb0 : ((0 : Int) ≤ pre.length ∧ (pre.length : Int) < (l.len : Int)) := ⟨by omega, by omega⟩
    obtain ⟨a, ha, c0, c1, c2, c3⟩ := cz_mid (d4.ext he) hx
    refine br_dt (by omega) (onSome_i ha ⟨hb0, _, c1, inR_i64 (by omega) (by omega), br_d (fun _ => ⟨rfl, e04.trans he⟩) (fun g1 => onSome_i ha ⟨hb0, _, c0, br_d (fun _ => ⟨rfl, e04.trans he⟩) (fun g2 w7 (e7 : Ext w6 w7) => ?_)⟩)⟩)
    obtain ⟨a', ha', f0, f1, f2, f3⟩ := cz_mid ((d4.ext he).ext e7) hx
    refine onSome_i ha' ⟨hb0, _, f0, inR_i64 (by omega) (by omega), onSome_i ha' ⟨hb0, _, f1, inR_i64 (by omega) (by omega), onSome_i ha' ⟨hb0, _, f2, onSome_i ha' ⟨hb0, _, f3, ?_⟩⟩⟩⟩
    refine push1 (x := sh c) cC_len (by decide) (cC_one _) (ho.ext e7) (Nat.le_trans he.size e7.size) (by simp; omega) (by decide) (fun s' wm w' hl' o' em om hg => ⟨inR_i64 (by omega) (by omega), hK _ _ ⟨((he.trans e7).trans em).own om hg (Nat.le_refl _), by simpa using o', ?_⟩⟩)
    intro y hy
    rcases List.mem_append.1 hy with hy | hy
    · exact hall y hy
    · simp at hy; subst hy; omega
  · rintro K ⟨t, u⟩ w6 ⟨he, ho, hall⟩ _
    refine br_df (by omega) ((c_impl_FindOrder (ho.slOf cC_len (by decide))).mono ?_)
    rintro _ w7 ⟨⟨l7, rfl, o7⟩, e7⟩
    rw [findO_sh hall] at o7 ⊢
    refine ⟨l7, _, rfl, br_t (by simp) ((c_laws_equalInts (o7.slOf cI_len (by decide)) ((q4.ext he).ext e7) (shortI xs)).go fun w8 e8 => ⟨_, rfl, by simp, ((e04.trans he).trans e7).trans e8⟩)⟩

set_option maxHeartbeats 1000000 in
theorem c_laws_FnFindOrderWrites {w : World} {s : Sl} {bs : List UInt8} (hs : Bytes w s bs) (_ : s.cap ≤ maxLen) : CallR Try.prog 5 [.slice s.a s.len s.cap] w (fun v w' => v = .bool true ∧ Ext w w') := by
  refine fn_laws_FnFindOrderWrites _ _ _ ?_
  unfold g_laws_FnFindOrderWrites
  refine br_d (fun _ => ⟨rfl, Ext.refl _⟩) (fun _ => ?_)
  refine (c_spec_DrawFindOrder hs).mono ?_
  rintro _ w1 ⟨⟨l, xs, rfl, d⟩, e1⟩
  refine ⟨l, rfl, (c_impl_FindOrder d.ls).mono ?_⟩
  rintro _ w2 ⟨⟨l2, rfl, o2⟩, e2⟩
  refine ⟨l2, _, rfl, (c_spec_FindOrder (d.ls.ext e2) d.max).mono ?_⟩
  rintro _ w3 ⟨⟨l3, rfl, o3⟩, e3⟩
  have q2 := (o2.slOf cI_len (by decide)).ext e3
  have q3 := o3.slOf cI_len (by decide)
  have e03 := e1.trans (e2.trans e3)
  have d3 := (d.ls.ext e2).ext e3
  have hl0 := d.ls.len
  have hl7 := d.len
  refine ⟨l3, _, rfl, (c_laws_equalInts q2 q3 (shortI xs)).go fun w4 e4 => ⟨_, rfl, br_f (by simp) (br_f (by simp) (br_i (fun g => ?_) (fun g => ?_)))⟩⟩
  · exact (c_laws_equalInts (q2.ext e4) (q3.ext e4) (shortI xs)).go fun w5 e5 => ⟨_, rfl, br_t (by simp) ⟨by simp, (e03.trans e4).trans e5⟩⟩
  obtain ⟨r, hr⟩ := Option.isSome_iff_exists.1 (notf g)
  have hv := (findO_sound hr).1
  have e04 := e03.trans e4
  have d4 := d3.ext e4
  refine letW_i fun w5 hw5 => ?_
  have e5 : Ext w4 w5 := by rw [hw5]; exact (Ext.refl w4).alloc _
  have o5 : Own w4.heap.size 30 4 w5 ⟨some ⟨w4.heap.size, 0, none⟩, 0, 0⟩ (([] : List Cz).flatMap cC) := by rw [hw5]; exact Own.fresh w4 _ 4 _ (Nat.le_refl _)
  clear hw5
  refine sLoop_list xs (fun pre t w' => Ext w4 w' ∧ Own w4.heap.size 30 4 w' t.1 ((pre.filter fun c => c.2.2.1).flatMap cC)) ⟨e5, o5⟩ ?_ ?_
  · rintro K pre post c ⟨t, u⟩ w6 hx ⟨he, ho⟩ hK _
    have hm := mid_len hx
    have hb0 : ((0 : Int) ≤ pre.length ∧ (pre.length : Int) < (l.len : Int)) := ⟨by omega, by omega⟩
    obtain ⟨a, ha, c0, c1, c2, c3⟩ := cz_mid (d4.ext he) hx
    refine br_dt (by omega) (onSome_i ha ⟨hb0, _, c2, br_i (fun g1 => onSome_i ha ⟨hb0, _, c0, _, c1, _, c2, _, c3, ?_⟩) (fun g1 => ⟨inR_i64 (by omega) (by omega), hK _ _ ⟨he, ?_⟩⟩)⟩)
    · have hfl := List.length_filter_le (fun c : Cz => c.2.2.1) pre
      refine push1 (x := c) cC_len (by decide) (cC_one _) ho he.size (by omega) (by decide) (fun s' wm w' hl' o' em om hg => ⟨inR_i64 (by omega) (by omega), hK _ _ ⟨(he.trans em).own om hg (Nat.le_refl _), ?_⟩⟩)
      simpa [List.filter_append, g1] using o'
    · simpa [List.filter_append, g1] using ho
  · rintro K ⟨t, u⟩ w6 ⟨he, ho⟩ _
    refine br_df (by omega) ((c_impl_FindOrder (ho.slOf cC_len (by decide))).mono ?_)
    rintro _ w7 ⟨⟨l7, rfl, _⟩, e7⟩
    rw [findO_writes hv]
    refine ⟨l7, _, rfl, letW_i fun w8 hw8 => ?_⟩
    have e8 : Ext w7 w8 := by rw [hw8]; exact (Ext.refl w7).alloc _
    have r8 : Row w8 w7.heap.size (([(1, 2, false, 0)] : List Cz).flatMap cC) 30 := by rw [hw8]; exact Row.new w7 _ _
    refine (c_impl_FindOrder (s := ⟨some ⟨w7.heap.size, 0, none⟩, 1, 1⟩) (r8.slOf (cap := 1) (by simp))).mono ?_
    rintro _ w9 ⟨⟨l9, rfl, _⟩, e9⟩
    rw [one_read]
    refine ⟨l9, _, rfl, letW_i fun w10 hw10 => ?_⟩
    have e10 : Ext w9 w10 := by rw [hw10]; exact (Ext.refl w9).alloc _
    have r10 : Row w10 w9.heap.size (([(1, 2, false, 5)] : List Cz).flatMap cC) 30 := by rw [hw10]; exact Row.new w9 _ _
    refine (c_impl_FindOrder (s := ⟨some ⟨w9.heap.size, 0, none⟩, 1, 1⟩) (r10.slOf (cap := 1) (by simp))).mono ?_
    rintro _ w11 ⟨⟨l11, rfl, _⟩, e11⟩
    rw [one_bad]
    exact ⟨l11, _, rfl, br_t rfl (br_t rfl ⟨rfl, (((((e04.trans he).trans e7).trans e8).trans e9).trans e10).trans e11⟩)⟩

set_option maxHeartbeats 1000000 in
theorem c_laws_FnFindOrderReads {w : World} {s : Sl} {bs : List UInt8} (hs : Bytes w s bs) (_ : s.cap ≤ maxLen) : CallR Try.prog 3 [.slice s.a s.len s.cap] w (fun v w' => v = .bool true ∧ Ext w w') := by
  refine fn_laws_FnFindOrderReads _ _ _ ?_
  unfold g_laws_FnFindOrderReads
  refine br_d (fun _ => ⟨rfl, Ext.refl _⟩) (fun hsz => ?_)
  refine (c_spec_DrawFindOrder hs).mono ?_
  rintro _ w1 ⟨⟨l, xs, rfl, d⟩, e1⟩
  refine ⟨l, rfl, (c_impl_FindOrder d.ls).mono ?_⟩
  rintro _ w2 ⟨⟨l2, rfl, o2⟩, e2⟩
  refine ⟨l2, _, rfl, (c_spec_FindOrder (d.ls.ext e2) d.max).mono ?_⟩
  rintro _ w3 ⟨⟨l3, rfl, o3⟩, e3⟩
  have q2 := (o2.slOf cI_len (by decide)).ext e3
  have q3 := o3.slOf cI_len (by decide)
  have e03 := e1.trans (e2.trans e3)
  have hmod : (0 : Int) ≤ (s.len : Int) % 9 ∧ (s.len : Int) % 9 < 9 := by omega
  refine ⟨l3, _, rfl, (c_laws_equalInts q2 q3 (shortI xs)).go fun w4 e4 => ⟨_, rfl, br_f (by simp) (br_f (by simp) ⟨⟨by omega, by omega⟩, inR_i64 (by omega) (by omega), letW_i fun w5 hw5 => ?_⟩)⟩⟩
  have e04 := e03.trans e4
  generalize hn : (1 : Int) + (s.len : Int) % 9 = n at *
  have h1 : 1 ≤ n := by omega
  have h9 : n ≤ 9 := by omega
  have e5 : Ext w4 w5 := by rw [hw5]; exact (Ext.refl w4).alloc _
  have r5 : Row w5 w4.heap.size (([(1, 2, true, n), (3, 4, false, n)] : List Cz).flatMap cC) 30 := by rw [hw5]; exact Row.new w4 _ _
  refine (c_impl_FindOrder (s := ⟨some ⟨w4.heap.size, 0, none⟩, 2, 2⟩) (r5.slOf (cap := 2) (by simp))).mono ?_
  rintro _ w6 ⟨⟨l6, rfl, o6⟩, e6⟩
  rw [two_good h1 h9] at o6 ⊢
  refine ⟨l6, _, rfl, inR_i64 (by omega) (by omega), letW_i fun w7 hw7 => ?_⟩
  have e7 : Ext w6 w7 := by rw [hw7]; exact (Ext.refl w6).alloc _
  have r7 : Row w7 w6.heap.size (([(1, 2, true, n), (3, 4, false, n + 1)] : List Cz).flatMap cC) 30 := by rw [hw7]; exact Row.new w6 _ _
  refine (c_impl_FindOrder (s := ⟨some ⟨w6.heap.size, 0, none⟩, 2, 2⟩) (r7.slOf (cap := 2) (by simp))).mono ?_
  rintro _ w8 ⟨⟨l8, rfl, _⟩, e8⟩
  rw [two_bad h1 h9]
  refine ⟨l8, _, rfl, letW_i fun w9 hw9 => ?_⟩
  have e9 : Ext w8 w9 := by rw [hw9]; exact (Ext.refl w8).alloc _
  have r9 : Row w9 w8.heap.size (([(1, 3, true, n), (2, 4, false, 0)] : List Cz).flatMap cC) 30 := by rw [hw9]; exact Row.new w8 _ _
  refine (c_impl_FindOrder (s := ⟨some ⟨w8.heap.size, 0, none⟩, 2, 2⟩) (r9.slOf (cap := 2) (by simp))).mono ?_
  rintro _ w10 ⟨⟨l10, rfl, o10⟩, e10⟩
  rw [two_back h1 h9] at o10 ⊢
  have q6 : Ints w6 l6 [0, 1] := o6.slOf cI_len (by decide)
  have q10 : Ints w10 l10 [1, 0] := o10.slOf cI_len (by decide)
  have e610 := (e7.trans e8).trans (e9.trans e10)
  have e010 : Ext w w10 := ((e04.trans e5).trans e6).trans e610
  refine ⟨l10, _, rfl, br_t rfl (letW_i fun w11 hw11 => ?_)⟩
  have e11 : Ext w10 w11 := by rw [hw11]; exact (Ext.refl w10).alloc _
  have r11 : Row w11 w10.heap.size (([0, 1] : List Int).flatMap cI) 3 := by rw [hw11]; exact Row.new w10 _ _
  refine (c_laws_equalInts (t := ⟨some ⟨w10.heap.size, 0, none⟩, 2, 2⟩) ((q6.ext e610).ext e11) (r11.slOf (cap := 2) (by simp)) (by simp [maxLen])).go fun w12 e12 => ⟨_, rfl, br_t (by simp) (br_t rfl (br_t rfl (letW_i fun w13 hw13 => ?_)))⟩
  have e13 : Ext w12 w13 := by rw [hw13]; exact (Ext.refl w12).alloc _
  have r13 : Row w13 w12.heap.size (([1, 0] : List Int).flatMap cI) 3 := by rw [hw13]; exact Row.new w12 _ _
  refine (c_laws_equalInts (t := ⟨some ⟨w12.heap.size, 0, none⟩, 2, 2⟩) (((q10.ext e11).ext e12).ext e13) (r13.slOf (cap := 2) (by simp)) (by simp [maxLen])).go fun w14 e14 => ⟨_, rfl, by simp, (((e010.trans e11).trans e12).trans e13).trans e14⟩
end Go.Proofs
