/-
  What functions of this seat compute, part 'LeaseLaws2': contracts over their readable predicates. Conditions: each theorem's own hypotheses.
-/
import Derived.Test.YtcgmjkokkclciaaBase
import Derived.Test.YtcgmjkokkclciaaOpen
import Derived.Test.YtcgmjkokkclciaaGen
import Derived.Test.YtcgmjkokkclciaaCLease
import Derived.Test.YtcgmjkokkclciaaCLease2
import Derived.Test.YtcgmjkokkclciaaCLease3
import Derived.Test.YtcgmjkokkclciaaCLease4
import Derived.Test.YtcgmjkokkclciaaCLease5
import Derived.Test.YtcgmjkokkclciaaCLease6
import Derived.Test.YtcgmjkokkclciaaCLeaseHelp
namespace Go.Proofs
open Go Go.Vc Go.RowKit
set_option maxRecDepth 100000
set_option linter.unusedVariables false
--! C:Lease C:Lease2 C:Lease3 C:Lease4 C:Lease5 C:Lease6 C:LeaseHelp
/-! ## Leases: the laws on lists that are handed back -/

theorem takeL_short (xs : List Lz) (name : ByteArray) (owner now span : Int) : ((takeL xs name owner now span).getD []).length ≤ 10 := by
  unfold takeL
  split
  · rename_i h; exact (vLs_parts h.2.2).2.2
  · simp

theorem giveL_short (xs : List Lz) (name : ByteArray) (owner now : Int) : ((giveL xs name owner now).getD []).length ≤ 10 := by
  unfold giveL
  split
  · rename_i h
    have hv := holderOf_valid (xs := xs) (name := name) (now := now) (by rw [h.1]; exact h.2)
    exact Nat.le_trans (List.length_filter_le _ _) (vLs_parts hv.1).2.2
  · simp

theorem live_short (xs : List Lz) (now : Int) : (if vLs xs = true ∧ inT now = true then xs.filter (live now) else []).length ≤ 10 := by
  split
  · rename_i h; exact Nat.le_trans (List.length_filter_le _ _) (vLs_parts h.1).2.2
  · simp

set_option maxHeartbeats 2000000 in
theorem c_laws_FnExactLiveLeases {w : World} {s : Sl} {xs : List Lz} (h : Leases w s xs) (hc : s.cap ≤ maxLen) (hs : ∀ x ∈ xs, x.1.size ≤ maxLen) (now : Int) (_ : (Lit.int .i64 now).wf = true) :
    CallR Try.prog 6 [.slice s.a s.len s.cap, .int .i64 now] w (fun v w' => v = .bool true ∧ Ext w w') := by
  refine fn_laws_FnExactLiveLeases _ _ _ _ ?_
  unfold g_laws_FnExactLiveLeases
  have m1 : xs.length ≤ maxLen := by rw [← h.len]; exact Nat.le_trans h.cap hc
  refine (c_laws_szLeaseS _ h (by omega) (by omega) m1 hs).mono ?_
  rintro _ w1 ⟨hv, e1⟩
  rcases hv with rfl | ⟨rfl, hpos⟩
  · exact ⟨_, rfl, br_dt (by omega) ⟨rfl, e1⟩⟩
  have z1 := sizeL_nonneg xs
  have b1 : xs.length ≤ 1048576 := by omega
  obtain ⟨R, hR⟩ : ∃ R : List Lz, (if vLs xs = true ∧ inT now = true then xs.filter (live now) else []) = R := ⟨_, rfl⟩
  have bR : R.length ≤ 1048576 := by
    rw [← hR]
    have := live_short xs now
    omega
  refine ⟨_, rfl, br_df (by omega) (toL (h.ext e1) b1 fun x0 w2 _ h2 _ e2 => ⟨x0, rfl, ?_⟩)⟩
  have e02 := e1.trans e2
  refine (c_spec_LiveLeases now h2 m1 hs).mono ?_
  rintro _ w3 ⟨l3, rfl, o3, e3⟩
  unfold LiveR at o3
  rw [hR] at o3
  refine ⟨l3, rfl, ?_⟩
  have e03 := e02.trans e3
  refine toLo (h.ext e03) b1 fun x1 w4 hx1 h4 r4 q4 e4 => ⟨x1, rfl, ?_⟩
  have e04 := e03.trans e4
  refine (c_impl_LiveLeases now h4).mono ?_
  rintro _ w5 ⟨l5, rfl, o5, e5⟩
  unfold LiveR at o5
  rw [hR] at o5
  refine ⟨l5, rfl, ?_⟩
  have e05 := e04.trans e5
  have lt34 : w2.heap.size ≤ w3.heap.size := e3.size
  have lt45 : w3.heap.size < w4.heap.size := r4.lt
  have s3 : Leases w5 l3 R := ((o3.slOf cL_len (by decide)).ext e4).ext e5
  have a3 : ∀ a, l3.a = some a → a.block < w3.heap.size := fun a ha => (o3.lt a.block (by simp [Sl.v, Value.ownBlock, ha])).2
  have a5 : ∀ a, l5.a = some a → w4.heap.size ≤ a.block := fun a ha => (o5.lt a.block (by simp [Sl.v, Value.ownBlock, ha])).1
  have hl4 := h4.len
  have o4 : Own w.heap.size 40 3 w5 x1 (xs.flatMap cL) := (q4.base_le e03.size).ext e5
  refine (c_laws_eqLeaseS (o5.slOf cL_len (by decide)) s3 (by unfold maxLen; omega)).go fun w6 e6 => ⟨_, rfl, br_f (by simp) ?_⟩
  have e06 := e05.trans e6
  refine toL (h.ext e06) b1 fun x2 w7 _ h7 _ e7 => ⟨x2, rfl, ?_⟩
  have e07 := e06.trans e7
  have e57 := e6.trans e7
  refine (c_laws_eqLeaseS (((o4.ext e6).slOf cL_len (by decide)).ext e7) h7 m1).go fun w8 e8 => ⟨_, rfl, br_f (by simp) ?_⟩
  have e58 := e57.trans e8
  have e08 := e05.trans e58
  refine (c_laws_markLeaseS 1 (o4.ext e58) (by omega) (by omega) b1 e08.size).mono ?_
  rintro _ w9 ⟨rfl, _, g9⟩
  have e09 : Ext w w9 := e08.own (o4.ext e58) g9 (Nat.le_refl _)
  have hb1 : x1.v.ownBlock = some w3.heap.size := by simp [Sl.v, Value.ownBlock, hx1]
  have s3' : Leases w9 l3 R := (s3.ext e58).grown g9 fun a ha hk => by
    rw [hb1] at hk
    have := a3 a ha
    have := Option.some.inj hk
    omega
  have o9 : Own w4.heap.size 40 3 w9 l5 (R.flatMap cL) := (o5.ext e58).kept g9 (by
    rw [hb1]
    cases hv : l5.a with
    | none => left; simp [Sl.v, Value.ownBlock, hv]
    | some a =>
      right
      have := a5 a hv
      simp only [Sl.v, Value.ownBlock, hv, ne_eq, Option.some.injEq]
      omega)
  refine ⟨_, rfl, br_df (by omega) ?_⟩
  refine (c_laws_eqLeaseS (o9.slOf cL_len (by decide)) s3' (by unfold maxLen; omega)).go fun w10 e10 => ⟨_, rfl, br_f (by simp) ?_⟩
  have e010 := e09.trans e10
  have o10 := o9.ext e10
  have hsz10 : w4.heap.size ≤ w10.heap.size := Nat.le_trans (Nat.le_trans e5.size e58.size) (Nat.le_trans g9.size e10.size)
  refine (c_laws_markLeaseS 1 o10 (by omega) (by omega) bR hsz10).mono ?_
  rintro _ w11 ⟨rfl, o11, g11⟩
  have e011 : Ext w w11 := e010.own o10 g11 e04.size
  have s3'' : Leases w11 l3 R := (s3'.ext e10).grown g11 fun a ha hk => by
    have h1 := a3 a ha
    have h2 := (o10.lt _ hk.symm).1
    omega
  have m11 := o11.slOf cL_len (by decide)
  refine ⟨_, rfl, (c_laws_heldLeaseS 1 m11 (by omega) (by omega) bR).go fun w12 e12 => ⟨_, rfl, br_df (by omega) (br_f (by simp) ?_)⟩⟩
  have e012 := e011.trans e12
  refine toL (h.ext e012) b1 fun x3 w13 _ h13 _ e13 => ⟨x3, rfl, ?_⟩
  have e013 := e012.trans e13
  refine (c_impl_LiveLeases now h13).mono ?_
  rintro _ w14 ⟨l14, rfl, o14, e14⟩
  unfold LiveR at o14
  rw [hR] at o14
  refine ⟨l14, rfl, ?_⟩
  have e014 := e013.trans e14
  refine (c_laws_eqLeaseS (o14.slOf cL_len (by decide)) ((s3''.ext (e12.trans e13)).ext e14) (by unfold maxLen; omega)).go fun w15 e15 => ⟨_, rfl, br_f (by simp) ?_⟩
  have e015 := e014.trans e15
  refine (c_laws_heldLeaseS 1 ((m11.ext (e12.trans e13)).ext (e14.trans e15)) (by omega) (by omega) bR).go fun w16 e16 => ⟨_, rfl, br_df (by omega) (br_f (by simp) ⟨rfl, e015.trans e16⟩)⟩

set_option maxHeartbeats 2000000 in
theorem c_laws_FnExactGiveLease {w : World} {s : Sl} {xs : List Lz} (h : Leases w s xs) (hc : s.cap ≤ maxLen) (hs : ∀ x ∈ xs, x.1.size ≤ maxLen) (name : ByteArray) (_ : name.size ≤ maxLen) (owner : Int) (_ : (Lit.int .i64 owner).wf = true) (now : Int) (_ : (Lit.int .i64 now).wf = true) :
    CallR Try.prog 10 [.slice s.a s.len s.cap, .string name, .int .i64 owner, .int .i64 now] w (fun v w' => v = .bool true ∧ Ext w w') := by
  refine fn_laws_FnExactGiveLease _ _ _ _ _ _ ?_
  unfold g_laws_FnExactGiveLease
  have m1 : xs.length ≤ maxLen := by rw [← h.len]; exact Nat.le_trans h.cap hc
  refine br_d (fun _ => ⟨rfl, Ext.refl _⟩) (fun _ => ?_)
  refine (c_laws_szLeaseS _ h (by omega) (by omega) m1 hs).mono ?_
  rintro _ w1 ⟨hv, e1⟩
  rcases hv with rfl | ⟨rfl, hpos⟩
  · exact ⟨_, rfl, br_dt (by omega) ⟨rfl, e1⟩⟩
  have z1 := sizeL_nonneg xs
  have b1 : xs.length ≤ 1048576 := by omega
  obtain ⟨R, hR⟩ : ∃ R : List Lz, (giveL xs name owner now).getD [] = R := ⟨_, rfl⟩
  have bR : R.length ≤ 1048576 := by
    rw [← hR]
    have := giveL_short xs name owner now
    omega
  refine ⟨_, rfl, br_df (by omega) (toL (h.ext e1) b1 fun x0 w2 _ h2 _ e2 => ⟨x0, rfl, ?_⟩)⟩
  have e02 := e1.trans e2
  refine (c_spec_GiveLease name owner now h2 m1 hs).mono ?_
  rintro _ w3 ⟨⟨l3, rfl, o3⟩, e3⟩
  rw [hR] at o3
  refine ⟨l3, _, rfl, ?_⟩
  have e03 := e02.trans e3
  refine toLo (h.ext e03) b1 fun x1 w4 hx1 h4 r4 q4 e4 => ⟨x1, rfl, ?_⟩
  have e04 := e03.trans e4
  refine (c_impl_GiveLease name owner now h4).mono ?_
  rintro _ w5 ⟨⟨l5, rfl, o5⟩, e5⟩
  rw [hR] at o5
  refine ⟨l5, _, rfl, ?_⟩
  have e05 := e04.trans e5
  have lt34 : w2.heap.size ≤ w3.heap.size := e3.size
  have lt45 : w3.heap.size < w4.heap.size := r4.lt
  have s3 : Leases w5 l3 R := ((o3.slOf cL_len (by decide)).ext e4).ext e5
  have a3 : ∀ a, l3.a = some a → a.block < w3.heap.size := fun a ha => (o3.lt a.block (by simp [Sl.v, Value.ownBlock, ha])).2
  have a5 : ∀ a, l5.a = some a → w4.heap.size ≤ a.block := fun a ha => (o5.lt a.block (by simp [Sl.v, Value.ownBlock, ha])).1
  have hl4 := h4.len
  have o4 : Own w.heap.size 40 3 w5 x1 (xs.flatMap cL) := (q4.base_le e03.size).ext e5
  refine (c_laws_eqLeaseS (o5.slOf cL_len (by decide)) s3 (by unfold maxLen; omega)).go fun w6 e6 => ⟨_, rfl, br_f (by simp) (br_f (by simp) ?_)⟩
  have e06 := e05.trans e6
  refine toL (h.ext e06) b1 fun x2 w7 _ h7 _ e7 => ⟨x2, rfl, ?_⟩
  have e07 := e06.trans e7
  have e57 := e6.trans e7
  refine (c_laws_eqLeaseS (((o4.ext e6).slOf cL_len (by decide)).ext e7) h7 m1).go fun w8 e8 => ⟨_, rfl, br_f (by simp) ?_⟩
  have e58 := e57.trans e8
  have e08 := e05.trans e58
  refine (c_laws_markLeaseS 1 (o4.ext e58) (by omega) (by omega) b1 e08.size).mono ?_
  rintro _ w9 ⟨rfl, _, g9⟩
  have e09 : Ext w w9 := e08.own (o4.ext e58) g9 (Nat.le_refl _)
  have hb1 : x1.v.ownBlock = some w3.heap.size := by simp [Sl.v, Value.ownBlock, hx1]
  have s3' : Leases w9 l3 R := (s3.ext e58).grown g9 fun a ha hk => by
    rw [hb1] at hk
    have := a3 a ha
    have := Option.some.inj hk
    omega
  have o9 : Own w4.heap.size 40 3 w9 l5 (R.flatMap cL) := (o5.ext e58).kept g9 (by
    rw [hb1]
    cases hv : l5.a with
    | none => left; simp [Sl.v, Value.ownBlock, hv]
    | some a =>
      right
      have := a5 a hv
      simp only [Sl.v, Value.ownBlock, hv, ne_eq, Option.some.injEq]
      omega)
  refine ⟨_, rfl, br_df (by omega) ?_⟩
  refine (c_laws_eqLeaseS (o9.slOf cL_len (by decide)) s3' (by unfold maxLen; omega)).go fun w10 e10 => ⟨_, rfl, br_f (by simp) (br_f (by simp) ?_)⟩
  have e010 := e09.trans e10
  have o10 := o9.ext e10
  have hsz10 : w4.heap.size ≤ w10.heap.size := Nat.le_trans (Nat.le_trans e5.size e58.size) (Nat.le_trans g9.size e10.size)
  refine (c_laws_markLeaseS 1 o10 (by omega) (by omega) bR hsz10).mono ?_
  rintro _ w11 ⟨rfl, o11, g11⟩
  have e011 : Ext w w11 := e010.own o10 g11 e04.size
  have s3'' : Leases w11 l3 R := (s3'.ext e10).grown g11 fun a ha hk => by
    have h1 := a3 a ha
    have h2 := (o10.lt _ hk.symm).1
    omega
  have m11 := o11.slOf cL_len (by decide)
  refine ⟨_, rfl, (c_laws_heldLeaseS 1 m11 (by omega) (by omega) bR).go fun w12 e12 => ⟨_, rfl, br_df (by omega) (br_f (by simp) ?_)⟩⟩
  have e012 := e011.trans e12
  refine toL (h.ext e012) b1 fun x3 w13 _ h13 _ e13 => ⟨x3, rfl, ?_⟩
  have e013 := e012.trans e13
  refine (c_impl_GiveLease name owner now h13).mono ?_
  rintro _ w14 ⟨⟨l14, rfl, o14⟩, e14⟩
  rw [hR] at o14
  refine ⟨l14, _, rfl, ?_⟩
  have e014 := e013.trans e14
  refine (c_laws_eqLeaseS (o14.slOf cL_len (by decide)) ((s3''.ext (e12.trans e13)).ext e14) (by unfold maxLen; omega)).go fun w15 e15 => ⟨_, rfl, br_f (by simp) (br_f (by simp) ?_)⟩
  have e015 := e014.trans e15
  refine (c_laws_heldLeaseS 1 ((m11.ext (e12.trans e13)).ext (e14.trans e15)) (by omega) (by omega) bR).go fun w16 e16 => ⟨_, rfl, br_df (by omega) (br_f (by simp) ⟨rfl, e015.trans e16⟩)⟩

set_option maxHeartbeats 2000000 in
theorem c_laws_FnExactTakeLease {w : World} {s : Sl} {xs : List Lz} (h : Leases w s xs) (hc : s.cap ≤ maxLen) (hs : ∀ x ∈ xs, x.1.size ≤ maxLen) (name : ByteArray) (hn : name.size ≤ maxLen) (owner : Int) (_ : (Lit.int .i64 owner).wf = true) (now : Int) (_ : (Lit.int .i64 now).wf = true) (span : Int) (_ : (Lit.int .i64 span).wf = true) :
    CallR Try.prog 16 [.slice s.a s.len s.cap, .string name, .int .i64 owner, .int .i64 now, .int .i64 span] w (fun v w' => v = .bool true ∧ Ext w w') := by
  refine fn_laws_FnExactTakeLease _ _ _ _ _ _ _ ?_
  unfold g_laws_FnExactTakeLease
  have m1 : xs.length ≤ maxLen := by rw [← h.len]; exact Nat.le_trans h.cap hc
  refine br_d (fun _ => ⟨rfl, Ext.refl _⟩) (fun _ => ?_)
  refine (c_laws_szLeaseS _ h (by omega) (by omega) m1 hs).mono ?_
  rintro _ w1 ⟨hv, e1⟩
  rcases hv with rfl | ⟨rfl, hpos⟩
  · exact ⟨_, rfl, br_dt (by omega) ⟨rfl, e1⟩⟩
  have z1 := sizeL_nonneg xs
  have b1 : xs.length ≤ 1048576 := by omega
  obtain ⟨R, hR⟩ : ∃ R : List Lz, (takeL xs name owner now span).getD [] = R := ⟨_, rfl⟩
  have bR : R.length ≤ 1048576 := by
    rw [← hR]
    have := takeL_short xs name owner now span
    omega
  refine ⟨_, rfl, br_df (by omega) (toL (h.ext e1) b1 fun x0 w2 _ h2 _ e2 => ⟨x0, rfl, ?_⟩)⟩
  have e02 := e1.trans e2
  refine (c_spec_TakeLease name owner now span h2 m1 hs hn).mono ?_
  rintro _ w3 ⟨⟨l3, rfl, o3⟩, e3⟩
  rw [hR] at o3
  refine ⟨l3, _, rfl, ?_⟩
  have e03 := e02.trans e3
  refine toLo (h.ext e03) b1 fun x1 w4 hx1 h4 r4 q4 e4 => ⟨x1, rfl, ?_⟩
  have e04 := e03.trans e4
  refine (c_impl_TakeLease name owner now span h4).mono ?_
  rintro _ w5 ⟨⟨l5, rfl, o5⟩, e5⟩
  rw [hR] at o5
  refine ⟨l5, _, rfl, ?_⟩
  have e05 := e04.trans e5
  have lt34 : w2.heap.size ≤ w3.heap.size := e3.size
  have lt45 : w3.heap.size < w4.heap.size := r4.lt
  have s3 : Leases w5 l3 R := ((o3.slOf cL_len (by decide)).ext e4).ext e5
  have a3 : ∀ a, l3.a = some a → a.block < w3.heap.size := fun a ha => (o3.lt a.block (by simp [Sl.v, Value.ownBlock, ha])).2
  have a5 : ∀ a, l5.a = some a → w4.heap.size ≤ a.block := fun a ha => (o5.lt a.block (by simp [Sl.v, Value.ownBlock, ha])).1
  have hl4 := h4.len
  have o4 : Own w.heap.size 40 3 w5 x1 (xs.flatMap cL) := (q4.base_le e03.size).ext e5
  refine (c_laws_eqLeaseS (o5.slOf cL_len (by decide)) s3 (by unfold maxLen; omega)).go fun w6 e6 => ⟨_, rfl, br_f (by simp) (br_f (by simp) ?_)⟩
  have e06 := e05.trans e6
  refine toL (h.ext e06) b1 fun x2 w7 _ h7 _ e7 => ⟨x2, rfl, ?_⟩
  have e07 := e06.trans e7
  have e57 := e6.trans e7
  refine (c_laws_eqLeaseS (((o4.ext e6).slOf cL_len (by decide)).ext e7) h7 m1).go fun w8 e8 => ⟨_, rfl, br_f (by simp) ?_⟩
  have e58 := e57.trans e8
  have e08 := e05.trans e58
  refine (c_laws_markLeaseS 1 (o4.ext e58) (by omega) (by omega) b1 e08.size).mono ?_
  rintro _ w9 ⟨rfl, _, g9⟩
  have e09 : Ext w w9 := e08.own (o4.ext e58) g9 (Nat.le_refl _)
  have hb1 : x1.v.ownBlock = some w3.heap.size := by simp [Sl.v, Value.ownBlock, hx1]
  have s3' : Leases w9 l3 R := (s3.ext e58).grown g9 fun a ha hk => by
    rw [hb1] at hk
    have := a3 a ha
    have := Option.some.inj hk
    omega
  have o9 : Own w4.heap.size 40 3 w9 l5 (R.flatMap cL) := (o5.ext e58).kept g9 (by
    rw [hb1]
    cases hv : l5.a with
    | none => left; simp [Sl.v, Value.ownBlock, hv]
    | some a =>
      right
      have := a5 a hv
      simp only [Sl.v, Value.ownBlock, hv, ne_eq, Option.some.injEq]
      omega)
  refine ⟨_, rfl, br_df (by omega) ?_⟩
  refine (c_laws_eqLeaseS (o9.slOf cL_len (by decide)) s3' (by unfold maxLen; omega)).go fun w10 e10 => ⟨_, rfl, br_f (by simp) (br_f (by simp) ?_)⟩
  have e010 := e09.trans e10
  have o10 := o9.ext e10
  have hsz10 : w4.heap.size ≤ w10.heap.size := Nat.le_trans (Nat.le_trans e5.size e58.size) (Nat.le_trans g9.size e10.size)
  refine (c_laws_markLeaseS 1 o10 (by omega) (by omega) bR hsz10).mono ?_
  rintro _ w11 ⟨rfl, o11, g11⟩
  have e011 : Ext w w11 := e010.own o10 g11 e04.size
  have s3'' : Leases w11 l3 R := (s3'.ext e10).grown g11 fun a ha hk => by
    have h1 := a3 a ha
    have h2 := (o10.lt _ hk.symm).1
    omega
  have m11 := o11.slOf cL_len (by decide)
  refine ⟨_, rfl, (c_laws_heldLeaseS 1 m11 (by omega) (by omega) bR).go fun w12 e12 => ⟨_, rfl, br_df (by omega) (br_f (by simp) ?_)⟩⟩
  have e012 := e011.trans e12
  refine toL (h.ext e012) b1 fun x3 w13 _ h13 _ e13 => ⟨x3, rfl, ?_⟩
  have e013 := e012.trans e13
  refine (c_impl_TakeLease name owner now span h13).mono ?_
  rintro _ w14 ⟨⟨l14, rfl, o14⟩, e14⟩
  rw [hR] at o14
  refine ⟨l14, _, rfl, ?_⟩
  have e014 := e013.trans e14
  refine (c_laws_eqLeaseS (o14.slOf cL_len (by decide)) ((s3''.ext (e12.trans e13)).ext e14) (by unfold maxLen; omega)).go fun w15 e15 => ⟨_, rfl, br_f (by simp) (br_f (by simp) ?_)⟩
  have e015 := e014.trans e15
  refine (c_laws_heldLeaseS 1 ((m11.ext (e12.trans e13)).ext (e14.trans e15)) (by omega) (by omega) bR).go fun w16 e16 => ⟨_, rfl, br_df (by omega) (br_f (by simp) ⟨rfl, e015.trans e16⟩)⟩
end Go.Proofs
