/-
  What functions of this seat compute, part 'Lease3': contracts over their readable predicates. Conditions: each theorem's own hypotheses.
-/
import Derived.Test.YtcgmjkokkclciaaBase
import Derived.Test.YtcgmjkokkclciaaOpen
import Derived.Test.YtcgmjkokkclciaaGen
import Derived.Test.YtcgmjkokkclciaaCLease
import Derived.Test.YtcgmjkokkclciaaCLease2
import Derived.Test.YtcgmjkokkclciaaShelf
namespace Go.Proofs
open Go Go.Vc Go.RowKit
set_option maxRecDepth 100000
set_option linter.unusedVariables false
--! C:Lease C:Lease2 S
/-! ## Leases: the search -/

theorem cmp_lt : ∀ a b : List UInt8, (Lib.compareBytes a b < 0) ↔ Op.bytesLess a b = true
  | [], [] => by simp [Lib.compareBytes, Op.bytesLess]
  | [], _ :: _ => by simp [Lib.compareBytes, Op.bytesLess]
  | _ :: _, [] => by simp [Lib.compareBytes, Op.bytesLess]
  | a :: x, b :: y => by
    simp only [Lib.compareBytes, Op.bytesLess]
    by_cases h : a < b
    · simp [h]
    · by_cases k : b < a
      · have hne : a ≠ b := fun e => by subst e; exact UInt8.lt_irrefl _ k
        simp [h, k, hne]
      · have he : a = b := UInt8.le_antisymm (UInt8.not_lt.1 k) (UInt8.not_lt.1 h)
        subst he
        simp only [UInt8.lt_irrefl, if_false, decide_false, Bool.false_or, beq_self_eq_true, Bool.true_and]
        exact cmp_lt x y

theorem cmp_eq : ∀ a b : List UInt8, (Lib.compareBytes a b = 0) ↔ a = b
  | [], [] => by simp [Lib.compareBytes]
  | [], _ :: _ => by simp [Lib.compareBytes]
  | _ :: _, [] => by simp [Lib.compareBytes]
  | a :: x, b :: y => by
    simp only [Lib.compareBytes]
    by_cases h : a < b
    · have hne : a ≠ b := fun e => by subst e; exact UInt8.lt_irrefl _ h
      simp [h, hne]
    · by_cases k : b < a
      · have hne : a ≠ b := fun e => by subst e; exact UInt8.lt_irrefl _ k
        simp [h, k, hne]
      · have he : a = b := UInt8.le_antisymm (UInt8.not_lt.1 k) (UInt8.not_lt.1 h)
        subst he
        simp only [UInt8.lt_irrefl, if_false, List.cons.injEq, true_and]
        exact cmp_eq x y

theorem bytes_eq {a b : ByteArray} : a.data.toList = b.data.toList ↔ a = b := by
  constructor
  · intro h
    cases a; cases b
    simp only at h
    congr
    exact Array.ext' h
  · rintro rfl; rfl

theorem c_strings_Compare (a b : ByteArray) (w : World) : CallR Try.prog 64 [.string a, .string b] w (fun v w' => v = .int .i64 (Lib.compareBytes a.data.toList b.data.toList) ∧ Ext w w') :=
  .inl ⟨by kernel_rfl, (Try.strings_Compare a b w).mono fun e w' ⟨h1, h2⟩ => ⟨_, h1, rfl, by rw [h2]; exact Ext.refl _⟩⟩

theorem c_impl_findLease_1 (l : Lz) (name : ByteArray) (w : World) : CallR Try.prog 63 [.agg #[.string l.1, .int .i64 l.2.1, .int .i64 l.2.2], .string name] w (fun v w' => v = .int .i64 (Lib.compareBytes l.1.data.toList name.data.toList) ∧ Ext w w') := by
  refine fn_impl_findLease_1 _ _ _ _ _ _ ?_
  unfold g_impl_findLease_1
  refine letW_i fun w1 hw1 => ?_
  have e1 : Ext w w1 := by rw [hw1]; exact (Ext.refl w).alloc _
  have r1 : Row w1 w.heap.size (cL l) 40 := by rw [hw1]; exact Row.new w (cL l) _
  exact ⟨_, r1.cell rfl, (c_strings_Compare _ _ _).go fun w2 e2 => ⟨_, rfl, rfl, e1.trans e2⟩⟩

/-- Where a name stands, or would. -/
structure Pos (xs : List Lz) (name : ByteArray) (i : Nat) : Prop where
  le : i ≤ xs.length
  lo : ∀ k l, k < i → xs[k]? = some l → sltB l.1 name = true
  hi : ∀ k l, i ≤ k → xs[k]? = some l → sltB l.1 name = false

def isAt (xs : List Lz) (name : ByteArray) (i : Nat) : Bool := match xs[i]? with | some l => decide (l.1 = name) | none => false

theorem ascL_lt : ∀ {xs : List Lz} {i j : Nat} {a b : Lz}, ascL xs = true → i < j → xs[i]? = some a → xs[j]? = some b → sltB a.1 b.1 = true
  | [], _, _, _, _, _, _, h, _ => by simp at h
  | [x], i, j, a, b, _, hij, hi, hj => by
    have h1 := (List.getElem?_eq_some_iff.1 hj).1
    simp at h1
    omega
  | x :: y :: r, i, 0, a, b, _, hij, _, _ => by omega
  | x :: y :: r, 0, 1, a, b, h, _, hi, hj => by
    simp only [ascL, Bool.and_eq_true] at h
    simp at hi hj
    subst hi hj
    exact h.1
  | x :: y :: r, 0, j + 2, a, b, h, _, hi, hj => by
    simp only [ascL, Bool.and_eq_true] at h
    simp at hi
    subst hi
    exact slt_trans h.1 (ascL_lt (i := 0) (j := j + 1) h.2 (by omega) rfl (by simpa using hj))
  | x :: y :: r, i + 1, j + 1, a, b, h, hij, hi, hj => by
    simp only [ascL, Bool.and_eq_true] at h
    exact ascL_lt (i := i) (j := j) h.2 (by omega) (by simpa using hi) (by simpa using hj)

theorem fdiv2 (n : Nat) : Int.fdiv (n : Int) (2 ^ (min (1 : Int).toNat (IntKind.bits .u64))) = ((n / 2 : Nat) : Int) := by
  show Int.fdiv (n : Int) 2 = _
  rw [Int.fdiv_eq_ediv_of_nonneg _ (by omega)]
  rfl

theorem inR_u64 {n : Int} (h1 : 0 ≤ n) (h2 : n ≤ 9223372036854775807) : InR .u64 n := by
  unfold InR
  simp [IntKind.wrap, IntKind.signed, IntKind.bits]
  omega

theorem lz_at {w : World} {s : Sl} {xs : List Lz} {i : Nat} {x : Lz} (h : Leases w s xs) (hx : xs[i]? = some x) : ∃ a, s.a = some a ∧
    w.cell? ((a.add ((i : Int).toNat * 3)).add 0) = some (.string x.1) ∧ w.cell? ((a.add ((i : Int).toNat * 3)).add 1) = some (.int .i64 x.2.1) ∧ w.cell? ((a.add ((i : Int).toNat * 3)).add 2) = some (.int .i64 x.2.2) := by
  obtain ⟨a, ha, h0⟩ := h.cell cL_len hx (j := 0) rfl
  obtain ⟨b, hb, h1⟩ := h.cell cL_len hx (j := 1) rfl
  obtain ⟨c, hc, h2⟩ := h.cell cL_len hx (j := 2) rfl
  rw [ha] at hb hc
  obtain rfl := Option.some.inj hb
  obtain rfl := Option.some.inj hc
  exact ⟨a, ha, h0, h1, h2⟩

theorem c_slices_BinarySearchFunc {w : World} {s : Sl} {xs : List Lz} (name : ByteArray) (h : Leases w s xs) (hl : xs.length ≤ 1000000000) (hasc : ascL xs = true) :
    CallR Try.prog 62 [.slice s.a s.len s.cap, .string name, .func (.func 63) #[] #[]] w (fun v w' => ∃ i : Nat, v = .tuple #[.int .i64 i, .bool (isAt xs name i)] ∧ Pos xs name i ∧ Ext w w') := by
  refine fn_slices_BinarySearchFunc _ _ _ _ _ ?_
  unfold g_slices_BinarySearchFunc
  have hl0 := h.len
  refine sLoop.intro (fun st w' => ∃ i j : Nat, st = ((i : Int), (j : Int), ()) ∧ i ≤ j ∧ j ≤ xs.length ∧ (∀ k l, k < i → xs[k]? = some l → sltB l.1 name = true) ∧ (∀ k l, j ≤ k → xs[k]? = some l → sltB l.1 name = false) ∧ Ext w w')
    (fun st _ => (st.2.1 - st.1).toNat) ⟨0, xs.length, by rw [hl0]; rfl, Nat.zero_le _, Nat.le_refl _, fun k l hk => by omega, fun k l hk hx => by
      have := (List.getElem?_eq_some_iff.1 hx).1; omega, Ext.refl _⟩ ?_
  rintro _ w1 K ⟨i, j, rfl, hij, hjl, hlo, hhi, he⟩ hK _
  simp only
  refine br_d (fun g1 => ?_) (fun g1 => ?_)
  · have hij' : i < j := by omega
    rw [show ((i : Int) + (j : Int)) = ((i + j : Nat) : Int) by simp, fdiv2]
    have hm1 : (i + j) / 2 < j := by omega
    have hm2 : i ≤ (i + j) / 2 := by omega
    generalize (i + j) / 2 = m at *
    obtain ⟨x, hx⟩ : ∃ x, xs[m]? = some x := ⟨xs[m]'(by omega), List.getElem?_eq_getElem (by omega)⟩
    obtain ⟨a, hsa, c0, c1, c2⟩ := lz_at (h.ext he) hx
    refine ⟨inR_i64 (by omega) (by omega), inR_u64 (by omega) (by omega), by omega, inR_i64 (by omega) (by omega), onSome_i hsa ⟨⟨by omega, by omega⟩, _, c0, _, c1, _, c2, ?_⟩⟩
    refine (c_impl_findLease_1 x name w1).go fun w2 e2 => ⟨_, rfl, br_d (fun g2 => ⟨inR_i64 (by omega) (by omega), ?_⟩) (fun g2 => ?_)⟩
    · have hlt : sltB x.1 name = true := by
        have := (cmp_lt _ _).1 g2
        unfold sltB; rw [toList_eq, toList_eq]; exact this
      refine hK _ _ ⟨m + 1, j, by simp, by omega, hjl, fun k l hk hx' => ?_, hhi, he.trans e2⟩ (by simp; omega)
      by_cases hkm : k = m
      · subst hkm; rw [hx] at hx'; obtain rfl := Option.some.inj hx'; exact hlt
      · exact slt_trans (ascL_lt hasc (show k < m by omega) hx' hx) hlt
    · have hge : sltB x.1 name = false := by
        cases hb : sltB x.1 name with
        | false => rfl
        | true =>
          exfalso
          apply g2
          apply (cmp_lt _ _).2
          have := hb
          unfold sltB at this; rw [toList_eq, toList_eq] at this; exact this
      refine hK _ _ ⟨i, m, rfl, hm2, by omega, hlo, fun k l hk hx' => ?_, he.trans e2⟩ (by simp; omega)
      by_cases hkm : k = m
      · subst hkm; rw [hx] at hx'; obtain rfl := Option.some.inj hx'; exact hge
      · cases hb : sltB l.1 name with
        | false => rfl
        | true =>
          have := slt_trans (ascL_lt hasc (show m < k by omega) hx hx') hb
          rw [hge] at this; cases this
  · have hij' : i = j := by omega
    subst hij'
    have hpos : Pos xs name i := ⟨hjl, hlo, hhi⟩
    refine br_d (fun g2 => ?_) (fun g2 => ⟨i, ?_, hpos, he⟩)
    · obtain ⟨x, hx⟩ : ∃ x, xs[i]? = some x := ⟨xs[i]'(by omega), List.getElem?_eq_getElem (by omega)⟩
      obtain ⟨a, hsa, c0, c1, c2⟩ := lz_at (h.ext he) hx
      refine onSome_i hsa ⟨⟨by omega, by omega⟩, _, c0, _, c1, _, c2, ?_⟩
      refine (c_impl_findLease_1 x name w1).go fun w2 e2 => ⟨_, rfl, i, ?_, hpos, he.trans e2⟩
      have : isAt xs name i = decide (x.1 = name) := by simp [isAt, hx]
      have e : (Lib.compareBytes x.1.data.toList name.data.toList == 0) = decide (x.1 = name) := by
        rw [Bool.eq_iff_iff, beq_iff_eq, decide_eq_true_iff, cmp_eq, bytes_eq]
      rw [this, e]
    · have : isAt xs name i = false := by
        have : xs[i]? = none := List.getElem?_eq_none (by omega)
        simp [isAt, this]
      rw [this]

theorem c_impl_findLease {w : World} {s : Sl} {xs : List Lz} (name : ByteArray) (h : Leases w s xs) (hl : xs.length ≤ 1000000000) (hasc : ascL xs = true) :
    CallR Try.prog 50 [.slice s.a s.len s.cap, .string name] w (fun v w' => ∃ i : Nat, v = .tuple #[.int .i64 i, .bool (isAt xs name i)] ∧ Pos xs name i ∧ Ext w w') := by
  refine fn_impl_findLease _ _ _ _ ?_
  unfold g_impl_findLease
  refine (c_slices_BinarySearchFunc name h hl hasc).mono ?_
  rintro _ w1 ⟨i, rfl, hp, he⟩
  exact ⟨_, _, rfl, i, rfl, hp, he⟩

theorem hold_eq {xs : List Lz} {name : ByteArray} {now : Int} {i : Nat} (hasc : ascL xs = true) (hp : Pos xs name i) :
    hold xs name now = (match xs[i]? with | some l => if l.1 = name ∧ now < l.2.2 then l.2.1 else 0 | none => 0) := by
  have only : ∀ k l, xs[k]? = some l → l.1 = name → k = i := fun k l hk hn => by
    rcases Nat.lt_trichotomy k i with h | h | h
    · have := hp.lo k l h hk
      rw [hn, slt_irrefl] at this; cases this
    · exact h
    · exfalso
      have hlt : i < xs.length := by have := (List.getElem?_eq_some_iff.1 hk).1; omega
      have h1 := ascL_lt hasc h (List.getElem?_eq_getElem hlt) hk
      rw [hn] at h1
      have h2 := hp.hi i xs[i] (Nat.le_refl _) (List.getElem?_eq_getElem hlt)
      rw [h1] at h2; cases h2
  unfold hold
  cases hf : xs.find? fun l => decide (l.1 = name) && decide (now < l.2.2) with
  | some l =>
    have hm := List.mem_of_find?_eq_some hf
    have hpp := List.find?_some hf
    simp only [Bool.and_eq_true, decide_eq_true_eq] at hpp
    obtain ⟨k, hk⟩ := List.getElem?_of_mem hm
    obtain rfl := only k l hk hpp.1
    rw [hk]
    simp [hpp]
  | none =>
    have hn := List.find?_eq_none.1 hf
    cases hx : xs[i]? with
    | none => rfl
    | some l =>
      have := hn l (List.mem_of_getElem? hx)
      simp only [Bool.and_eq_true, decide_eq_true_eq] at this
      simp only [if_neg this]

theorem c_impl_HolderOf {w : World} {s : Sl} {xs : List Lz} (name : ByteArray) (now : Int) (h : Leases w s xs) :
    CallR Try.prog 25 [.slice s.a s.len s.cap, .string name, .int .i64 now] w (fun v w' => v = .int .i64 (holderOf xs name now) ∧ Ext w w') := by
  refine fn_impl_HolderOf _ _ _ _ _ ?_
  unfold g_impl_HolderOf
  have hl0 := h.len
  refine (c_impl_ValidLeases h).go fun w1 e1 => ⟨_, rfl, br_i (fun g1 => ?_) (fun g1 => ?_)⟩
  · have : vLs xs = false := nott g1
    exact ⟨by simp [holderOf, this], e1⟩
  have v1 : vLs xs = true := notf g1
  refine (c_impl_isTime _ _).go fun w2 e2 => ⟨_, rfl, br_i (fun g2 => ?_) (fun g2 => ?_)⟩
  · have : inT now = false := nott g2
    exact ⟨by simp [holderOf, this], e1.trans e2⟩
  have v2 : inT now = true := notf g2
  have hq := v1
  simp only [vLs, Bool.and_eq_true, decide_eq_true_eq] at hq
  refine (c_impl_findLease name ((h.ext e1).ext e2) (by omega) hq.1.2).mono ?_
  rintro _ w3 ⟨i, rfl, hp, e3⟩
  have e03 := (e1.trans e2).trans e3
  have hh : holderOf xs name now = hold xs name now := by simp [holderOf, v1, v2]
  rw [hh, hold_eq hq.1.2 hp]
  refine ⟨_, _, rfl, ?_⟩
  cases hx : xs[i]? with
  | none =>
    have : isAt xs name i = false := by simp [isAt, hx]
    rw [this]
    exact ⟨rfl, e03⟩
  | some l =>
    have : isAt xs name i = decide (l.1 = name) := by simp [isAt, hx]
    rw [this]
    have hi := (List.getElem?_eq_some_iff.1 hx).1
    obtain ⟨a, hsa, c0, c1, c2⟩ := lz_at (h.ext e03) hx
    refine br_i (fun g3 => ⟨by have := of_decide_eq_false (nott g3); simp [this], e03⟩) (fun g3 => ?_)
    have g3' := of_decide_eq_true (notf g3)
    refine onSome_i hsa ⟨⟨by omega, by omega⟩, _, c2, br_d (fun g4 => ⟨by have : ¬ now < l.2.2 := by omega
                                                                          simp [this], e03⟩) (fun g4 => onSome_i hsa ⟨⟨by omega, by omega⟩, _, c1, ?_, e03⟩)⟩
    have : now < l.2.2 := by omega
    simp [g3', this]
end Go.Proofs
