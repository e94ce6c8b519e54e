/-
  What functions of this seat compute, part 'Calls2': contracts over their readable predicates. Conditions: each theorem's own hypotheses.
-/
import Derived.Test.YtneehnkdgjijiaaBase
import Derived.Test.YtneehnkdgjijiaaOpen
import Derived.Test.YtneehnkdgjijiaaGen
import Derived.Test.YtneehnkdgjijiaaCCalls
namespace Go.Proofs
open Go Go.Vc Go.RowKit
set_option maxRecDepth 100000
set_option linter.unusedVariables false
--! C:Calls
/-! ## Orders checked -/

def castL (ks : List Nat) : List Int := ks.map fun (k : Nat) => (k : Int)

theorem castL_inj {a b : List Nat} (h : castL a = castL b) : a = b := by
  induction a generalizing b with
  | nil => cases b with
    | nil => rfl
    | cons y r => simp [castL] at h
  | cons x r ih =>
    cases b with
    | nil => simp [castL] at h
    | cons y r' =>
      simp only [castL, List.map_cons, List.cons.injEq] at h
      rw [ih h.2, show x = y by omega]

theorem castL_split {ks kp : List Nat} {e : Int} {post : List Int} (h : castL ks = castL kp ++ e :: post) : ∃ (k : Nat) (kq : List Nat), e = (k : Int) ∧ ks = kp ++ k :: kq ∧ post = castL kq := by
  obtain ⟨l1, l2, h1, h2, h3⟩ := List.map_eq_append_iff.1 h
  obtain rfl : l1 = kp := castL_inj h2
  cases l2 with
  | nil => simp at h3
  | cons k kq =>
    simp only [List.map_cons, List.cons.injEq] at h3
    exact ⟨k, kq, h3.1.symm, h1, h3.2.symm⟩

def IsO (ord : List Int) (n : Nat) : Prop := ∃ ks : List Nat, ord = castL ks ∧ ks.length = n ∧ ks.Nodup ∧ ∀ k ∈ ks, k < n

def seenB (ks : List Nat) (n : Nat) : List Value := (List.range n).map fun j => Value.bool (decide (j ∈ ks))

theorem seenB_len (ks : List Nat) (n : Nat) : (seenB ks n).length = n := by simp [seenB]
theorem seenB_get {ks : List Nat} {n j : Nat} (h : j < n) : (seenB ks n)[j]? = some (.bool (decide (j ∈ ks))) := by simp [seenB, h]
theorem seenB_nil (n : Nat) : seenB [] n = List.replicate n (.bool false) := by
  apply List.ext_getElem?
  intro i
  by_cases h : i < n
  · simp [seenB, h]
  · simp [seenB, h]
theorem seenB_set {ks : List Nat} {n k : Nat} (h : k < n) : (seenB ks n).set k (.bool true) = seenB (ks ++ [k]) n := by
  apply List.ext_getElem?
  intro i
  rw [List.getElem?_set]
  by_cases hi : i < n
  · rw [seenB_get hi, seenB_get hi, seenB_len]
    by_cases hk : k = i
    · subst hk; simp [h]
    · have : ¬ i = k := fun e => hk e.symm
      simp [hk, this]
  · have h1 : ∀ ks, (seenB ks n)[i]? = none := fun ks => List.getElem?_eq_none (by rw [seenB_len]; omega)
    rw [h1, h1]
    have : k ≠ i := by omega
    simp [this]

theorem bool_iff {b : Bool} {p : Prop} (h : b = true ↔ p) (b' : Bool) (h' : b' = true ↔ p) : b = b' := by
  cases b <;> cases b' <;> simp_all

theorem c_impl_isOrder {w : World} {s : Sl} {ord : List Int} (n : Nat) (h : Ints w s ord) (hn : n ≤ 1000) :
    CallR Try.prog 34 [.slice s.a s.len s.cap, .int .i64 n] w (fun v w' => (∃ b : Bool, v = .bool b ∧ (b = true ↔ IsO ord n)) ∧ Ext w w') := by
  refine fn_impl_isOrder _ _ _ _ ?_
  unfold g_impl_isOrder
  have hl0 := h.len
  refine br_i (fun g => ⟨⟨false, rfl, ?_⟩, Ext.refl _⟩) (fun g => ?_)
  · simp only [Bool.false_eq_true, false_iff]
    rintro ⟨ks, rfl, hk, _⟩
    simp [castL] at hl0
    simp at g
    omega
  have hln : ord.length = n := by simp at g; omega
  refine ⟨⟨by omega, by omega, by omega, by omega⟩, letW_i fun w1 hw1 => ?_⟩
  have e1 : Ext w w1 := by rw [hw1]; exact (Ext.refl w).alloc _
  have r1 : Row w1 w.heap.size (seenB [] n) 4 := by
    rw [hw1, madeCells_eq, Int.toNat_natCast, Nat.mul_one, seenB_nil]
    exact Row.new w _ _
  refine sLoop_list ord (fun pre _ w' => Ext w w' ∧ ∃ kp : List Nat, pre = castL kp ∧ kp.Nodup ∧ (∀ k ∈ kp, k < n) ∧ Row w' w.heap.size (seenB kp n) 4) ⟨e1, [], rfl, List.nodup_nil, by simp, r1⟩ ?_ ?_
  · rintro K pre post e t w2 hx ⟨he, kp, rfl, hnd, hlt, hr⟩ hK _
    have hm := mid_len hx
    have hbad : ∀ w', Ext w w' → (∀ (k : Nat) (kq : List Nat), e = (k : Int) → ord = castL (kp ++ k :: kq) → (kp ++ k :: kq).Nodup → k < n → False) → ((∃ b : Bool, Value.bool false = .bool b ∧ (b = true ↔ IsO ord n)) ∧ Ext w w') := fun w' e' hb => by
      refine ⟨⟨false, rfl, ?_⟩, e'⟩
      simp only [Bool.false_eq_true, false_iff]
      rintro ⟨ks, h1, h2, h3, h4⟩
      obtain ⟨k, kq, rfl, rfl, rfl⟩ := castL_split (h1.symm.trans hx)
      exact hb k kq rfl h1 h3 (h4 k (by simp))
    obtain ⟨a, hsa, c0⟩ := (h.ext he).im hx
    refine br_dt (by omega) (onSome_i hsa ⟨⟨by omega, by omega⟩, _, c0, br_d (fun g1 => hbad _ he (fun k _ hk _ _ _ => by omega)) (fun g1 => br_d (fun g2 => hbad _ he (fun k _ hk _ _ _ => by omega)) (fun g2 => ?_))⟩)
    obtain ⟨k, rfl⟩ : ∃ k : Nat, e = k := ⟨e.toNat, by omega⟩
    have hkn : k < n := by omega
    refine ⟨⟨by omega, by rw [Int.toNat_natCast]; omega⟩, _, by rw [at_idx1]; exact hr.cell (seenB_get hkn), br_d (fun g3 => hbad _ he (fun k' kq hk' _ hnd' _ => ?_)) (fun g3 => ⟨⟨by omega, by rw [Int.toNat_natCast]; omega⟩, by rw [at_idx1]; exact hr.wr (by rw [seenB_len]; exact hkn), letW_i fun w3 hw3 => ⟨inR_i64 (by omega) (by omega), ?_⟩⟩)⟩
    · obtain rfl : k = k' := by omega
      rw [List.nodup_append] at hnd'
      exact hnd'.2.2 k g3 k (by simp) rfl
    · have e3 : Ext w w3 := by rw [hw3]; exact he.set (by rw [at_idx1, add_b]; exact Nat.le_refl _) _
      have r3 : Row w3 w.heap.size (seenB (kp ++ [k]) n) 4 := by
        rw [hw3, at_idx1, ← seenB_set hkn]; exact hr.set k _
      refine hK _ _ ⟨e3, kp ++ [k], by simp [castL], ?_, ?_, r3⟩
      · rw [List.nodup_append]
        exact ⟨hnd, by simp, fun x hx9 y hy => by simp at hy; subst hy; exact fun e9 => g3 (e9 ▸ hx9)⟩
      · intro x hx'
        rcases List.mem_append.1 hx' with hx' | hx'
        · exact hlt x hx'
        · simp at hx'; omega
  · rintro K t w2 ⟨he, kp, hpre, hnd, hlt, hr⟩ _
    refine br_df (by omega) ⟨⟨true, rfl, ?_⟩, he⟩
    simp only [true_iff]
    exact ⟨kp, hpre, by rw [hpre] at hln; simpa [castL] using hln, hnd, hlt⟩

def CkO (xs : List Cz) (ord : List Int) : Prop := vCs xs = true ∧ ∃ ks : List Nat, ord = castL ks ∧ Good xs ks

theorem pairwise_split {α : Type} {R : α → α → Prop} : ∀ {l : List α}, (∀ p a q, l = p ++ a :: q → ∀ b ∈ q, R a b) → l.Pairwise R
  | [], _ => List.Pairwise.nil
  | a :: r, h => List.pairwise_cons.2 ⟨fun b hb => h [] a r rfl b hb, pairwise_split fun p x q hr b hb => h (a :: p) x q (by rw [hr]; rfl) b hb⟩

theorem pairwise_at {α : Type} {R : α → α → Prop} {l p q : List α} {a : α} (h : l.Pairwise R) (hl : l = p ++ a :: q) : ∀ b ∈ q, R a b := by
  subst hl
  rw [List.pairwise_append] at h
  exact (List.pairwise_cons.1 h.2.1).1

theorem vals_fail {xs : List Cz} {ks kp kq : List Nat} {k : Nat} {c : Cz} (hks : ks = kp ++ k :: kq) (hc : xs[k]? = some c) (hw : c.2.2.1 = false) (hv : c.2.2.2 ≠ valOf xs 0 kp) : vals xs 0 ks = false := by
  rw [hks, vals_append]
  simp [vals, hc, hw, hv]

theorem vals_step {xs : List Cz} {kp : List Nat} {k : Nat} {c : Cz} (hp : vals xs 0 kp = true) (hc : xs[k]? = some c) (hw : c.2.2.1 = true ∨ c.2.2.2 = valOf xs 0 kp) : vals xs 0 (kp ++ [k]) = true := by
  rw [vals_append, hp]
  rcases hw with hw | hw
  · simp [vals, hc, hw]
  · cases h : c.2.2.1 <;> simp [vals, hc, h, hw]

theorem valOf_step {xs : List Cz} {k : Nat} {c : Cz} (hc : xs[k]? = some c) : ∀ (a : List Nat) (v : Int), vals xs v a = true → valOf xs v (a ++ [k]) = if c.2.2.1 = true then c.2.2.2 else valOf xs v a := by
  intro a
  induction a with
  | nil => intro v _; simp [valOf, hc]
  | cons x r ih =>
    intro v hv
    simp only [List.cons_append, valOf]
    simp only [vals] at hv
    cases hx : xs[x]? with
    | none => rw [hx] at hv; cases hv
    | some d =>
      rw [hx] at hv
      simp only at hv ⊢
      by_cases hd : d.2.2.1 = true
      · rw [if_pos hd] at hv ⊢
        rw [ih _ hv, if_pos hd]
      · rw [if_neg hd] at hv ⊢
        simp only [Bool.and_eq_true] at hv
        rw [ih _ hv.2, if_neg hd]

theorem Good.isO {xs : List Cz} {ks : List Nat} (h : Good xs ks) : IsO (castL ks) xs.length := ⟨ks, rfl, h.len, h.nodup, h.lt⟩

theorem not_ck {xs : List Cz} {ks : List Nat} (h : ¬ Good xs ks) : (∃ b : Bool, Value.bool false = .bool b ∧ (b = true ↔ CkO xs (castL ks))) := by
  refine ⟨false, rfl, ?_⟩
  simp only [Bool.false_eq_true, false_iff]
  rintro ⟨_, ks', h1, h2⟩
  rw [← castL_inj h1] at h2
  exact h h2

set_option maxHeartbeats 1000000 in
theorem c_impl_CheckOrder {w : World} {s so : Sl} {xs : List Cz} {ord : List Int} (h : Calls4 w s xs) (ho : Ints w so ord) :
    CallR Try.prog 19 [.slice s.a s.len s.cap, .slice so.a so.len so.cap] w (fun v w' => (∃ b : Bool, v = .bool b ∧ (b = true ↔ CkO xs ord)) ∧ Ext w w') := by
  refine fn_impl_CheckOrder _ _ _ _ ?_
  unfold g_impl_CheckOrder
  have hl0 := h.len
  have hlo := ho.len
  refine (c_impl_areCalls h).go fun w1 e1 => ⟨_, rfl, br_i (fun g => ⟨⟨false, rfl, ?_⟩, e1⟩) (fun g => ?_)⟩
  · simp only [Bool.false_eq_true, false_iff]
    rintro ⟨hv, _⟩
    rw [hv] at g; cases g
  have hv := notf g
  have p := vCs_parts hv
  rw [hl0]
  refine (c_impl_isOrder xs.length (ho.ext e1) (by omega)).mono ?_
  rintro _ w2 ⟨⟨b, rfl, hb⟩, e2⟩
  refine ⟨_, rfl, br_i (fun g2 => ⟨⟨false, rfl, ?_⟩, e1.trans e2⟩) (fun g2 => ?_)⟩
  · simp only [Bool.false_eq_true, false_iff]
    rintro ⟨_, ks, rfl, hgd⟩
    have := hb.2 hgd.isO
    rw [this] at g2; cases g2
  obtain ⟨ks, rfl, hkl, hknd, hklt⟩ := hb.1 (notf g2)
  have e02 := e1.trans e2
  have hlk : so.len = ks.length := by rw [hlo]; simp [castL]
  refine sLoop_list ks (fun pre t w' => Ext w w' ∧ t.1 = valOf xs 0 pre ∧ vals xs 0 pre = true ∧ ∀ q1 a q2, ks = q1 ++ a :: q2 → q1.length < pre.length → ∀ b ∈ q2, ¬ til xs b < frm xs a) ⟨e02, rfl, rfl, fun _ _ _ _ hl => by simp at hl⟩ ?_ ?_
  · rintro K pre post k ⟨t, u⟩ w3 hx ⟨he, ht, hvp, hR⟩ hK _
    have hm := mid_len hx
    simp only at ht
    subst ht
    have hkn : k < xs.length := hklt k (by rw [hx]; simp)
    obtain ⟨c, hc⟩ : ∃ c, xs[k]? = some c := ⟨_, List.getElem?_eq_getElem hkn⟩
    have hfr := frm_get hc
    have hox : castL ks = castL pre ++ (k : Int) :: castL post := by rw [hx]; simp [castL]
    have hcl : (castL pre).length = pre.length := by simp [castL]
    obtain ⟨ao, hao, co⟩ := (ho.ext he).im hox
    rw [hcl] at co
    obtain ⟨a, ha, c0, c1, c2, c3⟩ := cz_at (h.ext he) hc
    refine br_dt (by simp only; omega) (onSome_i hao ⟨⟨by simp only; omega, by simp only; omega⟩, _, co, onSome_i ha ⟨⟨by omega, by omega⟩, _, c0, _, c1, _, c2, _, c3, local4 fun w4 r4 e4 => ?_⟩⟩)
    have e04 := he.trans e4
    have hso := (ho.ext e04).cap
    refine ⟨inR_i64 (by simp only; omega) (by simp only; omega), ⟨by simp only; omega, by simp only; omega, by omega⟩, ?_⟩
    have t1 : ((pre.length : Int) + 1).toNat = pre.length + 1 := by omega
    simp only [Int.toNat_natCast, t1]
    have hD : Ints w4 ⟨resl so.a so.cap (pre.length + 1) 1, so.len - (pre.length + 1), so.cap - (pre.length + 1)⟩ (castL post) := by
      have := (ho.ext e04).drop cI_len (show pre.length + 1 ≤ so.len by omega)
      have hdr : (castL ks).drop (pre.length + 1) = castL post := by rw [hox, ← hcl]; simp
      rwa [hdr] at this
    have hDl := hD.len
    simp only at hDl
    have hpl : (castL post).length = post.length := by simp [castL]
    refine sLoop_list post (fun pre2 _ w' => Ext w4 w' ∧ ∀ b ∈ pre2, ¬ til xs b < frm xs k) ⟨Ext.refl _, by simp⟩ ?_ ?_
    · rintro K2 pre2 post2 b u2 w5 hx2 ⟨he5, hR2⟩ hK2 _
      have hm2 := mid_len hx2
      have hbn : b < xs.length := hklt b (by rw [hx, hx2]; simp)
      obtain ⟨d, hd⟩ : ∃ d, xs[b]? = some d := ⟨_, List.getElem?_eq_getElem hbn⟩
      have hox2 : castL post = castL pre2 ++ (b : Int) :: castL post2 := by rw [hx2]; simp [castL]
      have hcl2 : (castL pre2).length = pre2.length := by simp [castL]
      obtain ⟨ad, had, cd⟩ := (hD.ext he5).im hox2
      rw [hcl2] at cd
      refine br_dt (by omega) (onSome_i had ⟨⟨by omega, by omega⟩, _, cd, fun w6 (e6 : Ext w5 w6) => ?_⟩)
      have e46 := he5.trans e6
      obtain ⟨a', ha', d0, d1, d2, d3⟩ := cz_at ((h.ext e04).ext e46) hd
      refine onSome_i ha' ⟨⟨by omega, by omega⟩, _, d1, _, (r4.ext e46).cell rfl, br_d (fun g3 => ⟨not_ck fun hgd => ?_, e04.trans e46⟩) (fun g3 => ⟨inR_i64 (by omega) (by omega), hK2 _ _ ⟨e46, ?_⟩⟩)⟩
      · have := pairwise_at hgd.ok hx b (by rw [hx2]; simp)
        rw [til_get hd, hfr] at this
        exact this g3
      · intro y hy
        rcases List.mem_append.1 hy with hy | hy
        · exact hR2 y hy
        · simp at hy; subst hy
          rw [til_get hd, hfr]; exact g3
    · rintro K2 u2 w5 ⟨he5, hR2⟩ _
      have e05 := e04.trans he5
      have r5 := r4.ext he5
      have hnext : ∀ q1 a q2, ks = q1 ++ a :: q2 → q1.length < (pre ++ [k]).length → ∀ b ∈ q2, ¬ til xs b < frm xs a := by
        intro q1 a' q2 hq hlq
        by_cases hlt : q1.length < pre.length
        · exact hR q1 a' q2 hq hlt
        · have hle : q1.length = pre.length := by simp at hlq; omega
          have := hq.symm.trans hx
          obtain ⟨rfl, h2⟩ := List.append_inj this hle
          simp only [List.cons.injEq] at h2
          obtain ⟨rfl, rfl⟩ := h2
          exact hR2
      refine br_df (by omega) ⟨_, r5.cell rfl, br_i (fun g3 => ⟨_, r5.cell rfl, inR_i64 (by omega) (by omega), hK _ _ ⟨e05, ?_, vals_step hvp hc (.inl g3), hnext⟩⟩) (fun g3 => ⟨_, r5.cell rfl, br_i (fun g4 => ⟨not_ck fun hgd => ?_, e05⟩) (fun g4 => ⟨inR_i64 (by omega) (by omega), hK _ _ ⟨e05, ?_, vals_step hvp hc (.inr (by simpa using g4)), hnext⟩⟩)⟩)⟩
      · rw [valOf_step hc _ _ hvp, if_pos g3]
      · have := vals_fail hx hc g3 (by simpa using g4)
        rw [hgd.val] at this; cases this
      · rw [valOf_step hc _ _ hvp, if_neg (by rw [g3]; simp)]
  · rintro K ⟨t, u⟩ w3 ⟨he, ht, hvp, hR⟩ _
    refine br_df (by simp only; omega) ⟨⟨true, rfl, ?_⟩, he⟩
    simp only [true_iff]
    exact ⟨hv, ks, rfl, hkl, hknd, hklt, pairwise_split fun q1 a q2 hq b hb => hR q1 a q2 hq (by rw [hq]; simp) b hb, hvp⟩

set_option maxHeartbeats 1000000 in
theorem c_spec_fitsOrder {w : World} {s so : Sl} {xs : List Cz} {ord : List Int} (h : Calls4 w s xs) (ho : Ints w so ord) (hv : vCs xs = true) :
    CallR Try.prog 32 [.slice s.a s.len s.cap, .slice so.a so.len so.cap] w (fun v w' => (∃ b : Bool, v = .bool b ∧ (b = true ↔ CkO xs ord)) ∧ Ext w w') := by
  refine fn_spec_fitsOrder _ _ _ _ ?_
  unfold g_spec_fitsOrder
  have hl0 := h.len
  have hlo := ho.len
  have p := vCs_parts hv
  rw [hl0]
  refine ⟨⟨by omega, by omega, by omega, by omega⟩, letW_i fun w1 hw1 => ?_⟩
  have e1 : Ext w w1 := by rw [hw1]; exact (Ext.refl w).alloc _
  have r1 : Row w1 w.heap.size (seenB [] xs.length) 4 := by
    rw [hw1, madeCells_eq, Int.toNat_natCast, Nat.mul_one, seenB_nil]
    exact Row.new w _ _
  refine br_i (fun g => ⟨⟨false, rfl, ?_⟩, e1⟩) (fun g => ?_)
  · simp only [Bool.false_eq_true, false_iff]
    rintro ⟨_, ks, rfl, hgd⟩
    have := hgd.len
    simp [castL] at hlo
    simp at g
    omega
  have hlen : ord.length = xs.length := by simp at g; omega
  clear hw1
  refine sLoop_list ord (fun pre t w' => Ext w w' ∧ ∃ kp : List Nat, pre = castL kp ∧ kp.Nodup ∧ (∀ k ∈ kp, k < xs.length) ∧ Row w' w.heap.size (seenB kp xs.length) 4 ∧ t.1 = valOf xs 0 kp ∧ vals xs 0 kp = true ∧ kp.Pairwise (fun a b => ¬ til xs b < frm xs a) ∧ ∀ a ∈ kp, ∀ j, j < xs.length → j ∉ kp → ¬ til xs j < frm xs a)
    ⟨e1, [], rfl, List.nodup_nil, by simp, r1, rfl, rfl, List.Pairwise.nil, by simp⟩ ?_ ?_
  · rintro K pre post e ⟨t, u⟩ w2 hx ⟨he, kp, rfl, hnd, hlt, hr, ht, hvp, hpw, hH⟩ hK _
    have hm := mid_len hx
    simp only at ht
    subst ht
    have hcl : (castL kp).length = kp.length := by simp [castL]
    have hbad : ∀ w', Ext w w' → (∀ (k : Nat) (kq : List Nat), e = (k : Int) → ord = castL (kp ++ k :: kq) → Good xs (kp ++ k :: kq) → False) → ((∃ b : Bool, Value.bool false = .bool b ∧ (b = true ↔ CkO xs ord)) ∧ Ext w w') := fun w' e' hb => by
      refine ⟨⟨false, rfl, ?_⟩, e'⟩
      simp only [Bool.false_eq_true, false_iff]
      rintro ⟨_, ks, h1, h2⟩
      obtain ⟨k, kq, rfl, rfl, rfl⟩ := castL_split (h1.symm.trans hx)
      exact hb k kq rfl h1 h2
    obtain ⟨ao, hao, co⟩ := (ho.ext he).im hx
    refine br_dt (by simp only; omega) (onSome_i hao ⟨⟨by simp only; omega, by simp only; omega⟩, _, co, inR_i64 (by omega) (by omega), (c_spec_inRange _ _ _ _).go fun w3 e3 => ⟨_, rfl, br_i (fun g1 => hbad _ (he.trans e3) (fun k kq hk _ hgd => ?_)) (fun g1 => ?_)⟩⟩)
    · have := of_decide_eq_false (nott g1)
      have := hgd.lt k (by simp)
      omega
    have b1 := of_decide_eq_true (notf g1)
    obtain ⟨k, rfl⟩ : ∃ k : Nat, e = k := ⟨e.toNat, by omega⟩
    have hkn : k < xs.length := by omega
    have e03 := he.trans e3
    have hr3 := hr.ext e3
    obtain ⟨c, hc⟩ : ∃ c, xs[k]? = some c := ⟨_, List.getElem?_eq_getElem hkn⟩
    refine ⟨⟨by omega, by rw [Int.toNat_natCast]; omega⟩, _, by rw [at_idx1]; exact hr3.cell (seenB_get hkn), br_d (fun g3 => hbad _ e03 (fun k' kq hk' _ hgd => ?_)) (fun g3 => ?_)⟩
    · obtain rfl : k = k' := by omega
      have hnd' := hgd.nodup
      rw [List.nodup_append] at hnd'
      exact hnd'.2.2 k g3 k (by simp) rfl
    refine sLoop_up xs.length (fun j _ w' => Ext w3 w' ∧ ∀ i, i < j → i ∉ kp → i ≠ k → ¬ til xs i < frm xs k) ⟨Ext.refl _, fun _ hi => by omega⟩ ?_ ?_
    · rintro K2 j u2 w4 hj ⟨he4, hall⟩ hK2 _
      refine br_dt (by omega) (fun w5 (e5 : Ext w4 w5) => ?_)
      have e35 := he4.trans e5
      obtain ⟨d, hd⟩ : ∃ d, xs[j]? = some d := ⟨_, List.getElem?_eq_getElem hj⟩
      obtain ⟨a, ha, d0, d1, d2, d3⟩ := cz_at ((h.ext e03).ext e35) hd
      obtain ⟨a', ha', c0, c1, c2, c3⟩ := cz_at ((h.ext e03).ext e35) hc
      have next : (j ∉ kp → j ≠ k → ¬ til xs j < frm xs k) → (InR .i64 ((j : Int) + 1) ∧ K2 ((j : Int) + 1, ()) w5) := fun hn => ⟨inR_i64 (by omega) (by omega), hK2 _ _ ⟨e35, fun i hi h1 h2 => by
        by_cases hij : i = j
        · subst hij; exact hn h1 h2
        · exact hall i (by omega) h1 h2⟩⟩
      refine ⟨⟨by omega, by rw [Int.toNat_natCast]; omega⟩, _, by rw [at_idx1]; exact (hr3.ext e35).cell (seenB_get hj), br_i (fun g4 => ?_) (fun g4 => next fun hn => by simp [hn] at g4)⟩
      have hjk : j ∉ kp := by simpa using g4
      refine br_i (fun g5 => ?_) (fun g5 => next fun _ hn => by simp at g5; omega)
      have hne : j ≠ k := by simp at g5; omega
      refine onSome_i ha ⟨⟨by omega, by omega⟩, _, d1, onSome_i ha' ⟨⟨by omega, by omega⟩, _, c0, br_d (fun g6 => hbad _ (e03.trans e35) (fun k' kq hk' _ hgd => ?_)) (fun g6 => next fun _ _ => by rw [til_get hd, frm_get hc]; exact g6)⟩⟩
      obtain rfl : k = k' := by omega
      have hin := mem_of_full hgd.len hgd.nodup hgd.lt hj
      simp only [List.mem_append, List.mem_cons] at hin
      rcases hin with hin | hin | hin
      · exact hjk hin
      · exact hne hin
      · have := pairwise_at hgd.ok rfl j hin
        rw [til_get hd, frm_get hc] at this
        exact this g6
    · rintro K2 u2 w4 ⟨he4, hall⟩ _
      have hr4 := hr3.ext he4
      refine br_df (by omega) ⟨⟨by omega, by rw [Int.toNat_natCast]; omega⟩, by rw [at_idx1]; exact hr4.wr (by rw [seenB_len]; exact hkn), letW_i fun w5 hw5 => ?_⟩
      have e5 : Ext w w5 := by rw [hw5]; exact (e03.trans he4).set (by rw [at_idx1, add_b]; exact Nat.le_refl _) _
      have r5 : Row w5 w.heap.size (seenB (kp ++ [k]) xs.length) 4 := by
        rw [hw5, at_idx1, ← seenB_set hkn]; exact hr4.set k _
      obtain ⟨a', ha', c0, c1, c2, c3⟩ := cz_at (h.ext e5) hc
      have hnd2 : (kp ++ [k]).Nodup := by
        rw [List.nodup_append]
        exact ⟨hnd, by simp, fun x hx9 y hy => by simp at hy; subst hy; exact fun e9 => g3 (e9 ▸ hx9)⟩
      have hlt2 : ∀ x ∈ kp ++ [k], x < xs.length := by
        intro x hx'
        rcases List.mem_append.1 hx' with hx' | hx'
        · exact hlt x hx'
        · simp at hx'; omega
      have hpw2 : (kp ++ [k]).Pairwise (fun a b => ¬ til xs b < frm xs a) := by
        rw [List.pairwise_append]
        exact ⟨hpw, List.pairwise_singleton _ _, fun a ha b hb => by simp at hb; subst hb; exact hH a ha _ hkn g3⟩
      have hH2 : ∀ a ∈ kp ++ [k], ∀ j, j < xs.length → j ∉ kp ++ [k] → ¬ til xs j < frm xs a := by
        intro a ha j hj hnj
        simp only [List.mem_append, List.mem_singleton, not_or] at hnj ha
        rcases ha with ha | rfl
        · exact hH a ha j hj hnj.1
        · exact hall j hj hnj.1 hnj.2
      have fin : ∀ (t' : Int), t' = valOf xs 0 (kp ++ [k]) → vals xs 0 (kp ++ [k]) = true → (InR .i64 (((castL kp).length : Int) + 1) ∧ K (((castL kp).length : Int) + 1, t', ()) w5) := fun t' h1 h2 =>
        ⟨inR_i64 (by omega) (by omega), hK _ _ ⟨e5, kp ++ [k], by simp [castL], hnd2, hlt2, r5, h1, h2, hpw2, hH2⟩⟩
      refine onSome_i ha' ⟨⟨by omega, by omega⟩, _, c2, br_i (fun g5 => onSome_i ha' ⟨⟨by omega, by omega⟩, _, c3, fin _ ?_ (vals_step hvp hc (.inl g5))⟩) (fun g5 => onSome_i ha' ⟨⟨by omega, by omega⟩, _, c3, br_i (fun g6 => hbad _ e5 (fun k' kq hk' _ hgd => ?_)) (fun g6 => fin _ ?_ (vals_step hvp hc (.inr (by simpa using g6))))⟩)⟩
      · rw [valOf_step hc _ _ hvp, if_pos g5]
      · obtain rfl : k = k' := by omega
        have := vals_fail rfl hc g5 (by simpa using g6) (kq := kq)
        rw [hgd.val] at this; cases this
      · rw [valOf_step hc _ _ hvp, if_neg (by rw [g5]; simp)]
  · rintro K ⟨t, u⟩ w2 ⟨he, kp, hpre, hnd, hlt, hr, ht, hvp, hpw, hH⟩ _
    refine br_df (by simp only; omega) ⟨⟨true, rfl, ?_⟩, he⟩
    simp only [true_iff]
    exact ⟨hv, kp, hpre, by rw [hpre] at hlen; simpa [castL] using hlen, hnd, hlt, hpw, hvp⟩

theorem c_spec_CheckOrder {w : World} {s so : Sl} {xs : List Cz} {ord : List Int} (h : Calls4 w s xs) (hl : xs.length ≤ maxLen) (ho : Ints w so ord) :
    CallR Try.prog 16 [.slice s.a s.len s.cap, .slice so.a so.len so.cap] w (fun v w' => (∃ b : Bool, v = .bool b ∧ (b = true ↔ CkO xs ord)) ∧ Ext w w') := by
  refine fn_spec_CheckOrder _ _ _ _ ?_
  unfold g_spec_CheckOrder
  refine (c_spec_validCalls h hl).go fun w1 e1 => ⟨_, rfl, br_i (fun g => ?_) (fun g => ⟨⟨false, rfl, ?_⟩, e1⟩)⟩
  · refine (c_spec_fitsOrder (h.ext e1) (ho.ext e1) g).mono ?_
    rintro _ w2 ⟨⟨b, rfl, hb⟩, e2⟩
    exact ⟨_, rfl, ⟨b, rfl, hb⟩, e1.trans e2⟩
  · simp only [Bool.false_eq_true, false_iff]
    rintro ⟨hv, _⟩
    rw [hv] at g; cases g
end Go.Proofs
