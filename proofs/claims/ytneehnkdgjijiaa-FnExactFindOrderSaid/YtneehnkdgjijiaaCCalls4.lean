/-
  What functions of this seat compute, part 'Calls4': contracts over their readable predicates. Conditions: each theorem's own hypotheses.
-/
import Derived.Test.YtneehnkdgjijiaaBase
import Derived.Test.YtneehnkdgjijiaaOpen
import Derived.Test.YtneehnkdgjijiaaGen
import Derived.Test.YtneehnkdgjijiaaCCalls
import Derived.Test.YtneehnkdgjijiaaCCalls2
import Derived.Test.YtneehnkdgjijiaaCCalls3
namespace Go.Proofs
open Go Go.Vc Go.RowKit
set_option maxRecDepth 100000
set_option linter.unusedVariables false
--! C:Calls C:Calls2 C:Calls3
/-! ## Orders searched with a mask -/

theorem bit_and : ∀ u, u < 64 → ∀ i, i < 6 → (bits .and .u64 (Int.fdiv ((u : Nat) : Int) (2 ^ (min ((i : Nat) : Int).toNat (IntKind.bits .u64)))) (1 : Int)) = if u.testBit i = true then 1 else 0 := by decide +kernel
theorem bit_or : ∀ u, u < 64 → ∀ i, i < 6 → bits .or .u64 ((u : Nat) : Int) (IntKind.wrap .u64 ((1 : Int) * 2 ^ (min ((i : Nat) : Int).toNat (IntKind.bits .u64)))) = ((u ||| 2 ^ i : Nat) : Int) ∧ (u ||| 2 ^ i) < 64 := by decide +kernel
theorem bit_not : ∀ u, u < 64 → ∀ i, i < 6 → bits .andNot .u64 ((u : Nat) : Int) (IntKind.wrap .u64 ((1 : Int) * 2 ^ (min ((i : Nat) : Int).toNat (IntKind.bits .u64)))) = ((u &&& (63 - 2 ^ i) : Nat) : Int) ∧ (u &&& (63 - 2 ^ i)) < 64 := by decide +kernel
theorem bit_or_test : ∀ u, u < 64 → ∀ i, i < 6 → ∀ j, j < 6 → (u ||| 2 ^ i).testBit j = (u.testBit j || decide (j = i)) := by decide +kernel
theorem bit_not_test : ∀ u, u < 64 → ∀ i, i < 6 → ∀ j, j < 6 → (u &&& (63 - 2 ^ i)).testBit j = (u.testBit j && !(decide (j = i))) := by decide +kernel

/-- The search's state: the calls, the order so far, the mask of those used. -/
def OS (w : World) (b : Nat) (s : Sl) (bg : List Nat) : Prop :=
  ∃ (so : Sl) (u : Nat), Row w b [.slice s.a s.len s.cap, .slice so.a so.len so.cap, .int .u64 (u : Nat)] 50 ∧ Own (b + 1) 3 1 w so ((castL bg).flatMap cI) ∧ u < 64 ∧ ∀ i, i < 6 → u.testBit i = decide (i ∈ bg)

theorem okNext_iff {xs : List Cz} {bg : List Nat} {v : Int} {k : Nat} {c : Cz} (hc : xs[k]? = some c) : okNext xs bg v k = (mayF xs bg k && (c.2.2.1 || decide (c.2.2.2 = v))) := by simp [okNext, hc]

set_option maxHeartbeats 1000000 in
theorem c_impl_mayFollow {w : World} {s so : Sl} {xs : List Cz} {bg : List Nat} {b u : Nat} (k : Nat) (v : Int) (h : Calls4 w s xs) (hv : vCs xs = true) (hr : Row w b [.slice s.a s.len s.cap, .slice so.a so.len so.cap, .int .u64 (u : Nat)] 50)
    (hu : u < 64) (hb : ∀ i, i < 6 → u.testBit i = decide (i ∈ bg)) (hk : k < xs.length) :
    CallR Try.prog 38 [.pointer (some ⟨b, 0, none⟩), .int .i64 k, .int .i64 v] w (fun r w' => r = .bool (okNext xs bg v k) ∧ Ext w w') := by
  refine fn_impl_orderSearch_mayFollow _ _ _ _ _ ?_
  unfold g_impl_orderSearch_mayFollow
  have hl0 := h.len
  have p := vCs_parts hv
  obtain ⟨c, hc⟩ : ∃ c, xs[k]? = some c := ⟨_, List.getElem?_eq_getElem hk⟩
  have hok := okNext_iff (bg := bg) (v := v) hc
  refine ⟨_, hr.cell rfl, by omega, ?_⟩
  rw [bit_and u hu k (by omega), hb k (by omega)]
  refine br_i (fun g => ⟨?_, Ext.refl _⟩) (fun g => ?_)
  · have : k ∈ bg := by
      by_cases hm : k ∈ bg
      · exact hm
      · simp [hm] at g
    rw [hok]; simp [mayF, this]
  have hkb : k ∉ bg := by
    intro hm; simp [hm] at g
  obtain ⟨a, ha, c0, c1, c2, c3⟩ := cz_at h hc
  refine ⟨_, hr.cell rfl, onSome_i ha ⟨⟨by omega, by omega⟩, _, c0, _, c1, _, c2, _, c3, local4 fun w1 r1 e1 => ⟨_, (hr.ext e1).cell rfl, ?_⟩⟩⟩
  refine sLoop_list xs (fun pre _ w' => Ext w1 w' ∧ ∀ i, i < pre.length → i ∉ bg → ¬ til xs i < frm xs k) ⟨Ext.refl _, fun _ hi => by simp at hi⟩ ?_ ?_
  · rintro K pre post d u2 w2 hx ⟨he, hall⟩ hK _
    have hm := mid_len hx
    have hd : xs[pre.length]? = some d := mid_get hx
    have e12 := he
    obtain ⟨a2, ha2, d0, d1, d2, d3⟩ := cz_mid ((h.ext e1).ext he) hx
    refine br_dt (by omega) (onSome_i ha2 ⟨⟨by omega, by omega⟩, _, d0, _, d1, _, d2, _, d3, local4 fun w3 r3 e3 => ?_⟩)
    have e13 := he.trans e3
    have next : (pre.length ∉ bg → ¬ til xs pre.length < frm xs k) → (InR .i64 ((pre.length : Int) + 1) ∧ K ((pre.length : Int) + 1, ()) w3) := fun hn => ⟨inR_i64 (by omega) (by omega), hK _ _ ⟨e13, fun i hi h1 => by
      by_cases hij : i = pre.length
      · subst hij; exact hn h1
      · exact hall i (by simp at hi; omega) h1⟩⟩
    refine ⟨_, (hr.ext (e1.trans e13)).cell rfl, by omega, ?_⟩
    rw [bit_and u hu pre.length (by omega), hb pre.length (by omega)]
    refine br_i (fun g2 => ?_) (fun g2 => next fun hn => by simp [hn] at g2)
    have hnb : pre.length ∉ bg := by
      intro hm'; simp [hm'] at g2
    refine ⟨_, r3.cell rfl, _, (r1.ext e13).cell rfl, br_d (fun g3 => ⟨?_, e1.trans e13⟩) (fun g3 => next fun _ => by rw [til_get hd, frm_get hc]; exact g3)⟩
    have hne : pre.length ≠ k := by
      intro e
      rw [e, hc] at hd
      obtain rfl := Option.some.inj hd
      have := List.all_eq_true.1 p.1 c (List.mem_of_getElem? hc)
      have := of_decide_eq_true this
      omega
    have : ((List.range xs.length).all fun j => decide (j ∈ bg) || decide (j = k) || !(decide (til xs j < frm xs k))) = false := by
      rw [List.all_eq_false]
      refine ⟨pre.length, List.mem_range.2 (by omega), ?_⟩
      rw [til_get hd, frm_get hc]
      simp [hnb, hne, g3]
    rw [hok, mayF, this]; simp
  · rintro K u2 w2 ⟨he, hall⟩ _
    have hmay : mayF xs bg k = true := by
      have h2 : ((List.range xs.length).all fun j => decide (j ∈ bg) || decide (j = k) || !(decide (til xs j < frm xs k))) = true := by
        rw [List.all_eq_true]
        intro j hj
        by_cases a1 : j ∈ bg
        · simp [a1]
        have := hall j (List.mem_range.1 hj) a1
        simp [this]
      simp [mayF, hkb, h2]
    have r2 := r1.ext he
    refine br_df (by omega) ⟨_, r2.cell rfl, br_i (fun g2 => ⟨by rw [hok, hmay, g2]; rfl, e1.trans he⟩) (fun g2 => ⟨_, r2.cell rfl, ?_, e1.trans he⟩)⟩
    rw [hok, hmay, g2]
    simp only [Bool.true_and, Bool.false_or]
    congr 1

theorem ownFront {α : Type} {c : α → List Value} {base n : Nat} {e : TypeId} {w : World} {s : Sl} {xs : List α} {k : Nat} (h : Own base e n w s (xs.flatMap c)) (hc : ∀ x, (c x).length = n) (hn : 0 < n) (hk : k ≤ xs.length) : Own base e n w ⟨s.a, k, s.cap⟩ ((xs.take k).flatMap c) := by
  by_cases hne : xs = []
  · subst hne
    obtain rfl : k = 0 := by simpa using hk
    have hl : s.len = 0 := by have := h.len hc hn; simpa using this
    have : s = ⟨s.a, 0, s.cap⟩ := by rw [← hl]
    rw [this] at h
    simpa using h
  · obtain ⟨g, cur, hs, hb, hr, hnc, hcm, hcl, htk⟩ := h.row hc hn hne
    rw [hs]
    refine Own.ofRowTake hr hb (by simp only; omega) hcm hcl ?_ ?_
    · rw [flatMap_len hc, List.length_take, Nat.min_eq_left hk]
    · have hx : xs.flatMap c = (xs.take k).flatMap c ++ (xs.drop k).flatMap c := by rw [← List.flatMap_append, List.take_append_drop]
      rw [hx] at htk
      have := take_pre htk
      rwa [flatMap_len hc, List.length_take, Nat.min_eq_left hk] at this

set_option maxHeartbeats 2000000 in
theorem c_impl_complete {xs : List Cz} {w0 : World} {s : Sl} {b : Nat} (h0 : Calls4 w0 s xs) (hb0 : w0.heap.size ≤ b) (hv : vCs xs = true) : ∀ (f : Nat) (bg : List Nat) (v : Int) (w : World), Ext w0 w → OS w b s bg → (∀ k ∈ bg, k < xs.length) → bg.length + f = xs.length →
    CallR Try.prog 29 [.pointer (some ⟨b, 0, none⟩), .int .i64 v] w (fun r w' => r = .bool (srch xs f bg v).isSome ∧ Ext w0 w' ∧ OS w' b s ((srch xs f bg v).getD bg)) := by
  intro f
  have p := vCs_parts hv
  have hl0 := h0.len
  induction f with
  | zero =>
    intro bg v w he hos hlt hf
    refine fn_impl_orderSearch_complete _ _ _ _ ?_
    unfold g_impl_orderSearch_complete
    intro w1 (e1 : Ext w w1)
    obtain ⟨so, u, hr, ho, hu, hm⟩ := hos
    have hlo := ho.len cI_len (by decide)
    have hcl : (castL bg).length = bg.length := by simp [castL]
    have hr1 := hr.ext e1
    exact ⟨_, hr1.cell rfl, _, hr1.cell rfl, br_t (by simp; omega) ⟨rfl, he.trans e1, so, u, hr1, ho.ext e1, hu, hm⟩⟩
  | succ f ih =>
    intro bg v w he hos hlt hf
    refine fn_impl_orderSearch_complete _ _ _ _ ?_
    unfold g_impl_orderSearch_complete
    intro w1 (e1 : Ext w w1)
    obtain ⟨so0, u0, hr0, ho0, hu0, hm0⟩ := hos
    have hlo := ho0.len cI_len (by decide)
    have hcl : (castL bg).length = bg.length := by simp [castL]
    have hr1 := hr0.ext e1
    refine ⟨_, hr1.cell rfl, _, hr1.cell rfl, br_f (by simp; omega) ⟨_, hr1.cell rfl, ?_⟩⟩
    refine sLoop_up xs.length (fun k _ w' => Ext w0 w' ∧ OS w' b s bg ∧ (List.range k).findSome? (fun k => if okNext xs bg v k = true then srch xs f (bg ++ [k]) (valN xs k) else none) = none) ⟨he.trans e1, ⟨so0, u0, hr1, ho0.ext e1, hu0, hm0⟩, rfl⟩ ?_ ?_
    · rintro K k t w2 hk ⟨e2, ⟨so, u, hr, ho, hu, hm⟩, hnone⟩ hK _
      obtain ⟨c, hc⟩ : ∃ c, xs[k]? = some c := ⟨_, List.getElem?_eq_getElem hk⟩
      have next : (if okNext xs bg v k = true then srch xs f (bg ++ [k]) (valN xs k) else none) = none → ∀ w', Ext w0 w' → OS w' b s bg → (InR .i64 ((k : Int) + 1) ∧ K ((k : Int) + 1, ()) w') := fun hn w' e' hos' => ⟨inR_i64 (by omega) (by omega), hK _ _ ⟨e', hos', find_next hnone hn⟩⟩
      have hval : valN xs k = c.2.2.2 := by simp [valN, hc]
      obtain ⟨a, ha, c0, c1, c2, c3⟩ := cz_at (h0.ext e2) hc
      have hbw2 : b < w2.heap.size := hr.lt
      refine br_dt (by omega) (onSome_i ha ⟨⟨by omega, by omega⟩, _, c0, _, c1, _, c2, _, c3, local4 fun w3 r3 e3 => ?_⟩)
      have e03 := e2.trans e3
      refine (c_impl_mayFollow k v (h0.ext e03) hv (hr.ext e3) hu hm hk).go fun w4 e4 => ⟨_, rfl, br_i (fun g => ?_) (fun g => ?_)⟩
      · exact next (by rw [nott g]; rfl) w4 (e03.trans e4) ⟨so, u, (hr.ext e3).ext e4, (ho.ext e3).ext e4, hu, hm⟩
      have hok := notf g
      have hr4 := (hr.ext e3).ext e4
      have ho4 := (ho.ext e3).ext e4
      have r4 := r3.ext e4
      have e04 := e03.trans e4
      have hkb : k ∉ bg := by
        rw [okNext_iff hc] at hok
        simp only [mayF, Bool.and_eq_true, Bool.not_eq_true', decide_eq_false_iff_not] at hok
        exact hok.1.1
      refine ⟨_, hr4.cell rfl, push1 (x := (k : Int)) (base := b + 1) cI_len (by decide) (cI_one _) ho4 (by have := hr4.lt; omega) (by omega) (by decide) (fun so5 wm w5 hl5 o5 em om hg5 => ?_)⟩
      have hob : ∀ j, so.v.ownBlock = some j → b + 1 ≤ j ∧ j < w2.heap.size := fun j hj => ho.lt j hj
      have hbne : so.v.ownBlock ≠ some b := fun hj => by have := hob _ hj; omega
      have hlne : so.v.ownBlock ≠ some w2.heap.size := fun hj => by have := hob _ hj; omega
      have hr5 : Row w5 b _ _ := (hr4.ext em).grown hg5 hbne
      have r5 : Row w5 w2.heap.size _ _ := (r4.ext em).grown hg5 hlne
      have e05 : Ext w0 w5 := (e04.trans em).grown hg5 fun j hj => by have := hob j hj; omega
      have hbk : castL bg ++ [(k : Int)] = castL (bg ++ [k]) := by simp [castL]
      rw [hbk] at o5
      obtain ⟨p6, r6⟩ := Row.setMid (A := [.slice s.a s.len s.cap]) (B := [.int .u64 (u : Nat)]) (p := (⟨b, 0, none⟩ : Addr).add 1) hr5 rfl (.slice so5.a so5.len so5.cap)
      refine ⟨p6, letW_i fun w6 hw6 => ?_⟩
      rw [← hw6] at r6
      have hchg6 : Chg b w5 w6 := by rw [hw6]; exact (Chg.refl b w5).set (by rw [add_block]) _
      have o6 : Own (b + 1) 3 1 w6 so5 _ := o5.chg hchg6 (by omega)
      have rl6 := r5.chg hchg6 (by omega)
      have e06 : Ext w0 w6 := e05.chg hchg6 hb0
      intro w7 (e7 : Ext w6 w7)
      have r7 := r6.ext e7
      have hu64 := bit_or u hu k (by omega)
      refine ⟨_, r7.cell rfl, by omega, ?_⟩
      rw [hu64.1]
      obtain ⟨p8, r8⟩ := Row.setMid (A := [.slice s.a s.len s.cap, .slice so5.a so5.len so5.cap]) (B := []) (p := (⟨b, 0, none⟩ : Addr).add 2) r7 rfl (.int .u64 ((u ||| 2 ^ k : Nat) : Int))
      refine ⟨p8, letW_i fun w8 hw8 => ?_⟩
      rw [← hw8] at r8
      have hchg8 : Chg b w7 w8 := by rw [hw8]; exact (Chg.refl b w7).set (by rw [add_block]) _
      have o8 : Own (b + 1) 3 1 w8 so5 _ := (o6.ext e7).chg hchg8 (by omega)
      have rl8 := (rl6.ext e7).chg hchg8 (by omega)
      have e08 : Ext w0 w8 := (e06.trans e7).chg hchg8 hb0
      have hos8 : OS w8 b s (bg ++ [k]) := ⟨so5, u ||| 2 ^ k, r8, o8, hu64.2, fun i hi => by
        rw [bit_or_test u hu k (by omega) i hi, hm i hi]
        simp only [List.mem_append, List.mem_singleton]
        rw [Bool.eq_iff_iff]; simp⟩
      refine ⟨_, rl8.cell rfl, (ih (bg ++ [k]) c.2.2.2 w8 e08 hos8 (fun j hj => ?_) (by simp; omega)).mono ?_⟩
      · rcases List.mem_append.1 hj with hj | hj
        · exact hlt j hj
        · simp at hj; omega
      rintro _ w9 ⟨rfl, e09, hos9⟩
      have hgk : (if okNext xs bg v k = true then srch xs f (bg ++ [k]) (valN xs k) else none) = srch xs f (bg ++ [k]) c.2.2.2 := by rw [if_pos hok, hval]
      refine ⟨_, rfl, br_i (fun g1 => ?_) (fun g1 => ?_)⟩
      · obtain ⟨r, hrr⟩ := Option.isSome_iff_exists.1 g1
        rw [hrr] at hos9 hgk
        have hs : srch xs (f + 1) bg v = some r := find_hit hnone hgk hk
        rw [hs]
        exact ⟨rfl, e09, hos9⟩
      · have hnr : srch xs f (bg ++ [k]) c.2.2.2 = none := by
          cases hrr : srch xs f (bg ++ [k]) c.2.2.2 with
          | none => rfl
          | some r => rw [hrr] at g1; cases g1
        rw [hnr] at hos9 hgk
        obtain ⟨so9, u9, r9, o9, hu9, hm9⟩ := hos9
        simp only [Option.getD_none] at o9 hm9
        intro w10 (e10 : Ext w9 w10)
        have r10 := r9.ext e10
        have hl9 := o9.len cI_len (by decide)
        have hcl9 : (castL (bg ++ [k])).length = bg.length + 1 := by simp [castL]
        have hcap9 : so9.len ≤ so9.cap := (o9.slOf cI_len (by decide)).cap
        have t9 : ((so9.len : Int) - 1).toNat = bg.length := by omega
        refine ⟨_, r10.cell rfl, _, r10.cell rfl, inR_i64 (by omega) (by omega), ⟨by omega, by omega, by omega⟩, ?_⟩
        simp only [Int.toNat_zero, Nat.sub_zero, resl_zero, t9]
        obtain ⟨p11, r11⟩ := Row.setMid (A := [.slice s.a s.len s.cap]) (B := [.int .u64 (u9 : Nat)]) (p := (⟨b, 0, none⟩ : Addr).add 1) r10 rfl (.slice so9.a bg.length so9.cap)
        refine ⟨p11, letW_i fun w11 hw11 => ?_⟩
        rw [← hw11] at r11
        have hchg11 : Chg b w10 w11 := by rw [hw11]; exact (Chg.refl b w10).set (by rw [add_block]) _
        have o11 : Own (b + 1) 3 1 w11 ⟨so9.a, bg.length, so9.cap⟩ ((castL bg).flatMap cI) := by
          have := ownFront ((o9.ext e10).chg hchg11 (by omega)) cI_len (by decide) (show bg.length ≤ (castL (bg ++ [k])).length by omega)
          have ht : (castL (bg ++ [k])).take bg.length = castL bg := by
            rw [← hbk, ← hcl]; simp
          rwa [ht] at this
        have e011 : Ext w0 w11 := (e09.trans e10).chg hchg11 hb0
        intro w12 (e12 : Ext w11 w12)
        have r12 := r11.ext e12
        have hu12 := bit_not u9 hu9 k (by omega)
        refine ⟨_, r12.cell rfl, by omega, ?_⟩
        rw [hu12.1]
        obtain ⟨p13, r13⟩ := Row.setMid (A := [.slice s.a s.len s.cap, .slice so9.a bg.length so9.cap]) (B := []) (p := (⟨b, 0, none⟩ : Addr).add 2) r12 rfl (.int .u64 ((u9 &&& (63 - 2 ^ k) : Nat) : Int))
        refine ⟨p13, letW_i fun w13 hw13 => ?_⟩
        rw [← hw13] at r13
        have hchg13 : Chg b w12 w13 := by rw [hw13]; exact (Chg.refl b w12).set (by rw [add_block]) _
        refine next hgk w13 ((e011.trans e12).chg hchg13 hb0) ⟨⟨so9.a, bg.length, so9.cap⟩, u9 &&& (63 - 2 ^ k), r13, (o11.ext e12).chg hchg13 (by omega), hu12.2, fun i hi => ?_⟩
        rw [bit_not_test u9 hu9 k (by omega) i hi, hm9 i hi]
        rw [Bool.eq_iff_iff]
        simp only [List.mem_append, List.mem_singleton, Bool.and_eq_true, decide_eq_true_eq, Bool.not_eq_true', decide_eq_false_iff_not]
        constructor
        · rintro ⟨h1 | h1, h2⟩
          · exact h1
          · exact absurd h1 h2
        · intro h1
          exact ⟨.inl h1, fun e => hkb (e ▸ h1)⟩
    · rintro K t w2 ⟨e2, hos, hnone⟩ _
      have : srch xs (f + 1) bg v = none := hnone
      rw [this]
      exact br_df (by omega) ⟨rfl, e2, hos⟩

theorem c_impl_FindOrder {w : World} {s : Sl} {xs : List Cz} (h : Calls4 w s xs) :
    CallR Try.prog 12 [.slice s.a s.len s.cap] w (fun v w' => SrR w.heap.size w' (findO xs) v ∧ Ext w w') := by
  refine fn_impl_FindOrder _ _ _ ?_
  unfold g_impl_FindOrder
  refine (c_impl_areCalls h).go fun w1 e1 => ⟨_, rfl, br_i (fun g => ?_) (fun g => ?_)⟩
  · have : findO xs = none := by unfold findO; rw [if_neg]; intro hv; rw [hv] at g; cases g
    rw [this]; exact ⟨SrR.no _ _, e1⟩
  have hv := notf g
  refine local3 fun w2 r2 e2 => ?_
  have e02 := e1.trans e2
  have hb : w.heap.size ≤ w1.heap.size := e1.size
  refine (c_impl_complete h hb hv xs.length [] 0 w2 e02 ⟨⟨none, 0, 0⟩, 0, r2, Own.nil _ _ _ _, by decide, fun i hi => by simp⟩ (by simp) (by simp)).mono ?_
  rintro _ w3 ⟨rfl, e3, ⟨so, u, hr, ho, _, _⟩⟩
  have hf : findO xs = srch xs xs.length [] 0 := by unfold findO; rw [if_pos hv]
  rw [hf]
  refine ⟨_, rfl, br_i (fun g1 => ?_) (fun g1 => ⟨_, hr.cell rfl, ?_⟩)⟩
  · cases hs : srch xs xs.length [] 0 with
    | some r => rw [hs] at g1; cases g1
    | none => exact ⟨SrR.no _ _, e3⟩
  · refine ⟨⟨so, ?_, ho.base_le (by omega)⟩, e3⟩
    rw [notf g1]
end Go.Proofs
