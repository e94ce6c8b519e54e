/-
  What functions of this seat compute, part 'MarkNode': contracts over their readable predicates. Conditions: each theorem's own hypotheses.
-/
import Derived.Test.YtcgfhchmpoaiiaaBase
import Derived.Test.YtcgfhchmpoaiiaaOpen
import Derived.Test.YtcgfhchmpoaiiaaGen
import Derived.Test.YtcgfhchmpoaiiaaCSmall
import Derived.Test.YtcgfhchmpoaiiaaCOrder
import Derived.Test.YtcgfhchmpoaiiaaCNode
import Derived.Test.YtcgfhchmpoaiiaaCNodeText
import Derived.Test.YtcgfhchmpoaiiaaCNodeValid
import Derived.Test.YtcgfhchmpoaiiaaCNodeSpec
import Derived.Test.YtcgfhchmpoaiiaaCHelpS
import Derived.Test.YtcgfhchmpoaiiaaCNodeHelp
import Derived.Test.YtcgfhchmpoaiiaaCNodeHelp2
import Derived.Test.YtcgfhchmpoaiiaaCNodeTop
import Derived.Test.YtcgfhchmpoaiiaaCMark
import Derived.Test.YtcgfhchmpoaiiaaCStrMark
import Derived.Test.YtcgfhchmpoaiiaaCCells
import Derived.Test.YtcgfhchmpoaiiaaCShape
import Derived.Test.YtcgfhchmpoaiiaaCShape2
import Derived.Test.YtcgfhchmpoaiiaaCShapeOf
import Derived.Test.YtcgfhchmpoaiiaaCMarkShape
import Derived.Test.YtcgfhchmpoaiiaaCMarkShape2
import Derived.Test.YtcgfhchmpoaiiaaCMarkShape3
import Derived.Test.YtcgfhchmpoaiiaaCNodeMark
namespace Go.Proofs
open Go Go.Vc Go.RowKit
set_option maxRecDepth 100000
set_option linter.unusedVariables false
--! C:Small C:Order C:Node C:NodeText C:NodeValid C:NodeSpec C:HelpS C:NodeHelp C:NodeHelp2 C:NodeTop C:Mark C:StrMark C:Cells C:Shape C:Shape2 C:ShapeOf C:MarkShape C:MarkShape2 C:MarkShape3 C:NodeMark
/-! ## Nodes are marked -/

theorem flatMap_set {α : Type} {c : α → List Value} {n : Nat} (hc : ∀ x, (c x).length = n) {d' : α} {j : Nat} {v : Value} (hj : j < n) : ∀ {cx : List α} {i : Nat} {d : α}, cx[i]? = some d → c d' = (c d).set j v →
    (cx.flatMap c).set (i * n + j) v = (cx.set i d').flatMap c
  | [], i, d, hd, _ => by simp at hd
  | y :: ys, 0, d, hd, he => by
    simp at hd
    subst hd
    rw [List.flatMap_cons, List.set_cons_zero, List.flatMap_cons, he, Nat.zero_mul, Nat.zero_add, List.set_append_left _ _ (by rw [hc]; exact hj)]
  | y :: ys, i + 1, d, hd, he => by
    rw [List.flatMap_cons, List.set_cons_succ, List.flatMap_cons, List.set_append_right _ _ (by rw [hc, Nat.succ_mul]; omega), hc]
    have : (i + 1) * n + j - n = i * n + j := by rw [Nat.succ_mul]; omega
    rw [this, flatMap_set hc hj (by simpa using hd) he]

theorem _root_.Go.Vc.Own.setEl {α : Type} {c : α → List Value} {base n : Nat} {e : TypeId} {w : World} {l : Sl} {cx : List α} {i j : Nat} {d d' : α} {v : Value} (o : Own base e n w l (cx.flatMap c)) (hc : ∀ x, (c x).length = n) (hd : cx[i]? = some d) (hj : j < n) (he : c d' = (c d).set j v) :
    ∃ g, l.a = some ⟨g, 0, none⟩ ∧ Wr w ((⟨g, 0, none⟩ : Addr).add (i * n + j)) ∧ Own base e n (w.setCell ((⟨g, 0, none⟩ : Addr).add (i * n + j)) v) l ((cx.set i d').flatMap c) ∧ w.grownBy (w.setCell ((⟨g, 0, none⟩ : Addr).add (i * n + j)) v) l.v.ownBlock := by
  have hi := (List.getElem?_eq_some_iff.1 hd).1
  obtain ⟨g, hg, p, o', gr⟩ := o.setAt (k := i * n + j) (by
    rw [flatMap_len hc]
    have : (i + 1) * n ≤ cx.length * n := Nat.mul_le_mul_right n hi
    rw [Nat.succ_mul] at this
    omega) v
  rw [flatMap_set hc hj hd he] at o'
  exact ⟨g, hg, p, o', gr⟩

mutual
def cmN : Nd → Nat
  | .mk _ _ _ ns ks => ns.length + cmNL ks
def cmNL : List Nd → Nat
  | [] => 0
  | x :: r => 3 + cmN x + cmNL r
end
theorem cmN_eq (n : Nd) : cmN n = n.ns.length + cmNL n.ks := by cases n; simp [cmN, Nd.ns, Nd.ks]
theorem cmNL_append : ∀ (a b : List Nd), cmNL (a ++ b) = cmNL a + cmNL b
  | [], b => by simp [cmNL]
  | x :: r, b => by simp only [List.cons_append, cmNL, cmNL_append r b]; omega
mutual
theorem cmN_le : ∀ (n : Nd), cmN n ≤ 3 * mz n
  | .mk _ _ t ns ks => by
    have := cmNL_le ks
    simp only [cmN, mz]
    omega
theorem cmNL_le : ∀ (ks : List Nd), cmNL ks ≤ 3 * (ks.length + mzL ks)
  | [] => by simp [cmNL]
  | x :: r => by
    have := cmN_le x
    have := cmNL_le r
    simp only [cmNL, mzL, List.length_cons]
    omega
end

structure KN (w : World) (F : Nat → Prop) (l : Sl) (cs : List NdC) (ks : List Nd) : Prop where
  own : Own 0 40 5 w l (cs.flatMap cN)
  ob : ∀ k, l.v.ownBlock = some k → F k
  len : cs.length = ks.length
  ex : ∃ Fs : Nat → Nat → Prop, (∀ i k, Fs i k → F k ∧ l.v.ownBlock ≠ some k) ∧ (∀ i j k, Fs i k → Fs j k → i = j) ∧ ∀ (i : Nat) d y, cs[i]? = some d → ks[i]? = some y → NdM w (Fs i) d y

set_option maxHeartbeats 2000000 in
theorem c_laws_markNodeS : ∀ (N : Nat) (w : World) (F : Nat → Prop) (l : Sl) (cs : List NdC) (ks : List Nd) (k : Int), cntL ks < N → KN w F l cs ks → 0 ≤ k → k + cmNL ks ≤ 800000000 → ks.length + mzL ks ≤ 1048576 →
    CallR Try.prog 51 [.slice l.a l.len l.cap, .int .i64 k] w (fun v w' => v = .int .i64 (k + cmNL ks) ∧ ChgF F w w') := by
  intro N
  induction N with
  | zero => intro w F l cs ks k hN; omega
  | succ N ih =>
    intro w F l cs ks k hN ⟨hown, hob, hlen, Fs, hs, hd, hM⟩ h1 h2 h3
    refine fn_laws_markNodeS _ _ _ _ ?_
    unfold g_laws_markNodeS
    simp only [add_nought]
    have hll := hown.len cN_len (by decide)
    have hkl : 3 * ks.length ≤ cmNL ks := by
      clear ih hN hM h1 h2 h3 hll hlen
      induction ks with
      | nil => simp
      | cons x r ihr => simp only [cmNL, List.length_cons]; omega
    refine sLoop_list ks (fun pre t w' => t.1 = k + cmNL pre ∧ ∃ cx : List NdC, Own 0 40 5 w' l (cx.flatMap cN) ∧ cx.length = ks.length ∧ (∀ (i : Nat) d y, pre.length ≤ i → cx[i]? = some d → ks[i]? = some y → NdM w' (Fs i) d y) ∧ ChgF F w w')
      ⟨by simp [cmNL], cs, hown, hlen, fun i d y _ q1 q2 => hM i d y q1 q2, ChgF.ext (Ext.refl _)⟩ ?_ ?_
    · rintro K pre post x ⟨t, u⟩ w1 hx ⟨ht, cx, ho, hcl, hm1, hc1⟩ hK _
      simp only at ht
      subst ht
      dsimp only
      have hm := mid_len hx
      have hxg := mid_get hx
      have hcm : cmNL pre + (3 + cmN x + cmNL post) = cmNL ks := by rw [hx, cmNL_append]; simp only [cmNL]
      have hmz : mzL pre + (mz x + mzL post) = mzL ks := by rw [hx, mzL_append]; simp only [mzL]
      have hcx' := cmN_eq x
      have hmx' := mz_eq x
      have hsz := sizeS_nonneg x.ns
      obtain ⟨d, hdx⟩ : ∃ d, cx[pre.length]? = some d := ⟨cx[pre.length]'(by omega), List.getElem?_eq_getElem (by omega)⟩
      have hxM : NdM w1 (Fs pre.length) d x := hm1 pre.length d x (Nat.le_refl _) hdx hxg
      have lno : ∀ i j, Fs i j → l.v.ownBlock ≠ some j := fun i j hf => (hs i j hf).2
      have keep2 : ∀ {wa wb : World} (i : Nat) d0 y, wa.grownBy wb l.v.ownBlock → NdM wa (Fs i) d0 y → NdM wb (Fs i) d0 y := fun i d0 y gr h => h.grown gr fun j hj hf => lno i j hf hj
      have hll1 := ho.len cN_len (by decide)
      -- Kind
      obtain ⟨g, hg, p1, o1, g1⟩ := ho.setEl (j := 0) (d' := ⟨k + cmNL pre, d.m, d.t, d.sn, d.sk⟩) (v := .int .i64 (k + cmNL pre)) cN_len hdx (by decide) rfl
      refine br_dt (by omega) (onSome_i hg ⟨⟨by omega, by omega⟩, ?_⟩)
      rw [Int.toNat_natCast]
      rw [Nat.add_zero] at p1 o1 g1
      refine ⟨p1, letW_i fun w2 hw2 => ⟨inR_i64 (by omega) (by omega), onSome_i hg ⟨⟨by omega, by omega⟩, ?_⟩⟩⟩
      rw [← hw2] at o1 g1
      clear hw2
      -- Num
      have hd1 : (cx.set pre.length ⟨k + cmNL pre, d.m, d.t, d.sn, d.sk⟩)[pre.length]? = some ⟨k + cmNL pre, d.m, d.t, d.sn, d.sk⟩ := by rw [List.getElem?_set_self (by omega)]
      obtain ⟨g', hg', p2, o2, g2⟩ := o1.setEl (j := 1) (d' := ⟨k + cmNL pre, k + cmNL pre + 1, d.t, d.sn, d.sk⟩) (v := .int .i64 (k + cmNL pre + 1)) cN_len hd1 (by decide) rfl
      rw [hg] at hg'
      obtain rfl : g = g' := by simpa using hg'
      rw [List.set_set] at o2
      rw [add_add']
      refine ⟨p2, letW_i fun w3 hw3 => ⟨inR_i64 (by omega) (by omega), ?_⟩⟩
      rw [← hw3] at o2 g2
      clear hw3
      refine (c_laws_markText _ w3 (by omega)).go fun w4 e4 => ⟨_, rfl, onSome_i hg ⟨⟨by omega, by omega⟩, ?_⟩⟩
      -- Text
      have o3 := o2.ext e4
      have hd2 : (cx.set pre.length ⟨k + cmNL pre, k + cmNL pre + 1, d.t, d.sn, d.sk⟩)[pre.length]? = some ⟨k + cmNL pre, k + cmNL pre + 1, d.t, d.sn, d.sk⟩ := by rw [List.getElem?_set_self (by omega)]
      obtain ⟨g', hg', p4, o4, g4⟩ := o3.setEl (j := 2) (d' := ⟨k + cmNL pre, k + cmNL pre + 1, mtx (k + cmNL pre + 1 + 1), d.sn, d.sk⟩) (v := .string (mtx (k + cmNL pre + 1 + 1))) cN_len hd2 (by decide) rfl
      rw [hg] at hg'
      obtain rfl : g = g' := by simpa using hg'
      rw [List.set_set] at o4
      rw [add_add']
      refine ⟨p4, letW_i fun w5 hw5 => ⟨inR_i64 (by omega) (by omega), onSome_i hg ⟨⟨by omega, by omega⟩, ?_⟩⟩⟩
      rw [← hw5] at o4 g4
      clear hw5
      generalize hcx5 : cx.set pre.length (⟨k + cmNL pre, k + cmNL pre + 1, mtx (k + cmNL pre + 1 + 1), d.sn, d.sk⟩ : NdC) = cx5 at o4
      have hd5 : cx5[pre.length]? = some ⟨k + cmNL pre, k + cmNL pre + 1, mtx (k + cmNL pre + 1 + 1), d.sn, d.sk⟩ := by rw [← hcx5, List.getElem?_set_self (by omega)]
      have to5 : ∀ (i : Nat) d0 y, NdM w1 (Fs i) d0 y → NdM w5 (Fs i) d0 y := fun i d0 y h => keep2 i d0 y g4 ((keep2 i d0 y g2 (keep2 i d0 y g1 h)).ext e4)
      have c15 : ChgF F w1 w5 := ((ChgF.grown g1 hob).trans ((ChgF.grown g2 hob).trans (ChgF.ext e4))).trans (ChgF.grown g4 hob)
      have row5 : ∀ w', Own 0 40 5 w' l (cx5.flatMap cN) → w'.cell? ((⟨g, 0, none⟩ : Addr).add (pre.length * 5 + 3)) = some (.slice d.sn.a d.sn.len d.sn.cap) ∧ w'.cell? ((⟨g, 0, none⟩ : Addr).add (pre.length * 5 + 4)) = some (.slice d.sk.a d.sk.len d.sk.cap) := fun w' o' => by
        obtain ⟨a, ha, _, _, _, q3, q4⟩ := nd_at (o'.slOf cN_len (by decide)) hd5
        rw [hg] at ha
        obtain rfl := Option.some.inj ha
        rw [Int.toNat_natCast, add_add'] at q3 q4
        exact ⟨q3, q4⟩
      have hx5 := to5 _ _ _ hxM
      clear hxM
      generalize hFi : Fs pre.length = Fi at hx5
      cases hx5 with
      | mk _ Fs' _ names kids cs2 on ok' hl2 hF' hs' hd' hmx hM' =>
        simp only [Nd.ns, Nd.ks, Nd.t] at hcx' hmx' hsz
        have blo : ∀ j, (d.sn.v.ownBlock = some j ∨ d.sk.v.ownBlock = some j) → l.v.ownBlock ≠ some j := fun j hj => lno pre.length j (by rw [hFi]; exact hF' j hj)
        rw [add_add', exL (row5 w5 o4).1]
        refine (c_laws_markStringS (k + cmNL pre + 1 + 1 + 1) on (Nat.zero_le _) (by omega) (by omega) (by omega)).mono ?_
        rintro _ w6 ⟨rfl, on6, gr6⟩
        have o6 := o4.keepB (w' := w6) fun j hj => gr6.block j (o4.lt j hj).2 fun e => blo j (.inl e.symm) hj
        have ok6 := apart_keep ok' on (by decide) gr6
        have hM6 : ∀ (i : Nat) d0 n0, cs2[i]? = some d0 → kids[i]? = some n0 → NdM w6 (Fs' i) d0 n0 := fun i d0 n0 q1 q2 => (hM' i d0 n0 q1 q2).grown gr6 fun j hj hf => (hs' i j hf).2.1 hj
        refine ⟨_, rfl, onSome_i hg ⟨⟨by omega, by omega⟩, ?_⟩⟩
        rw [add_add', exL (row5 w6 o6).2]
        have hcn : cntL ks = cntL pre + ((1 + cntL kids) + cntL post) := by rw [hx, cntL_append]; simp only [cntL, cnt]
        have hKN : KN w6 (fun j => (∃ i, Fs' i j) ∨ d.sk.v.ownBlock = some j) d.sk cs2 kids := ⟨ok6, fun j hj => .inr hj, hl2, Fs', fun i j hf => ⟨.inl ⟨i, hf⟩, (hs' i j hf).2.2⟩, hd', hM6⟩
        refine (ih w6 _ d.sk cs2 kids _ (by omega) hKN (by omega) (by omega) (by omega)).mono ?_
        rintro _ w7 ⟨rfl, c7⟩
        have inFi : ∀ j, ((∃ i, Fs' i j) ∨ d.sk.v.ownBlock = some j) → Fi j := fun j hj => by
          rcases hj with ⟨i, hf⟩ | hf
          · exact (hs' i j hf).1
          · exact hF' j (.inr hf)
        have o7 := o6.keepB (w' := w7) fun j hj => c7.block j (o6.lt j hj).2 fun e => lno pre.length j (by rw [hFi]; exact inFi j e) hj
        have f0 : ∀ j, Fi j → F j := fun j hj => (hs pre.length j (by rw [hFi]; exact hj)).1
        have c57 : ChgF F w5 w7 := (ChgF.grown gr6 fun j hj => f0 j (hF' j (.inl hj))).trans (c7.mono fun j hj => f0 j (inFi j hj))
        refine ⟨_, rfl, inR_i64 (by omega) (by omega), hK _ _ ⟨?_, cx5, o7, by rw [← hcx5]; simp [hcl], fun i d0 y hi q1 q2 => ?_, hc1.trans (c15.trans c57)⟩⟩
        · simp only [cmNL_append, cmNL, cmN]; omega
        · rw [List.length_append, List.length_singleton] at hi
          rw [← hcx5, List.getElem?_set_ne (by omega)] at q1
          have h0 := to5 i d0 y (hm1 i d0 y (by omega) q1 q2)
          have apart : ∀ j, Fs i j → ¬ Fi j := fun j hf he => by
            have := hd i pre.length j hf (by rw [hFi]; exact he)
            omega
          exact (h0.grown gr6 fun j hj hf => apart j hf (hF' j (.inl hj))).keep fun j hf hlt => c7.block j hlt fun e => apart j hf (inFi j e)
    · rintro K ⟨t, u⟩ w1 ⟨ht, cx, ho, hcl, hm1, hc1⟩ _
      simp only at ht
      subst ht
      exact br_df (by first | omega | (simp only; omega)) ⟨rfl, hc1⟩

theorem c_laws_markNode {w : World} {F : Nat → Prop} {c : NdC} {n : Nd} (k : Int) (h : NdM w F c n) (hF : ∀ j, F j → j < w.heap.size) (h1 : 0 ≤ k) (h2 : k ≤ 700000000) (h3 : mz n ≤ 1048576) :
    CallR Try.prog 22 [c.v, .int .i64 k] w (fun v w' => v = .int .i64 (k + cmN n) ∧ ChgF F w w') := by
  refine fn_laws_markNode _ _ _ _ _ _ _ _ ?_
  unfold g_laws_markNode
  refine ndStart fun w1 e1 r1 => ?_
  obtain ⟨k0, k1, k2, k3, k4⟩ := Row.nd r1
  rw [exL k3]
  have hh := h.ext e1
  have hle := cmN_le n
  have hcn := cmN_eq n
  have hmz := mz_eq n
  have hsz := sizeS_nonneg n.ns
  cases hh with
  | mk _ Fs _ names kids cs on ok hl hF' hs hd hm hM =>
    simp only [Nd.ns, Nd.ks, Nd.t] at hcn hmz hsz
    refine (c_laws_markStringS k on (Nat.zero_le _) (by omega) (by omega) (by omega)).mono ?_
    rintro _ w3 ⟨rfl, on3, gr3⟩
    have ok3 := apart_keep ok on (by decide) gr3
    have hM3 : ∀ (i : Nat) d0 n0, cs[i]? = some d0 → kids[i]? = some n0 → NdM w3 (Fs i) d0 n0 := fun i d0 n0 q1 q2 => (hM i d0 n0 q1 q2).grown gr3 fun j hj hf => (hs i j hf).2.1 hj
    have r3 := r1.of_same (gr3.block _ r1.lt fun e => by have := hF _ (hF' _ (.inl e.symm)); omega)
    refine ⟨_, rfl, ?_⟩
    rw [exL (Row.nd r3).2.2.2.2]
    have hKN : KN w3 (fun j => (∃ i, Fs i j) ∨ c.sk.v.ownBlock = some j) c.sk cs kids := ⟨ok3, fun j hj => .inr hj, hl, Fs, fun i j hf => ⟨.inl ⟨i, hf⟩, (hs i j hf).2.2⟩, hd, hM3⟩
    refine (c_laws_markNodeS (cntL kids + 1) w3 _ c.sk cs kids _ (by omega) hKN (by omega) (by omega) (by omega)).mono ?_
    rintro _ w4 ⟨rfl, c4⟩
    refine ⟨_, rfl, by rw [hcn]; congr 1; omega, (ChgF.ext e1).trans ((ChgF.grown gr3 fun j hj => hF' j (.inl hj)).trans (c4.mono fun j hj => ?_))⟩
    rcases hj with ⟨i, hf⟩ | hf
    · exact (hs i j hf).1
    · exact hF' j (.inr hf)
end Go.Proofs
