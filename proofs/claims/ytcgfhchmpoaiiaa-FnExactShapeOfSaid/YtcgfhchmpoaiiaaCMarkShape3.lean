/-
  What functions of this seat compute, part 'MarkShape3': contracts over their readable predicates. Conditions: each theorem's own hypotheses.
-/
import Derived.Test.YtcgfhchmpoaiiaaBase
import Derived.Test.YtcgfhchmpoaiiaaOpen
import Derived.Test.YtcgfhchmpoaiiaaGen
import Derived.Test.YtcgfhchmpoaiiaaCSmall
import Derived.Test.YtcgfhchmpoaiiaaCOrder
import Derived.Test.YtcgfhchmpoaiiaaCNode
import Derived.Test.YtcgfhchmpoaiiaaCNodeText
import Derived.Test.YtcgfhchmpoaiiaaCNodeValid
import Derived.Test.YtcgfhchmpoaiiaaCNodeSpec
import Derived.Test.YtcgfhchmpoaiiaaCHelpS
import Derived.Test.YtcgfhchmpoaiiaaCNodeHelp
import Derived.Test.YtcgfhchmpoaiiaaCNodeHelp2
import Derived.Test.YtcgfhchmpoaiiaaCNodeTop
import Derived.Test.YtcgfhchmpoaiiaaCMark
import Derived.Test.YtcgfhchmpoaiiaaCStrMark
import Derived.Test.YtcgfhchmpoaiiaaCCells
import Derived.Test.YtcgfhchmpoaiiaaCShape
import Derived.Test.YtcgfhchmpoaiiaaCShape2
import Derived.Test.YtcgfhchmpoaiiaaCShapeOf
import Derived.Test.YtcgfhchmpoaiiaaCMarkShape
import Derived.Test.YtcgfhchmpoaiiaaCMarkShape2
namespace Go.Proofs
open Go Go.Vc Go.RowKit
set_option maxRecDepth 100000
set_option linter.unusedVariables false
--! C:Small C:Order C:Node C:NodeText C:NodeValid C:NodeSpec C:HelpS C:NodeHelp C:NodeHelp2 C:NodeTop C:Mark C:StrMark C:Cells C:Shape C:Shape2 C:ShapeOf C:MarkShape C:MarkShape2
/-! ## Shapes are marked -/

/-- Only blocks of 'F' change, and new ones come. -/
structure ChgF (F : Nat → Prop) (w w' : World) : Prop where
  os : w'.os = w.os
  tape : w'.tape = w.tape
  output : w'.output = w.output
  size : w.heap.size ≤ w'.heap.size
  block : ∀ j, j < w.heap.size → ¬ F j → w'.heap[j]? = w.heap[j]?

theorem ChgF.trans {F : Nat → Prop} {a b c : World} (h : ChgF F a b) (k : ChgF F b c) : ChgF F a c :=
  ⟨k.os.trans h.os, k.tape.trans h.tape, k.output.trans h.output, Nat.le_trans h.size k.size, fun j hj hn => (k.block j (Nat.lt_of_lt_of_le hj h.size) hn).trans (h.block j hj hn)⟩
theorem ChgF.ext {F : Nat → Prop} {a b : World} (h : Ext a b) : ChgF F a b := ⟨h.os, h.tape, h.output, h.size, fun j hj _ => h.block j hj⟩
theorem ChgF.grown {F : Nat → Prop} {a b : World} {row : Option Nat} (h : a.grownBy b row) (hr : ∀ k, row = some k → F k) : ChgF F a b :=
  ⟨h.os, h.tape, h.output, h.size, fun j hj hn => h.block j hj fun e => hn (hr j e.symm)⟩
theorem ChgF.mono {F G : Nat → Prop} {a b : World} (h : ChgF F a b) (hk : ∀ k, F k → G k) : ChgF G a b := ⟨h.os, h.tape, h.output, h.size, fun j hj hn => h.block j hj fun e => hn (hk j e)⟩

structure KM (w : World) (F : Nat → Prop) (l : Sl) (cs : List ShC) (ks : List Sh) : Prop where
  own : Own 0 31 4 w l (cs.flatMap cSh)
  ob : ∀ k, l.v.ownBlock = some k → F k
  len : cs.length = ks.length
  ex : ∃ Fs : Nat → Nat → Prop, (∀ i k, Fs i k → F k ∧ l.v.ownBlock ≠ some k) ∧ (∀ i j k, Fs i k → Fs j k → i = j) ∧ ∀ (i : Nat) d y, cs[i]? = some d → ks[i]? = some y → ShM w (Fs i) d y

theorem set_mid2 {α : Type} {A B : List α} {z v : α} {k : Nat} (hk : A.length = k) : (A ++ z :: B).set k v = A ++ v :: B := by
  subst hk
  rw [List.set_append_right _ _ (Nat.le_refl _), Nat.sub_self, List.set_cons_zero]

theorem apart_keep {b1 b2 n1 n2 : Nat} {t1 t2 : TypeId} {w w' : World} {s1 s2 : Sl} {v1 v2 : List Value} (h : Own b1 t1 n1 w s1 v1) (k : Own b2 t2 n2 w s2 v2) (hne : t1 ≠ t2) (hg : w.grownBy w' s2.v.ownBlock) : Own b1 t1 n1 w' s1 v1 :=
  h.keepB fun j hj => hg.block j (h.lt j hj).2 fun e => by
    rcases own_apart h k hne with q | q
    · rw [q] at hj; cases hj
    · exact q (hj.trans e)

theorem mtxGo_size : ∀ (k : Nat) (t : ByteArray), (mtxGo k t).size ≤ t.size + k := by
  intro k
  induction k using Nat.strongRecOn with
  | _ k ih =>
    intro t
    by_cases h : k = 0
    · subst h; rw [mtxGo_nought]; omega
    · rw [mtxGo_step h]
      have := ih (k / 10) (by omega) (⟨#[UInt8.ofNat (48 + k % 10)]⟩ ++ t)
      have h1 : (⟨#[UInt8.ofNat (48 + k % 10)]⟩ : ByteArray).size = 1 := rfl
      rw [ByteArray.size_append, h1] at this
      omega
theorem mtx_size {k : Int} (h : k ≤ 1000000000) : (mtx k).size ≤ maxLen := by
  unfold mtx maxLen
  split
  · decide
  · have := mtxGo_size k.toNat ⟨#[]⟩
    have h1 : (⟨#[109]⟩ : ByteArray).size = 1 := rfl
    have h2 : (⟨#[]⟩ : ByteArray).size = 0 := rfl
    rw [ByteArray.size_append, h1]
    omega
theorem markS_size : ∀ (n : Nat) (k : Int), k + n ≤ 1000000000 → ∀ x ∈ markS k n, x.size ≤ maxLen
  | 0, k, _, x, h => by simp [markS] at h
  | n + 1, k, hk, x, h => by
    simp only [markS, List.mem_cons] at h
    rcases h with rfl | h
    · exact mtx_size (by omega)
    · exact markS_size n (k + 1) (by omega) x h

set_option maxHeartbeats 2000000 in
theorem c_laws_markShapeS : ∀ (N : Nat) (w : World) (F : Nat → Prop) (l : Sl) (cs : List ShC) (ks : List Sh) (k : Int), cnSL ks < N → KM w F l cs ks → 0 ≤ k → k + cmL ks ≤ 800000000 → cmL ks ≤ 1000000 →
    CallR Try.prog 53 [.slice l.a l.len l.cap, .int .i64 k] w (fun v w' => ∃ cs', v = .int .i64 (k + cmL ks) ∧ KM w' F l cs' (mkL k ks) ∧ ChgF F w w') := by
  intro N
  induction N with
  | zero => intro w F l cs ks k hN; omega
  | succ N ih =>
    intro w F l cs ks k hN ⟨hown, hob, hlen, Fs, hs, hd, hM⟩ h1 h2 h3
    refine fn_laws_markShapeS _ _ _ _ ?_
    unfold g_laws_markShapeS
    simp only [add_nought]
    have hll := hown.len cSh_len (by decide)
    have hkl : ks.length ≤ cmL ks := by
      clear ih hN hM h1 h2 h3 hll hlen
      induction ks with
      | nil => simp
      | cons x r ihr => simp only [cmL, List.length_cons]; omega
    refine sLoop_list ks (fun pre t w' => t.1 = k + cmL pre ∧ ∃ cx : List ShC, Own 0 31 4 w' l (cx.flatMap cSh) ∧ cx.length = ks.length ∧ (∀ (i : Nat) d y, cx[i]? = some d → (mkL k pre ++ ks.drop pre.length)[i]? = some y → ShM w' (Fs i) d y) ∧ ChgF F w w')
      ⟨by simp [cmL], cs, hown, hlen, by simpa [mkL] using hM, ChgF.ext (Ext.refl _)⟩ ?_ ?_
    · rintro K pre post x ⟨t, u⟩ w1 hx ⟨ht, cx, ho, hcl, hm1, hc1⟩ hK _
      simp only at ht
      subst ht
      dsimp only
      have hm := mid_len hx
      have hcm : cmL pre + (1 + cm x + cmL post) = cmL ks := by rw [hx, cmL_append]; simp only [cmL]
      have hcx' := cm_eq x
      have hdr : ks.drop pre.length = x :: post := by rw [hx]; simp
      rw [hdr] at hm1
      have hml := mkL_len pre k
      obtain ⟨d, hdx⟩ : ∃ d, cx[pre.length]? = some d := ⟨cx[pre.length]'(by omega), List.getElem?_eq_getElem (by omega)⟩
      have hsp : cx = cx.take pre.length ++ d :: cx.drop (pre.length + 1) := by
        have h0 := (List.getElem?_eq_some_iff.1 hdx).2
        rw [← h0]; simp
      have htl : (cx.take pre.length).length = pre.length := by simp; omega
      have hxM : ShM w1 (Fs pre.length) d x := hm1 pre.length d x hdx (by rw [List.getElem?_append_right (by omega), hml, Nat.sub_self]; rfl)
      have fA : ((cx.take pre.length).flatMap cSh).length = pre.length * 4 := by rw [flatMap_len cSh_len, htl]
      have hfl : cx.flatMap cSh = (cx.take pre.length).flatMap cSh ++ .int .i64 d.k :: (.slice d.sn.a d.sn.len d.sn.cap :: .slice d.sb.a d.sb.len d.sb.cap :: .slice d.sk.a d.sk.len d.sk.cap :: (cx.drop (pre.length + 1)).flatMap cSh) := by
        conv => lhs; rw [hsp]
        simp [cSh]
      obtain ⟨g, hg, p, o2, gr⟩ := ho.setAt (k := pre.length * 4) (by rw [hfl]; simp [fA]) (.int .i64 (k + cmL pre))
      have hl1 := ho.len cSh_len (by decide)
      refine br_dt (by omega) (onSome_i hg ⟨⟨by omega, by omega⟩, ?_⟩)
      rw [Int.toNat_natCast]
      refine ⟨p, letW_i fun w2 hw2 => ⟨inR_i64 (by omega) (by omega), ?_⟩⟩
      rw [← hw2] at o2 gr
      clear hw2
      generalize hd2 : (⟨k + cmL pre, d.sn, d.sb, d.sk⟩ : ShC) = d2
      have hcx2 : (cx.flatMap cSh).set (pre.length * 4) (.int .i64 (k + cmL pre)) = (cx.set pre.length d2).flatMap cSh := by
        have h0 : cx.set pre.length d2 = cx.take pre.length ++ d2 :: cx.drop (pre.length + 1) := by
          conv => lhs; rw [hsp]
          exact set_mid2 htl
        rw [h0, hfl, set_mid2 fA, ← hd2]
        simp [cSh]
      rw [hcx2] at o2
      have lno : ∀ i j, Fs i j → l.v.ownBlock ≠ some j := fun i j hf => (hs i j hf).2
      have keep2 : ∀ (i : Nat) d0 y, ShM w1 (Fs i) d0 y → ShM w2 (Fs i) d0 y := fun i d0 y h => h.grown gr fun j hj hf => lno i j hf hj
      have hx2 := keep2 _ _ _ hxM
      have row2 : ∀ w', Own 0 31 4 w' l ((cx.set pre.length d2).flatMap cSh) → w'.cell? (((⟨g, 0, none⟩ : Addr).add (pre.length * 4)).add 1) = some (.slice d.sn.a d.sn.len d.sn.cap) ∧ w'.cell? (((⟨g, 0, none⟩ : Addr).add (pre.length * 4)).add 2) = some (.slice d.sb.a d.sb.len d.sb.cap) ∧ w'.cell? (((⟨g, 0, none⟩ : Addr).add (pre.length * 4)).add 3) = some (.slice d.sk.a d.sk.len d.sk.cap) := fun w' o' => by
        obtain ⟨a, ha, _, q1, q2, q3⟩ := sh_at (i := pre.length) (x := d2) (o'.slOf cSh_len (by decide)) (by rw [List.getElem?_set_self (by omega)])
        rw [hg] at ha
        obtain rfl := Option.some.inj ha
        rw [Int.toNat_natCast] at q1 q2 q3
        rw [← hd2] at q1 q2 q3
        exact ⟨q1, q2, q3⟩
      clear hxM
      generalize hFi : Fs pre.length = Fi at hx2
      cases hx2 with
      | mk _ Fs' _ names needs kids cs2 on ob' ok' hl2 hF' hs' hd' hmx hM' =>
        simp only [Sh.ns, Sh.bs, Sh.ks] at hcx'
        have blo : ∀ j, (d.sn.v.ownBlock = some j ∨ d.sb.v.ownBlock = some j ∨ d.sk.v.ownBlock = some j) → l.v.ownBlock ≠ some j := fun j hj => lno pre.length j (by rw [hFi]; exact hF' j hj)
        refine onSome_i hg ⟨⟨by omega, by omega⟩, ?_⟩
        rw [exL (row2 w2 o2).1]
        refine (c_laws_markStringS (k + cmL pre + 1) on (Nat.zero_le _) (by omega) (by omega) (by omega)).mono ?_
        rintro _ w3 ⟨rfl, on3, gr3⟩
        have o3 := o2.keepB (w' := w3) fun j hj => gr3.block j (o2.lt j hj).2 fun e => blo j (.inl e.symm) hj
        have ob3 := apart_keep ob' on (by decide) gr3
        have ok3 := apart_keep ok' on (by decide) gr3
        have hM3 : ∀ (i : Nat) d0 n0, cs2[i]? = some d0 → kids[i]? = some n0 → ShM w3 (Fs' i) d0 n0 := fun i d0 n0 q1 q2 => (hM' i d0 n0 q1 q2).grown gr3 fun j hj hf => (hs' i j hf).2.1 hj
        refine ⟨_, rfl, onSome_i hg ⟨⟨by omega, by omega⟩, ?_⟩⟩
        rw [exL (row2 w3 o3).2.1]
        refine (c_laws_markBoolS _ ob3 (by omega) (by omega) (by omega)).mono ?_
        rintro _ w4 ⟨rfl, ob4, gr4⟩
        have o4 := o3.keepB (w' := w4) fun j hj => gr4.block j (o3.lt j hj).2 fun e => blo j (.inr (.inl e.symm)) hj
        have on4 := apart_keep on3 ob3 (by decide) gr4
        have ok4 := apart_keep ok3 ob3 (by decide) gr4
        have hM4 : ∀ (i : Nat) d0 n0, cs2[i]? = some d0 → kids[i]? = some n0 → ShM w4 (Fs' i) d0 n0 := fun i d0 n0 q1 q2 => (hM3 i d0 n0 q1 q2).grown gr4 fun j hj hf => (hs' i j hf).2.2.1 hj
        refine ⟨_, rfl, onSome_i hg ⟨⟨by omega, by omega⟩, ?_⟩⟩
        rw [exL (row2 w4 o4).2.2]
        have hcn : cnSL ks = cnSL pre + ((1 + cnSL kids) + cnSL post) := by rw [hx, cnSL_append]; simp only [cnSL, cnS]
        have hKM : KM w4 (fun j => (∃ i, Fs' i j) ∨ d.sk.v.ownBlock = some j) d.sk cs2 kids := ⟨ok4, fun j hj => .inr hj, hl2, Fs', fun i j hf => ⟨.inl ⟨i, hf⟩, (hs' i j hf).2.2.2⟩, hd', hM4⟩
        refine (ih w4 _ d.sk cs2 kids _ (by omega) hKM (by omega) (by omega) (by omega)).mono ?_
        rintro _ w5 ⟨cs3, rfl, ⟨own5, ob5, len5, Fs5, hs5, hd5, hM5⟩, c5⟩
        have inFi : ∀ j, ((∃ i, Fs' i j) ∨ d.sk.v.ownBlock = some j) → Fi j := fun j hj => by
          rcases hj with ⟨i, hf⟩ | hf
          · exact (hs' i j hf).1
          · exact hF' j (.inr (.inr hf))
        have o5 := o4.keepB (w' := w5) fun j hj => c5.block j (o4.lt j hj).2 fun e => lno pre.length j (by rw [hFi]; exact inFi j e) hj
        have snk : ∀ j, d.sn.v.ownBlock = some j → ¬ ((∃ i, Fs' i j) ∨ d.sk.v.ownBlock = some j) := fun j hj e => by
          rcases e with ⟨i, hf⟩ | hf
          · exact (hs' i j hf).2.1 hj
          · rcases own_apart on4 ok4 (by decide) with q | q
            · rw [q] at hj; cases hj
            · exact q (hj.trans hf.symm)
        have sbk : ∀ j, d.sb.v.ownBlock = some j → ¬ ((∃ i, Fs' i j) ∨ d.sk.v.ownBlock = some j) := fun j hj e => by
          rcases e with ⟨i, hf⟩ | hf
          · exact (hs' i j hf).2.2.1 hj
          · rcases own_apart ob4 ok4 (by decide) with q | q
            · rw [q] at hj; cases hj
            · exact q (hj.trans hf.symm)
        have on5 := on4.keepB (w' := w5) fun j hj => c5.block j (on4.lt j hj).2 (snk j hj)
        have ob5' := ob4.keepB (w' := w5) fun j hj => c5.block j (ob4.lt j hj).2 (sbk j hj)
        have cF : ChgF F w1 w5 := by
          have f0 : ∀ j, Fi j → F j := fun j hj => (hs pre.length j (by rw [hFi]; exact hj)).1
          exact ((ChgF.grown gr fun j hj => hob j hj).trans ((ChgF.grown gr3 fun j hj => f0 j (hF' j (.inl hj))).trans (ChgF.grown gr4 fun j hj => f0 j (hF' j (.inr (.inl hj)))))).trans (c5.mono fun j hj => f0 j (inFi j hj))
        refine ⟨_, rfl, inR_i64 (by omega) (by omega), hK _ _ ⟨?_, cx.set pre.length d2, o5, by simp [hcl], fun i d0 y q1 q2 => ?_, hc1.trans cF⟩⟩
        · simp only [cmL_append, cmL, cm]; omega
        · have hmk : mkL k (pre ++ [Sh.mk d.k names needs kids]) ++ ks.drop (pre ++ [Sh.mk d.k names needs kids]).length = mkL k pre ++ setK (k + cmL pre) (mkS (k + cmL pre + 1) (Sh.mk d.k names needs kids)) :: post := by
            rw [mkL_append]
            have hd9 : ks.drop (pre ++ [Sh.mk d.k names needs kids]).length = post := by rw [hx]; simp
            rw [hd9]
            simp [mkL]
          rw [hmk] at q2
          by_cases hi : i = pre.length
          · subst hi
            rw [List.getElem?_set_self (by omega)] at q1
            obtain rfl := Option.some.inj q1
            rw [List.getElem?_append_right (by omega), hml, Nat.sub_self] at q2
            simp only [List.getElem?_cons_zero, Option.some.injEq] at q2
            subst q2
            rw [hFi]
            have hy : setK (k + cmL pre) (mkS (k + cmL pre + 1) (Sh.mk d.k names needs kids)) = Sh.mk d2.k (markS (k + cmL pre + 1) names.length) (markB (k + cmL pre + 1 + names.length) needs.length) (mkL (k + cmL pre + 1 + names.length + needs.length) kids) := by
              rw [← hd2]; simp [mkS, setK]
            rw [hy]
            have e1 : d2.sn = d.sn := by rw [← hd2]
            have e2 : d2.sb = d.sb := by rw [← hd2]
            have e3 : d2.sk = d.sk := by rw [← hd2]
            refine ShM.mk Fi Fs5 d2 _ _ _ cs3 (by rw [e1]; exact on5) (by rw [e2]; exact ob5') (by rw [e3]; exact own5) len5 (by rw [e1, e2, e3]; exact hF') (fun i j hf => ?_) hd5 ⟨by rw [markS_len]; exact hmx.1, by rw [markB_len]; exact hmx.2.1, by rw [mkL_len]; exact hmx.2.2.1, markS_size _ _ (by omega)⟩ hM5
            rw [e1, e2, e3]
            obtain ⟨f1, f2⟩ := hs5 i j hf
            exact ⟨inFi j f1, fun e => snk j e f1, fun e => sbk j e f1, f2⟩
          · rw [List.getElem?_set_ne (by omega)] at q1
            have hset : mkL k pre ++ setK (k + cmL pre) (mkS (k + cmL pre + 1) (Sh.mk d.k names needs kids)) :: post = (mkL k pre ++ Sh.mk d.k names needs kids :: post).set pre.length (setK (k + cmL pre) (mkS (k + cmL pre + 1) (Sh.mk d.k names needs kids))) := (set_mid2 hml).symm
            rw [hset, List.getElem?_set_ne (by omega)] at q2
            have h0 := keep2 _ _ _ (hm1 i d0 y q1 q2)
            have apart : ∀ j, Fs i j → ¬ Fi j := fun j hf he => hi (hd i pre.length j hf (by rw [hFi]; exact he))
            exact ((h0.grown gr3 fun j hj hf => apart j hf (hF' j (.inl hj))).grown gr4 fun j hj hf => apart j hf (hF' j (.inr (.inl hj)))).keep fun j hf hlt => c5.block j hlt fun e => apart j hf (inFi j e)
    · rintro K ⟨t, u⟩ w1 ⟨ht, cx, ho, hcl, hm1, hc1⟩ _
      simp only at ht
      subst ht
      refine br_df (by first | omega | (simp only; omega)) ⟨cx, rfl, ⟨ho, hob, by rw [hcl, mkL_len], Fs, hs, hd, fun i d y q1 q2 => hm1 i d y q1 (by simpa using q2)⟩, hc1⟩
end Go.Proofs
