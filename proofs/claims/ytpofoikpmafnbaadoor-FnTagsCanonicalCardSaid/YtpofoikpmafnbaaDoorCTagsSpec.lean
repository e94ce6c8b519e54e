/-
  What functions of this seat compute, part 'TagsSpec': contracts over their readable predicates. Conditions: each theorem's own hypotheses.
-/
import Derived.Test.YtpofoikpmafnbaaDoorBase
import Derived.Test.YtpofoikpmafnbaaDoorOpen
import Derived.Test.YtpofoikpmafnbaaDoorGen
import Derived.Test.YtpofoikpmafnbaaDoorCTags
import Derived.Test.YtpofoikpmafnbaaDoorCTagsShelf
import Derived.Test.YtpofoikpmafnbaaDoorCBstr
import Derived.Test.YtpofoikpmafnbaaDoorCBstr2
import Derived.Test.YtpofoikpmafnbaaDoorCTagsText
import Derived.Test.YtpofoikpmafnbaaDoorCTagsPlain
namespace Go.Proofs
open Go Go.Vc Go.RowKit
set_option maxRecDepth 100000
set_option linter.unusedVariables false
--! C:Tags C:TagsShelf C:Bstr C:Bstr2 C:TagsText C:TagsPlain
/-! ## Tags: ParseTags of the specification -/

theorem ext_four {s : ByteArray} {p r : List UInt8} {c : UInt8} (h : s.data.toList = p ++ c :: r) : s.extract (p.length + 1) (p.length + 5) = bstr (((c :: r).take 5).drop 1) := by
  unfold bstr
  apply ByteArray.ext
  apply Array.ext'
  have hd : (s.extract (p.length + 1) (p.length + 5)).data.toList = (s.data.toList.drop (p.length + 1)).take 4 := by
    have : p.length + 5 - (p.length + 1) = 4 := by omega
    simp [List.extract_eq_take_drop, this]
  rw [hd, h]
  have : p ++ c :: r = (p ++ [c]) ++ r := by simp
  rw [this, List.drop_left' (by simp)]
  simp

theorem drop_cons {l : List UInt8} {k : Nat} (h : k < l.length) : ∃ c r, l.drop k = c :: r ∧ l = l.take k ++ c :: r ∧ (l.take k).length = k := by
  refine ⟨l[k], l.drop (k + 1), List.drop_eq_getElem_cons h, ?_, by simp; omega⟩
  simp

set_option maxHeartbeats 1000000 in
theorem c_spec_ParseTags (s : ByteArray) (w : World) (hs : s.size ≤ 1000000000) : CallR Tryd.prog 6 [.string s] w (fun v w' => ∃ l : Sl, v = .tuple #[.slice l.a l.len l.cap, .bool (readS s).isSome] ∧
    Strs w' l ((readS s).getD []) ∧ Ext w w') := by
  suffices key : ∀ Φ : Value → World → Prop, (∀ (l : Sl) w', Strs w' l ((readS s).getD []) → Ext w w' → Φ (.tuple #[.slice l.a l.len l.cap, .bool (readS s).isSome]) w') → g_spec_ParseTags s w Φ from
    fn_spec_ParseTags _ _ _ (key _ fun l w' h1 h2 => ⟨l, rfl, h1, h2⟩)
  intro Φ hΦ
  unfold g_spec_ParseTags
  refine letW_i fun w1 hw1 => ?_
  have o1 : Own w.heap.size 9 1 w1 ⟨some ⟨w.heap.size, 0, none⟩, 0, 0⟩ (([] : List ByteArray).flatMap cS) := by rw [hw1]; exact Own.fresh w _ _ _ (Nat.le_refl _)
  have e1 : Ext w w1 := by rw [hw1]; exact (Ext.refl w).alloc _
  clear hw1
  have hsl := size_eq s
  have none_ : readS s = none → ∀ w', Ext w w' → Φ (.tuple #[.slice none 0 0, .bool false]) w' := fun hn w' e => by
    rw [hn] at hΦ
    exact hΦ ⟨none, 0, 0⟩ w' (SlOf.nil _ _) e
  -- what follows the loop
  have fin : ∀ (out : Sl) (acc : List ByteArray) (w4 : World), Own w.heap.size 9 1 w4 out (acc.flatMap cS) → Ext w w4 → scanS s.size true s.data.toList [] = some acc → acc.length ≤ 5 → (∀ x ∈ acc, x.size ≤ 4) →
      CallR Tryd.prog 13 [.slice out.a out.len out.cap] w4 (fun r18 w19 => ∃ s20 : ByteArray, r18 = .string s20 ∧ br (!(seqB s20 s)) (Φ (.tuple #[.slice none 0 0, .bool false]) w19) (CallR Tryd.prog 16 [.slice out.a out.len out.cap] w19 (fun r21 w22 => ∃ b23 : Bool, r21 = .bool b23 ∧ br (!b23) (Φ (.tuple #[.slice none 0 0, .bool false]) w22) (Φ (.tuple #[.slice out.a out.len out.cap, .bool true]) w22)))) := by
    intro out acc w4 o e hsc hl hx
    have hst := o.slOf cS_len (by decide)
    have m1 : acc.length ≤ maxLen := by unfold maxLen; omega
    have m2 : ∀ x ∈ acc, x.size ≤ maxLen := fun x hm => by have := hx x hm; unfold maxLen; omega
    have hR : readS s = if fmtStr acc = s ∧ vTags acc = true then some acc else none := by unfold readS; rw [hsc]
    refine (c_spec_FormatTags hst m1 m2).go fun w5 e5 => ⟨_, rfl, br_i (fun g => ?_) (fun g => ?_)⟩
    · rw [seqB_eq] at g
      have hne : ¬ fmtStr acc = s := of_decide_eq_false (nott g)
      exact none_ (by rw [hR, if_neg (fun h => hne h.1)]) _ (e.trans e5)
    · rw [seqB_eq] at g
      have heq : fmtStr acc = s := of_decide_eq_true (notf g)
      refine (c_spec_validTags (hst.ext e5) m1 m2).go fun w6 e6 => ⟨_, rfl, br_i (fun g2 => ?_) (fun g2 => ?_)⟩
      · have hv := nott g2
        exact none_ (by rw [hR, if_neg (fun h => by rw [hv] at h; cases h.2)]) _ ((e.trans e5).trans e6)
      · have hv := notf g2
        have hS : readS s = some acc := by rw [hR, if_pos ⟨heq, hv⟩]
        rw [hS] at hΦ
        exact hΦ out w6 ((hst.ext e5).ext e6) ((e.trans e5).trans e6)
  refine sLoop.intro (fun st w' => ∃ (k n : Nat) (acc : List ByteArray), st.2.1 = (k : Int) ∧ k ≤ s.size ∧ s.size - k ≤ n ∧ Own w.heap.size 9 1 w' st.1 (acc.flatMap cS) ∧ Ext w w' ∧ scanS n (decide (k = 0)) (s.data.toList.drop k) acc = scanS s.size true s.data.toList [] ∧ acc.length ≤ 5 ∧ (∀ x ∈ acc, x.size ≤ 4))
    (fun st _ => s.size - st.2.1.toNat) ⟨0, s.size, [], rfl, Nat.zero_le _, by omega, o1, e1, by simp, by simp, by simp⟩ ?_
  rintro ⟨out, at0, u⟩ w4 K ⟨k, n, acc, hat, hk, hn, ho, he, hsc, hacc, hxs⟩ hK _
  simp only at hat ho
  subst hat
  have hll := ho.len cS_len (by decide)
  dsimp only at hK ⊢
  refine br_d (fun hlt => ?_) (fun hlt => ?_)
  · have hlt' : k < s.data.toList.length := by omega
    obtain ⟨c, r, hdr, hsp, htk⟩ := drop_cons hlt'
    rw [hdr] at hsc
    have hb : byteAt s (k : Int) = (c.toNat : Int) := by have := byteAt_mid hsp; rwa [htk] at this
    have hrl : s.size = k + (r.length + 1) := by rw [hsl]; conv => lhs; rw [hsp]
                                                 rw [List.length_append, htk, List.length_cons]
    refine br_d (fun h4 => ?_) (fun h4 => ?_)
    · obtain ⟨m, rfl⟩ : ∃ m, n = m + 1 := ⟨n - 1, by omega⟩
      rw [scanS, if_neg (by omega)] at hsc
      -- a push, then on
      have push : ∀ (x : ByteArray) (j : Nat), x.size ≤ 4 → k + j ≤ s.size → 1 ≤ j → scanS m false (s.data.toList.drop (k + j)) (acc ++ [x]) = scanS s.size true s.data.toList [] →
          letW (w4.alloc (.cells #[.string x] 9)) (fun w6 => sAppend 9 1 16 ⟨out.a, out.len, out.cap⟩ ⟨(some (⟨w4.heap.size, 0, none⟩ : Addr)), 1, 1⟩ w6 (fun l7 w8 => InR .i64 ((k : Int) + (j : Int)) ∧ K (⟨l7.a, l7.len, l7.cap⟩, ((k : Int) + (j : Int)), ()) w8)) := by
        intro x j hx hj hj1 hnext
        refine push1 (c := cS) (x := x) cS_len (by decide) (fun u hu => by simp [cS] at hu; subst hu; rfl) ho (by have := he.size; omega) (by omega) (by decide) fun l2 wm w3 _ o3 em om gr => ⟨inR_i64 (by omega) (by omega), hK _ _ ⟨k + j, m, acc ++ [x], by simp, hj, by omega, o3, (he.trans em).own om gr (Nat.le_refl _), ?_, ?_, ?_⟩ ?_⟩
        · have : decide (k + j = 0) = false := decide_eq_false (by omega)
          rw [this]; exact hnext
        · simp; omega
        · intro y hy
          rcases List.mem_append.1 hy with hy | hy
          · exact hxs y hy
          · simp at hy; subst hy; exact hx
        · simp only; omega
      have mid : (decide (k = 0) = true ∨ c ≠ 44) → (((0 : Int) ≤ (k : Int) ∧ (k : Int) < (s.size : Int)) ∧ br ((byteAt s (k : Int)) == (42 : Int)) (letW (w4.alloc (.cells #[.string (⟨#[42]⟩ : ByteArray)] 9)) (fun w6 => sAppend 9 1 16 ⟨out.a, out.len, out.cap⟩ ⟨(some (⟨w4.heap.size, 0, none⟩ : Addr)), 1, 1⟩ w6 (fun l7 w8 => InR .i64 ((k : Int) + (1 : Int)) ∧ K (⟨l7.a, l7.len, l7.cap⟩, ((k : Int) + (1 : Int)), ()) w8)))
          (InR .i64 ((k : Int) + (6 : Int)) ∧ br (decide (((k : Int) + (6 : Int)) ≤ (s.size : Int))) (InR .i64 ((k : Int) + (1 : Int)) ∧ InR .i64 ((k : Int) + (5 : Int)) ∧ ((0 : Int) ≤ ((k : Int) + (1 : Int)) ∧ ((k : Int) + (1 : Int)) ≤ ((k : Int) + (5 : Int)) ∧ ((k : Int) + (5 : Int)) ≤ (s.size : Int)) ∧
            letW (w4.alloc (.cells #[.string (s.extract ((k : Int) + (1 : Int)).toNat ((k : Int) + (5 : Int)).toNat)] 9)) (fun w9 => sAppend 9 1 16 ⟨out.a, out.len, out.cap⟩ ⟨(some (⟨w4.heap.size, 0, none⟩ : Addr)), 1, 1⟩ w9 (fun l10 w11 => InR .i64 ((k : Int) + (6 : Int)) ∧ K (⟨l10.a, l10.len, l10.cap⟩, ((k : Int) + (6 : Int)), ()) w11))) (Φ (.tuple #[.slice none 0 0, .bool false]) w4))) := by
        intro hno
        rw [if_neg (fun h => by rcases hno with h1 | h1; · rw [h1] at h; cases h.1
                                · exact h1 h.2)] at hsc
        refine ⟨⟨by omega, by omega⟩, ?_⟩
        rw [hb]
        refine br_i (fun g => ?_) (fun g => ?_)
        · have hc : c = 42 := u8_eq (by simpa using g)
          rw [if_pos hc] at hsc
          refine push ⟨#[42]⟩ 1 (by decide) (by omega) (by omega) ?_
          rw [← List.drop_drop, hdr]
          exact hsc
        · have hc : c ≠ 42 := fun e => by rw [e] at g; simp at g
          rw [if_neg hc] at hsc
          refine ⟨inR_i64 (by omega) (by omega), br_d (fun g6 => ?_) (fun g6 => ?_)⟩
          · have hr6 : 6 ≤ (c :: r).length := by rw [List.length_cons]; omega
            rw [if_pos hr6] at hsc
            refine ⟨inR_i64 (by omega) (by omega), inR_i64 (by omega) (by omega), ⟨by omega, by omega, by omega⟩, ?_⟩
            have hx : s.extract ((k : Int) + (1 : Int)).toNat ((k : Int) + (5 : Int)).toNat = bstr (((c :: r).take 5).drop 1) := by
              have h1 : ((k : Int) + (1 : Int)).toNat = k + 1 := by omega
              have h5 : ((k : Int) + (5 : Int)).toNat = k + 5 := by omega
              rw [h1, h5]
              have := ext_four hsp
              rwa [htk] at this
            rw [hx]
            refine push _ 6 ?_ (by omega) (by omega) ?_
            · rw [bstr_size]; simp; omega
            · rw [← List.drop_drop, hdr]
              exact hsc
          · have hr6 : ¬ 6 ≤ (c :: r).length := by rw [List.length_cons]; omega
            rw [if_neg hr6] at hsc
            exact none_ (by unfold readS; rw [← hsc]) w4 he
      refine br_d (fun hpos => ?_) (fun hpos => mid (.inl (decide_eq_true (by omega))))
      refine ⟨⟨by omega, by omega⟩, ?_⟩
      have hb44 : ((byteAt s (k : Int)) == (44 : Int)) = decide (c = 44) := by
        rw [hb, Bool.eq_iff_iff, beq_iff_eq, decide_eq_true_iff]
        exact ⟨fun h => u8_eq h, fun h => by rw [h]; rfl⟩
      rw [hb44]
      refine br_d (fun h44 => ?_) (fun h44 => mid (.inr h44))
      rw [if_pos ⟨decide_eq_false (by omega), h44⟩] at hsc
      refine ⟨inR_i64 (by omega) (by omega), hK _ _ ⟨k + 1, m, acc, by simp, by omega, by omega, ho, he, ?_, hacc, hxs⟩ ?_⟩
      · have : decide (k + 1 = 0) = false := decide_eq_false (by omega)
        rw [this, ← List.drop_drop, hdr]
        exact hsc
      · simp only; omega
    · refine fin out acc w4 ho he ?_ hacc hxs
      rw [← hsc]
      cases n with
      | zero => rfl
      | succ m => rw [scanS, if_pos (by omega)]
  · refine fin out acc w4 ho he ?_ hacc hxs
    rw [← hsc, List.drop_of_length_le (by omega)]
    cases n <;> rfl
end Go.Proofs
