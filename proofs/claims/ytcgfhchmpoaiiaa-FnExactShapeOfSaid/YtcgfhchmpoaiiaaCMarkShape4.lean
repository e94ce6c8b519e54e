/-
  What functions of this seat compute, part 'MarkShape4': contracts over their readable predicates. Conditions: each theorem's own hypotheses.
-/
import Derived.Test.YtcgfhchmpoaiiaaBase
import Derived.Test.YtcgfhchmpoaiiaaOpen
import Derived.Test.YtcgfhchmpoaiiaaGen
import Derived.Test.YtcgfhchmpoaiiaaCSmall
import Derived.Test.YtcgfhchmpoaiiaaCOrder
import Derived.Test.YtcgfhchmpoaiiaaCNode
import Derived.Test.YtcgfhchmpoaiiaaCNodeText
import Derived.Test.YtcgfhchmpoaiiaaCNodeValid
import Derived.Test.YtcgfhchmpoaiiaaCNodeSpec
import Derived.Test.YtcgfhchmpoaiiaaCHelpS
import Derived.Test.YtcgfhchmpoaiiaaCNodeHelp
import Derived.Test.YtcgfhchmpoaiiaaCNodeHelp2
import Derived.Test.YtcgfhchmpoaiiaaCNodeTop
import Derived.Test.YtcgfhchmpoaiiaaCMark
import Derived.Test.YtcgfhchmpoaiiaaCStrMark
import Derived.Test.YtcgfhchmpoaiiaaCCells
import Derived.Test.YtcgfhchmpoaiiaaCShape
import Derived.Test.YtcgfhchmpoaiiaaCShape2
import Derived.Test.YtcgfhchmpoaiiaaCShapeOf
import Derived.Test.YtcgfhchmpoaiiaaCMarkShape
import Derived.Test.YtcgfhchmpoaiiaaCMarkShape2
import Derived.Test.YtcgfhchmpoaiiaaCMarkShape3
namespace Go.Proofs
open Go Go.Vc Go.RowKit
set_option maxRecDepth 100000
set_option linter.unusedVariables false
--! C:Small C:Order C:Node C:NodeText C:NodeValid C:NodeSpec C:HelpS C:NodeHelp C:NodeHelp2 C:NodeTop C:Mark C:StrMark C:Cells C:Shape C:Shape2 C:ShapeOf C:MarkShape C:MarkShape2 C:MarkShape3
/-! ## A shape is marked -/

set_option maxHeartbeats 1000000 in
theorem c_laws_markShape {w : World} {F : Nat → Prop} {c : ShC} {x : Sh} (k : Int) (h : ShM w F c x) (hF : ∀ j, F j → j < w.heap.size) (h1 : 0 ≤ k) (h2 : k ≤ 700000000) (h3 : cm x ≤ 1000000) :
    CallR Try.prog 23 [c.v, .int .i64 k] w (fun v w' => v = .int .i64 (k + cm x) ∧ ShM w' F c (mkS k x) ∧ ChgF F w w') := by
  refine fn_laws_markShape _ _ _ _ _ _ _ ?_
  unfold g_laws_markShape
  refine shBox fun w1 e1 r1 => ?_
  obtain ⟨k0, k1, k2, k3⟩ := Row.sh r1
  rw [exL k1]
  have hh := h.ext e1
  cases hh with
  | mk _ Fs _ names needs kids cs on ob ok hl hF' hs hd hm hM =>
    have hcx : cm (Sh.mk c.k names needs kids) = names.length + needs.length + cmL kids := by simp [cm]
    have z1 : ∀ j, F j → j ≠ w.heap.size := fun j hj => by have := hF j hj; omega
    refine (c_laws_markStringS k on (Nat.zero_le _) (by omega) (by omega) (by omega)).mono ?_
    rintro _ w3 ⟨rfl, on3, gr3⟩
    have ob3 := apart_keep ob on (by decide) gr3
    have ok3 := apart_keep ok on (by decide) gr3
    have hM3 : ∀ (i : Nat) d0 n0, cs[i]? = some d0 → kids[i]? = some n0 → ShM w3 (Fs i) d0 n0 := fun i d0 n0 q1 q2 => (hM i d0 n0 q1 q2).grown gr3 fun j hj hf => (hs i j hf).2.1 hj
    have r3 := r1.of_same (gr3.block _ r1.lt fun e => z1 _ (hF' _ (.inl e.symm)) rfl)
    refine ⟨_, rfl, ?_⟩
    rw [exL (Row.sh r3).2.2.1]
    refine (c_laws_markBoolS _ ob3 (by omega) (by omega) (by omega)).mono ?_
    rintro _ w4 ⟨rfl, ob4, gr4⟩
    have on4 := apart_keep on3 ob3 (by decide) gr4
    have ok4 := apart_keep ok3 ob3 (by decide) gr4
    have hM4 : ∀ (i : Nat) d0 n0, cs[i]? = some d0 → kids[i]? = some n0 → ShM w4 (Fs i) d0 n0 := fun i d0 n0 q1 q2 => (hM3 i d0 n0 q1 q2).grown gr4 fun j hj hf => (hs i j hf).2.2.1 hj
    have r4 := r3.of_same (gr4.block _ r3.lt fun e => z1 _ (hF' _ (.inr (.inl e.symm))) rfl)
    refine ⟨_, rfl, ?_⟩
    rw [exL (Row.sh r4).2.2.2]
    have hKM : KM w4 (fun j => (∃ i, Fs i j) ∨ c.sk.v.ownBlock = some j) c.sk cs kids := ⟨ok4, fun j hj => .inr hj, hl, Fs, fun i j hf => ⟨.inl ⟨i, hf⟩, (hs i j hf).2.2.2⟩, hd, hM4⟩
    refine (c_laws_markShapeS (cnSL kids + 1) w4 _ c.sk cs kids _ (by omega) hKM (by omega) (by omega) (by omega)).mono ?_
    rintro _ w5 ⟨cs3, rfl, ⟨own5, ob5, len5, Fs5, hs5, hd5, hM5⟩, c5⟩
    have inF : ∀ j, ((∃ i, Fs i j) ∨ c.sk.v.ownBlock = some j) → F j := fun j hj => by
      rcases hj with ⟨i, hf⟩ | hf
      · exact (hs i j hf).1
      · exact hF' j (.inr (.inr hf))
    have snk : ∀ j, c.sn.v.ownBlock = some j → ¬ ((∃ i, Fs i j) ∨ c.sk.v.ownBlock = some j) := fun j hj e => by
      rcases e with ⟨i, hf⟩ | hf
      · exact (hs i j hf).2.1 hj
      · rcases own_apart on4 ok4 (by decide) with q | q
        · rw [q] at hj; cases hj
        · exact q (hj.trans hf.symm)
    have sbk : ∀ j, c.sb.v.ownBlock = some j → ¬ ((∃ i, Fs i j) ∨ c.sk.v.ownBlock = some j) := fun j hj e => by
      rcases e with ⟨i, hf⟩ | hf
      · exact (hs i j hf).2.2.1 hj
      · rcases own_apart ob4 ok4 (by decide) with q | q
        · rw [q] at hj; cases hj
        · exact q (hj.trans hf.symm)
    have on5 := on4.keepB (w' := w5) fun j hj => c5.block j (on4.lt j hj).2 (snk j hj)
    have ob5' := ob4.keepB (w' := w5) fun j hj => c5.block j (ob4.lt j hj).2 (sbk j hj)
    have cF : ChgF F w w5 := (ChgF.ext e1).trans (((ChgF.grown gr3 fun j hj => hF' j (.inl hj)).trans (ChgF.grown gr4 fun j hj => hF' j (.inr (.inl hj)))).trans (c5.mono inF))
    refine ⟨_, rfl, by rw [hcx]; congr 1; omega, ?_, cF⟩
    have hy : mkS k (Sh.mk c.k names needs kids) = Sh.mk c.k (markS k names.length) (markB (k + names.length) needs.length) (mkL (k + names.length + needs.length) kids) := by simp [mkS]
    rw [hy]
    refine ShM.mk F Fs5 c _ _ _ cs3 on5 ob5' own5 len5 hF' (fun i j hf => ?_) hd5 ⟨by rw [markS_len]; exact hm.1, by rw [markB_len]; exact hm.2.1, by rw [mkL_len]; exact hm.2.2.1, markS_size _ _ (by omega)⟩ hM5
    obtain ⟨f1, f2⟩ := hs5 i j hf
    exact ⟨inF j f1, fun e => snk j e f1, fun e => sbk j e f1, f2⟩
end Go.Proofs
