/-
  What functions of this seat compute, part 'ShapeOf2': contracts over their readable predicates. Conditions: each theorem's own hypotheses.
-/
import Derived.Test.YtcgfhchmpoaiiaaBase
import Derived.Test.YtcgfhchmpoaiiaaOpen
import Derived.Test.YtcgfhchmpoaiiaaGen
import Derived.Test.YtcgfhchmpoaiiaaCSmall
import Derived.Test.YtcgfhchmpoaiiaaCOrder
import Derived.Test.YtcgfhchmpoaiiaaCNode
import Derived.Test.YtcgfhchmpoaiiaaCNodeText
import Derived.Test.YtcgfhchmpoaiiaaCNodeValid
import Derived.Test.YtcgfhchmpoaiiaaCNodeSpec
import Derived.Test.YtcgfhchmpoaiiaaCHelpS
import Derived.Test.YtcgfhchmpoaiiaaCNodeHelp
import Derived.Test.YtcgfhchmpoaiiaaCNodeHelp2
import Derived.Test.YtcgfhchmpoaiiaaCNodeTop
import Derived.Test.YtcgfhchmpoaiiaaCCells
import Derived.Test.YtcgfhchmpoaiiaaCShape
import Derived.Test.YtcgfhchmpoaiiaaCShape2
import Derived.Test.YtcgfhchmpoaiiaaCShapeOf
namespace Go.Proofs
open Go Go.Vc Go.RowKit
set_option maxRecDepth 100000
set_option linter.unusedVariables false
--! C:Small C:Order C:Node C:NodeText C:NodeValid C:NodeSpec C:HelpS C:NodeHelp C:NodeHelp2 C:NodeTop C:Cells C:Shape C:Shape2 C:ShapeOf
/-! ## The shape of a node: the parts of the first literal, in whatever order -/

/-- What was made so far. -/
structure SoP (w2 w : World) (names : List ByteArray) (oa : Option Nat) (op : Option Sl) (ob ok on : Option Nat) : Prop where
  e : Ext w2 w
  a : ∀ x, oa = some x → Own w2.heap.size 9 1 w ⟨some ⟨x, 0, none⟩, 0, 0⟩ []
  p : ∀ l, op = some l → Own w2.heap.size 9 1 w l (names.flatMap cS)
  b : ∀ x, ob = some x → Own w2.heap.size 4 1 w ⟨some ⟨x, 0, none⟩, 0, 0⟩ []
  k : ∀ x, ok = some x → Own w2.heap.size 31 4 w ⟨some ⟨x, 0, none⟩, 0, 0⟩ []
  n : ∀ x, on = some x → w2.heap.size ≤ x ∧ Row w x (cSh zeroSh) 31

theorem SoP.ext {w2 w w' : World} {names : List ByteArray} {oa : Option Nat} {op : Option Sl} {ob ok on : Option Nat} (h : SoP w2 w names oa op ob ok on) (e : Ext w w') : SoP w2 w' names oa op ob ok on :=
  ⟨h.e.trans e, fun x hx => (h.a x hx).ext e, fun x hx => (h.p x hx).ext e, fun x hx => (h.b x hx).ext e, fun x hx => (h.k x hx).ext e, fun x hx => ⟨(h.n x hx).1, (h.n x hx).2.ext e⟩⟩

variable {w2 w : World} {names : List ByteArray} {oa : Option Nat} {op : Option Sl} {ob ok on : Option Nat}

theorem SoP.stepA {K : World → Prop} (h : SoP w2 w names none op ob ok on) (hk : ∀ w', SoP w2 w' names (some w.heap.size) op ob ok on → K w') : letW (w.alloc (.cells #[] 9)) K :=
  letW_i fun w' hw => by
    have e : Ext w w' := by rw [hw]; exact (Ext.refl w).alloc _
    have o : Own w2.heap.size 9 1 w' ⟨some ⟨w.heap.size, 0, none⟩, 0, 0⟩ [] := by rw [hw]; exact Own.fresh w _ 1 _ h.e.size
    exact hk w' { (h.ext e) with a := fun x hx => by rw [← Option.some.inj hx]; exact o }

theorem SoP.stepB {K : World → Prop} (h : SoP w2 w names oa op none ok on) (hk : ∀ w', SoP w2 w' names oa op (some w.heap.size) ok on → K w') : letW (w.alloc (.cells #[] 4)) K :=
  letW_i fun w' hw => by
    have e : Ext w w' := by rw [hw]; exact (Ext.refl w).alloc _
    have o : Own w2.heap.size 4 1 w' ⟨some ⟨w.heap.size, 0, none⟩, 0, 0⟩ [] := by rw [hw]; exact Own.fresh w _ 1 _ h.e.size
    exact hk w' { (h.ext e) with b := fun x hx => by rw [← Option.some.inj hx]; exact o }

theorem SoP.stepK {K : World → Prop} (h : SoP w2 w names oa op ob none on) (hk : ∀ w', SoP w2 w' names oa op ob (some w.heap.size) on → K w') : letW (w.alloc (.cells #[] 31)) K :=
  letW_i fun w' hw => by
    have e : Ext w w' := by rw [hw]; exact (Ext.refl w).alloc _
    have o : Own w2.heap.size 31 4 w' ⟨some ⟨w.heap.size, 0, none⟩, 0, 0⟩ [] := by rw [hw]; exact Own.fresh w _ 4 _ h.e.size
    exact hk w' { (h.ext e) with k := fun x hx => by rw [← Option.some.inj hx]; exact o }

theorem SoP.stepN {K : World → Prop} (h : SoP w2 w names oa op ob ok none) (hk : ∀ w', SoP w2 w' names oa op ob ok (some w.heap.size) → K w') : letW (w.alloc (.cells #[.int .i64 (0 : Int), .slice none 0 0, .slice none 0 0, .slice none 0 0] 31)) K :=
  letW_i fun w' hw => by
    have e : Ext w w' := by rw [hw]; exact (Ext.refl w).alloc _
    have o : Row w' w.heap.size (cSh zeroSh) 31 := by rw [hw]; exact Row.new w (cSh zeroSh) _
    exact hk w' { (h.ext e) with n := fun x hx => by rw [← Option.some.inj hx]; exact ⟨h.e.size, o⟩ }

theorem SoP.stepP {x : Nat} {s : Sl} {K : Sl → World → Prop} (hs : Strs w2 s names) (hq : s.a = none → s.cap = 0) (hl : names.length ≤ 1000) (h : SoP w2 w names (some x) none ob ok on) (hk : ∀ l w', SoP w2 w' names none (some l) ob ok on → K l w') :
    sAppend 9 1 16 ⟨some ⟨x, 0, none⟩, 0, 0⟩ ⟨s.a, s.len, s.cap⟩ w K := by
  have o := h.a x rfl
  have hsl := hs.len
  refine sAppend_i o (Vc.Src.of (hs.ext h.e) cS_len cS_one hq) (by simp only; omega) (by simp only; omega) h.e.size fun l w' _ o' hg => ?_
  simp only [List.nil_append] at o'
  have own : (⟨some ⟨x, 0, none⟩, 0, 0⟩ : Sl).v.ownBlock = some x := rfl
  rw [own] at hg
  have keep : ∀ k, k < w.heap.size → k ≠ x → w'.heap[k]? = w.heap[k]? := fun k hk hne => hg.block k hk fun e => hne (by simpa using e)
  refine hk l w' ⟨h.e.own o (by rw [own]; exact hg) (Nat.le_refl _), fun _ hx => (by cases hx), fun l' hl' => by rw [← Option.some.inj hl']; exact o', fun y hy => ?_, fun y hy => ?_, fun y hy => ?_⟩
  · have oy := h.b y hy
    refine oy.keepB fun k hk => keep k (oy.lt k hk).2 ?_
    rintro rfl
    rcases own_apart oy o (by decide) with q | q
    · rw [q] at hk; cases hk
    · exact q (by rw [hk, own])
  · have oy := h.k y hy
    refine oy.keepB fun k hk => keep k (oy.lt k hk).2 ?_
    rintro rfl
    rcases own_apart oy o (by decide) with q | q
    · rw [q] at hk; cases hk
    · exact q (by rw [hk, own])
  · obtain ⟨h1, h2⟩ := h.n y hy
    refine ⟨h1, h2.of_same (keep y h2.lt ?_)⟩
    rintro rfl
    exact row_apart o h2 (by decide) own

/-- The literal is filled. -/
theorem SoP.leaf {l : Sl} {xb xk xn : Nat} {kd : Int} {kids : List Sh} {K : World → Prop} (h : SoP w2 w names oa (some l) (some xb) (some xk) (some xn))
    (hk : ∀ w', Ext w2 w' → ShG w2.heap.size xn kd names kids 0 w' → K w') :
    Wr w (⟨xn, 0, none⟩ : Addr) ∧ letW (w.setCell (⟨xn, 0, none⟩ : Addr) (.int .i64 kd)) (fun q0 => Wr q0 ((⟨xn, 0, none⟩ : Addr).add 1) ∧ letW (q0.setCell ((⟨xn, 0, none⟩ : Addr).add 1) (.slice l.a l.len l.cap)) (fun q1 => Wr q1 ((⟨xn, 0, none⟩ : Addr).add 2) ∧ letW (q1.setCell ((⟨xn, 0, none⟩ : Addr).add 2) (.slice (some (⟨xb, 0, none⟩ : Addr)) 0 0)) (fun q2 => Wr q2 ((⟨xn, 0, none⟩ : Addr).add 3) ∧ letW (q2.setCell ((⟨xn, 0, none⟩ : Addr).add 3) (.slice (some (⟨xk, 0, none⟩ : Addr)) 0 0)) K))) := by
  obtain ⟨hn, rn⟩ := h.n xn rfl
  have ol := h.p l rfl
  have ob := h.b xb rfl
  have ok := h.k xk rfl
  have hkn : xk ≠ xn := by
    rintro rfl
    rcases ok.2 with ⟨hv, _⟩ | ⟨g, cap, cur, hv, _, hg, hnc, hcm, hcs, _⟩
    · simp [Sl.v] at hv
    · simp only [Sl.v, Value.slice.injEq] at hv
      obtain ⟨hv1, _, hv2⟩ := hv
      have hg1 : g = xk := by have := Option.some.inj hv1; injection this with h; exact h.symm
      subst hg1
      unfold Row at rn
      rw [rn] at hg
      simp only [Option.some.injEq, Obj.cells.injEq] at hg
      rw [← hg.1, ← hv2] at hcs
      simp [cSh] at hcs
  have a1 := row_apart ol rn (by decide)
  have a2 := row_apart ob rn (by decide)
  refine row_set4c (b := xn) rn fun w' r' c' => ?_
  have keep : ∀ k, k < w.heap.size → k ≠ xn → w'.heap[k]? = w.heap[k]? := fun k hk hne => c'.block k hk fun e => hne (by simpa using e)
  refine hk w' (h.e.chg c' hn) ⟨⟨l, ⟨some ⟨xb, 0, none⟩, 0, 0⟩, ⟨some ⟨xk, 0, none⟩, 0, 0⟩, [], fun _ _ => False, r', ol.keepB fun k hk => keep k (ol.lt k hk).2 fun e => a1 (by rw [← e]; exact hk), ?_, ?_, rfl, ?_, fun _ _ hf => hf.elim, fun _ _ hf => hf.elim, fun _ _ _ hf => hf.elim, fun j d x hd => by simp at hd⟩, hn⟩
  · exact ob.keepB fun k hk => keep k (ob.lt k hk).2 fun e => a2 (by rw [← e]; exact hk)
  · refine ok.keepB fun k hk => keep k (ok.lt k hk).2 fun e => ?_
    have : k = xk := (Option.some.inj hk).symm
    exact hkn (by rw [← this, e])
  · intro e
    have : xk = xn := Option.some.inj e
    exact hkn this

theorem SoP.start (w2 w : World) (names : List ByteArray) (e : Ext w2 w) : SoP w2 w names none none none none none :=
  ⟨e, fun _ h => by (cases h), fun _ h => by (cases h), fun _ h => by (cases h), fun _ h => by (cases h), fun _ h => by (cases h)⟩

/-- The grown shape, given out. -/
theorem ShG.done {B N : Nat} {kd : Int} {names : List ByteArray} {kids : List Sh} {i : Nat} {w : World} (h : ShG B N kd names kids i w) (hi : kids.length = i) (hm : names.length ≤ maxLen ∧ i ≤ maxLen ∧ ∀ x ∈ names, x.size ≤ maxLen) :
    ∃ e : ShC, Row w N (cSh e) 31 ∧ (∃ F, ShM w F e (.mk kd names (List.replicate i true) kids) ∧ (∀ k, F k → B ≤ k ∧ k < w.heap.size ∧ k ≠ N)) := by
  obtain ⟨⟨l, lb, lk, cs, Fs, hr, ol, ob, ok, hcl, hkN, hF, hFi, hFd, hM⟩, hBN⟩ := h
  have a1 := row_apart ol hr (by decide)
  have a2 := row_apart ob hr (by decide)
  refine ⟨⟨kd, l, lb, lk⟩, hr, fun k => B ≤ k ∧ k < w.heap.size ∧ k ≠ N, ?_, fun k h => h⟩
  refine ShM.mk _ Fs ⟨kd, l, lb, lk⟩ names (List.replicate i true) kids cs (ol.base_le (Nat.zero_le _)) (ob.base_le (Nat.zero_le _)) (ok.base_le (Nat.zero_le _)) (by rw [hcl, hi]) ?_ ?_ hFd ⟨hm.1, by simp; exact hm.2.1, by rw [hi]; exact hm.2.1, hm.2.2⟩ hM
  · rintro k (e | e | e)
    · exact ⟨(ol.lt k e).1, (ol.lt k e).2, by rintro rfl; exact a1 e⟩
    · exact ⟨(ob.lt k e).1, (ob.lt k e).2, by rintro rfl; exact a2 e⟩
    · exact ⟨(ok.lt k e).1, (ok.lt k e).2, by rintro rfl; exact hkN e⟩
  · intro j k hf
    obtain ⟨f1, f2, f3, f4, f5, f6⟩ := hF j k hf
    exact ⟨⟨f1, f2, f3⟩, f4, f5, f6⟩
end Go.Proofs
