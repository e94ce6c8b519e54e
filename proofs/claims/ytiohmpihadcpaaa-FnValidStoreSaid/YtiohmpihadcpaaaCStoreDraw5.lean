/-
  What functions of this seat compute, part 'StoreDraw5': contracts over their readable predicates. Conditions: each theorem's own hypotheses.
-/
import Derived.Test.YtiohmpihadcpaaaBase
import Derived.Test.YtiohmpihadcpaaaOpen
import Derived.Test.YtiohmpihadcpaaaGen
import Derived.Test.YtiohmpihadcpaaaCSmall
import Derived.Test.YtiohmpihadcpaaaCOrder
import Derived.Test.YtiohmpihadcpaaaCNode
import Derived.Test.YtiohmpihadcpaaaCNodeText
import Derived.Test.YtiohmpihadcpaaaCNodeValid
import Derived.Test.YtiohmpihadcpaaaCNodeSpec
import Derived.Test.YtiohmpihadcpaaaCHelpS
import Derived.Test.YtiohmpihadcpaaaCNodeHelp
import Derived.Test.YtiohmpihadcpaaaCNodeHelp2
import Derived.Test.YtiohmpihadcpaaaCNodeTop
import Derived.Test.YtiohmpihadcpaaaCCells
import Derived.Test.YtiohmpihadcpaaaCItem
import Derived.Test.YtiohmpihadcpaaaCItem2
import Derived.Test.YtiohmpihadcpaaaCStoreLaws
import Derived.Test.YtiohmpihadcpaaaCNodeCopy
import Derived.Test.YtiohmpihadcpaaaCNodeAdd
import Derived.Test.YtiohmpihadcpaaaCDraw
import Derived.Test.YtiohmpihadcpaaaCNodeDraw
import Derived.Test.YtiohmpihadcpaaaCNodeDraw2
import Derived.Test.YtiohmpihadcpaaaCNodeDraw3
import Derived.Test.YtiohmpihadcpaaaCStoreDraw
import Derived.Test.YtiohmpihadcpaaaCStoreDraw2
import Derived.Test.YtiohmpihadcpaaaCStoreDraw3
import Derived.Test.YtiohmpihadcpaaaCStoreDraw4
namespace Go.Proofs
open Go Go.Vc Go.RowKit
set_option maxRecDepth 100000
set_option linter.unusedVariables false
--! C:Small C:Order C:Node C:NodeText C:NodeValid C:NodeSpec C:HelpS C:NodeHelp C:NodeHelp2 C:NodeTop C:Cells C:Item C:Item2 C:StoreLaws C:NodeCopy C:NodeAdd C:Draw C:NodeDraw C:NodeDraw2 C:NodeDraw3 C:StoreDraw C:StoreDraw2 C:StoreDraw3 C:StoreDraw4
/-! ## A drawn list of documents is changed -/

theorem IS.own {S : Nat → Prop} {w : World} {l : Sl} {xs : List It} (h : IS S w l xs) : ∀ k, l.v.ownBlock = some k → S k ∧ k < w.heap.size := by
  obtain ⟨⟨cs, o, ho, _⟩, _⟩ := h
  exact fun k hk => ⟨ho k hk, (o.lt k hk).2⟩

/-- A document is appended. -/
theorem IS.push {S : Nat → Prop} {w : World} {l : Sl} {xs : List It} {s : ByteArray} {v : Int} {d : NdC} {n : Nd} {C : World → Prop} {K : Sl → World → Prop} (h : IS S w l xs) (hC : ∀ wm, Ext w wm → C wm) (hd : NdAt (fun k => S k ∧ l.v.ownBlock ≠ some k) w d n) (hs : s.size ≤ maxLen) (hl : xs.length ≤ 1000)
    (hk : ∀ l' wm w', IS (fun k => S k ∨ w.heap.size < k) w' l' (xs ++ [(s, v, n)]) → Ext w wm → wm.grownBy w' l.v.ownBlock → K l' w') :
    letW (w.alloc (.cells #[.string s, .int .i64 v, .int .i64 d.k, .int .i64 d.m, .string d.t, .slice d.sn.a d.sn.len d.sn.cap, .slice d.sk.a d.sk.len d.sk.cap] 52)) (fun w35 => C w35 ∧ sAppend 52 7 104 ⟨l.a, l.len, l.cap⟩ ⟨(some (⟨w.heap.size, 0, none⟩ : Addr)), 1, 1⟩ w35 K) := by
  obtain ⟨⟨cs, o, ho, hcl, hkk⟩, h1, h2⟩ := h
  refine letW_i fun wm hwm => ?_
  have em : Ext w wm := by rw [hwm]; exact (Ext.refl w).alloc _
  have rm : Row wm w.heap.size (cIt (s, v, d)) 52 := by rw [hwm]; exact Row.new w (cIt (s, v, d)) _
  clear hwm
  have hll := o.len cIt_len (by decide)
  have zm := rm.lt
  refine ⟨hC _ em, .inl ⟨0, cs.flatMap cIt, cIt (s, v, d), o.ext em, Vc.Src.row (n := 1) rm (by simp [cIt, cN]) (cIt_one _), by unfold maxLen; simp only [hll]; omega, by simp only [hll]; omega, Nat.zero_le _, fun l' w' _ o' hg _ hw => ?_⟩⟩
  have hoo : cs.flatMap cIt ++ cIt (s, v, d) = (cs ++ [(s, v, d)]).flatMap cIt := by simp
  rw [hoo] at o'
  have newB : ∀ k, l'.v.ownBlock = some k → (S k ∨ w.heap.size < k) := fun k hk => by
    rcases hw with hw | hw
    · exact .inl (ho k (by rw [← hw]; exact hk))
    · rw [hw] at hk; injection hk with hk; right; omega
  refine hk l' wm w' ⟨⟨cs ++ [(s, v, d)], o', newB, by simp [hcl], fun i d' x hd' hx => ?_⟩, by simp; omega, fun x hx => ?_⟩ em hg
  · have step : ∀ (d0 : NdC) (n0 : Nd), NdAt (fun k => S k ∧ l.v.ownBlock ≠ some k) w d0 n0 → NdAt (fun k => (S k ∨ w.heap.size < k) ∧ l'.v.ownBlock ≠ some k) w' d0 n0 := fun d0 n0 h0 => by
      have h3 := h0.mono (S' := fun k => (S k ∧ l.v.ownBlock ≠ some k) ∧ k < w.heap.size) fun k hf hlt => ⟨hf, hlt⟩
      refine (h3.keep (w' := w') fun k hf hlt => (hg.block k (Nat.lt_of_lt_of_le hlt em.size) fun e => hf.1.2 e.symm).trans (em.block k hlt)).mono fun k hf _ => ⟨.inl hf.1.1, ?_⟩
      rcases hw with hw | hw
      · rw [hw]; exact hf.1.2
      · rw [hw]; intro e; injection e; omega
    by_cases hlt : i < cs.length
    · rw [List.getElem?_append_left hlt] at hd'
      rw [List.getElem?_append_left (by omega)] at hx
      obtain ⟨g1, g2⟩ := hkk i d' x hd' hx
      exact ⟨step _ _ g1, g2⟩
    · have hi : i = cs.length := by
        have := (List.getElem?_eq_some_iff.1 hd').1
        simp at this; omega
      subst hi
      rw [List.getElem?_append_right (Nat.le_refl _)] at hd'
      rw [hcl, List.getElem?_append_right (Nat.le_refl _)] at hx
      simp at hd' hx
      subst hd' hx
      exact ⟨step _ _ hd, rfl, rfl⟩
  · rcases List.mem_append.1 hx with hx | hx
    · exact h2 x hx
    · simp at hx; rw [hx]; exact hs

theorem IS.headC {S : Nat → Prop} {w : World} {l : Sl} {x : It} {r : List It} (h : IS S w l (x :: r)) : ∃ (d : NdC) (cs : List ItC), Own 0 52 7 w l (cIt (x.1, x.2.1, d) ++ cs.flatMap cIt) ∧ cs.length = r.length ∧ NdAt (fun k => S k ∧ l.v.ownBlock ≠ some k) w d x.2.2 ∧
    (∀ (i : Nat) d y, cs[i]? = some d → r[i]? = some y → NdAt (fun k => S k ∧ l.v.ownBlock ≠ some k) w d.2.2 y.2.2 ∧ d.1 = y.1 ∧ d.2.1 = y.2.1) := by
  obtain ⟨⟨cs, o, ho, hl, hk⟩, h1, h2⟩ := h
  cases cs with
  | nil => simp at hl
  | cons d0 cs =>
    obtain ⟨g1, g2, g3⟩ := hk 0 d0 x rfl rfl
    obtain ⟨s0, v0, d⟩ := d0
    simp only at g1 g2 g3
    subst g2 g3
    exact ⟨d, cs, by simpa using o, by simpa using hl, g1, fun i d y hd hy => hk (i + 1) d y (by simpa using hd) (by simpa using hy)⟩

theorem IS.ofHead {S : Nat → Prop} {w : World} {l : Sl} {x : It} {r : List It} {d : NdC} {cs : List ItC} (o : Own 0 52 7 w l (cIt (x.1, x.2.1, d) ++ cs.flatMap cIt)) (ho : ∀ k, l.v.ownBlock = some k → S k) (hl : cs.length = r.length) (hd : NdAt (fun k => S k ∧ l.v.ownBlock ≠ some k) w d x.2.2)
    (hk : ∀ (i : Nat) d y, cs[i]? = some d → r[i]? = some y → NdAt (fun k => S k ∧ l.v.ownBlock ≠ some k) w d.2.2 y.2.2 ∧ d.1 = y.1 ∧ d.2.1 = y.2.1) (h1 : (x :: r).length ≤ 1001) (h2 : ∀ y ∈ x :: r, y.1.size ≤ maxLen) : IS S w l (x :: r) :=
  ⟨⟨(x.1, x.2.1, d) :: cs, by simpa using o, ho, by simp [hl], fun i d' y hd' hy => by
    cases i with
    | zero => simp at hd' hy; subst hd' hy; exact ⟨hd, rfl, rfl⟩
    | succ i => exact hk i d' y (by simpa using hd') (by simpa using hy)⟩, h1, h2⟩

/-- The first document's version is set. -/
theorem IS.setVer {S : Nat → Prop} {w : World} {l : Sl} {x : It} {r : List It} {v : Int} {K : World → Prop} (h : IS S w l (x :: r)) (hk : ∀ w', IS S w' l ((x.1, v, x.2.2) :: r) → w.grownBy w' l.v.ownBlock → K w') :
    onSome l.a (fun a => ((0 : Int) ≤ (0 : Int) ∧ (0 : Int) < (l.len : Int)) ∧ Wr w ((a.add ((0 : Int).toNat * 7)).add 1) ∧ letW (w.setCell ((a.add ((0 : Int).toNat * 7)).add 1) (.int .i64 v)) K) := by
  obtain ⟨d, cs, o, hl, hd, hkk⟩ := h.headC
  have hs := h.its.slen
  have hown := fun k hk => (h.own k hk).1
  obtain ⟨g, hg, p, o1, gr⟩ := o.setAt (k := 1) (by simp [cIt, cN]) (.int .i64 v)
  refine onSome_i hg ⟨⟨by omega, by rw [hs.1]; simp⟩, ?_⟩
  have ea : ((⟨g, 0, none⟩ : Addr).add ((0 : Int).toNat * 7)).add 1 = (⟨g, 0, none⟩ : Addr).add 1 := by simp [add_nought]
  rw [ea]
  have o2 : Own 0 52 7 (w.setCell ((⟨g, 0, none⟩ : Addr).add 1) (.int .i64 v)) l (cIt (x.1, v, d) ++ cs.flatMap cIt) := o1
  have kp : ∀ k, l.v.ownBlock ≠ some k → k < w.heap.size → (w.setCell ((⟨g, 0, none⟩ : Addr).add 1) (.int .i64 v)).heap[k]? = w.heap[k]? := fun k hne hlt => gr.block k hlt fun e => hne e.symm
  refine ⟨p, hk _ (IS.ofHead (x := (x.1, v, x.2.2)) o2 hown hl (hd.keep fun k hf hlt => kp k hf.2 hlt) (fun i d y hd' hy => ⟨(hkk i d y hd' hy).1.keep fun k hf hlt => kp k hf.2 hlt, (hkk i d y hd' hy).2⟩) (by simpa using h.len) (fun y hy => ?_)) gr⟩
  rcases List.mem_cons.1 hy with rfl | hy
  · exact h.sz x (by simp)
  · exact h.sz y (by simp [hy])

/-- The first document's node is set. -/
theorem IS.setNode {S P : Nat → Prop} {w : World} {l : Sl} {x : It} {r : List It} {e : NdC} {n : Nd} {K : World → Prop} (h : IS S w l (x :: r)) (he : NdAt P w e n) (hP : ∀ k, P k → l.v.ownBlock ≠ some k) (hk : ∀ w', IS (fun k => S k ∨ P k) w' l ((x.1, x.2.1, n) :: r) → w.grownBy w' l.v.ownBlock → K w') :
    onSome l.a (fun a => ((0 : Int) ≤ (0 : Int) ∧ (0 : Int) < (l.len : Int)) ∧ Wr w ((a.add ((0 : Int).toNat * 7)).add 2) ∧ letW (w.setCell ((a.add ((0 : Int).toNat * 7)).add 2) (.int .i64 e.k)) (fun w77 => Wr w77 (((a.add ((0 : Int).toNat * 7)).add 2).add 1) ∧ letW (w77.setCell (((a.add ((0 : Int).toNat * 7)).add 2).add 1) (.int .i64 e.m)) (fun w78 => Wr w78 (((a.add ((0 : Int).toNat * 7)).add 2).add 2) ∧ letW (w78.setCell (((a.add ((0 : Int).toNat * 7)).add 2).add 2) (.string e.t)) (fun w79 => Wr w79 (((a.add ((0 : Int).toNat * 7)).add 2).add 3) ∧ letW (w79.setCell (((a.add ((0 : Int).toNat * 7)).add 2).add 3) (.slice e.sn.a e.sn.len e.sn.cap)) (fun w80 => Wr w80 (((a.add ((0 : Int).toNat * 7)).add 2).add 4) ∧ letW (w80.setCell (((a.add ((0 : Int).toNat * 7)).add 2).add 4) (.slice e.sk.a e.sk.len e.sk.cap)) K))))) := by
  obtain ⟨d, cs, o, hl, hd, hkk⟩ := h.headC
  have hs := h.its.slen
  have hown := fun k hk => (h.own k hk).1
  obtain ⟨g, hg, p1, o1, g1⟩ := o.setAt (k := 2) (by simp [cIt, cN]) (.int .i64 e.k)
  obtain ⟨g', hg', p2, o2, g2⟩ := o1.setAt (k := 3) (by simp [cIt, cN]) (.int .i64 e.m)
  obtain rfl : g = g' := by rw [hg] at hg'; simpa using hg'
  obtain ⟨g', hg', p3, o3, g3⟩ := o2.setAt (k := 4) (by simp [cIt, cN]) (.string e.t)
  obtain rfl : g = g' := by rw [hg] at hg'; simpa using hg'
  obtain ⟨g', hg', p4, o4, g4⟩ := o3.setAt (k := 5) (by simp [cIt, cN]) (.slice e.sn.a e.sn.len e.sn.cap)
  obtain rfl : g = g' := by rw [hg] at hg'; simpa using hg'
  obtain ⟨g', hg', p5, o5, g5⟩ := o4.setAt (k := 6) (by simp [cIt, cN]) (.slice e.sk.a e.sk.len e.sk.cap)
  obtain rfl : g = g' := by rw [hg] at hg'; simpa using hg'
  refine onSome_i hg ⟨⟨by omega, by rw [hs.1]; simp⟩, ?_⟩
  have z0 : (0 : Int).toNat * 7 = 0 := rfl
  simp only [z0, add_nought, add_add']
  have tr : ∀ {a b c : World}, a.grownBy b l.v.ownBlock → b.grownBy c l.v.ownBlock → a.grownBy c l.v.ownBlock := fun h k =>
    ⟨k.os.trans h.os, k.tape.trans h.tape, k.output.trans h.output, Nat.le_trans h.size k.size, fun i hi hn => (k.block i (Nat.lt_of_lt_of_le hi h.size) hn).trans (h.block i hi hn)⟩
  have gr := tr (tr (tr (tr g1 g2) g3) g4) g5
  unfold letW
  have kp : ∀ k, l.v.ownBlock ≠ some k → k < w.heap.size → _ := fun k hne hlt => gr.block k hlt fun e => hne e.symm
  refine ⟨p1, p2, p3, p4, p5, hk _ (IS.ofHead (x := (x.1, x.2.1, n)) (d := e) (cs := cs) o5 (fun k hk => .inl (hown k hk)) hl ((he.keep fun k hf hlt => kp k (hP k hf) hlt).mono fun k hf _ => ⟨.inr hf, hP k hf⟩)
    (fun i d y hd' hy => ⟨((hkk i d y hd' hy).1.keep fun k hf hlt => kp k hf.2 hlt).mono fun k hf _ => ⟨.inl hf.1, hf.2⟩, (hkk i d y hd' hy).2⟩) (by simpa using h.len) (fun y hy => ?_)) gr⟩
  rcases List.mem_cons.1 hy with rfl | hy
  · exact h.sz x (by simp)
  · exact h.sz y (by simp [hy])
end Go.Proofs
