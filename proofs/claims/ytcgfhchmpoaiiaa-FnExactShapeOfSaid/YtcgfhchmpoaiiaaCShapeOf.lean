/-
  What functions of this seat compute, part 'ShapeOf': contracts over their readable predicates. Conditions: each theorem's own hypotheses.
-/
import Derived.Test.YtcgfhchmpoaiiaaBase
import Derived.Test.YtcgfhchmpoaiiaaOpen
import Derived.Test.YtcgfhchmpoaiiaaGen
import Derived.Test.YtcgfhchmpoaiiaaCSmall
import Derived.Test.YtcgfhchmpoaiiaaCOrder
import Derived.Test.YtcgfhchmpoaiiaaCNode
import Derived.Test.YtcgfhchmpoaiiaaCNodeText
import Derived.Test.YtcgfhchmpoaiiaaCNodeValid
import Derived.Test.YtcgfhchmpoaiiaaCNodeSpec
import Derived.Test.YtcgfhchmpoaiiaaCHelpS
import Derived.Test.YtcgfhchmpoaiiaaCNodeHelp
import Derived.Test.YtcgfhchmpoaiiaaCNodeHelp2
import Derived.Test.YtcgfhchmpoaiiaaCNodeTop
import Derived.Test.YtcgfhchmpoaiiaaCCells
import Derived.Test.YtcgfhchmpoaiiaaCShape
import Derived.Test.YtcgfhchmpoaiiaaCShape2
namespace Go.Proofs
open Go Go.Vc Go.RowKit
set_option maxRecDepth 100000
set_option linter.unusedVariables false
--! C:Small C:Order C:Node C:NodeText C:NodeValid C:NodeSpec C:HelpS C:NodeHelp C:NodeHelp2 C:NodeTop C:Cells C:Shape C:Shape2
/-! ## The shape of a node -/

theorem own_apart {b1 b2 n1 n2 : Nat} {t1 t2 : TypeId} {w : World} {s1 s2 : Sl} {v1 v2 : List Value} (h : Own b1 t1 n1 w s1 v1) (k : Own b2 t2 n2 w s2 v2) (hne : t1 ≠ t2) : s1.v.ownBlock = none ∨ s1.v.ownBlock ≠ s2.v.ownBlock := by
  rcases h.2 with ⟨hv, _⟩ | ⟨g, cap, cur, hv, _, hg, _⟩
  · left; rw [hv]; rfl
  · right
    rcases k.2 with ⟨hv', _⟩ | ⟨g', cap', cur', hv', _, hg', _⟩
    · rw [hv, hv']; simp [Value.ownBlock]
    · rw [hv, hv']
      simp only [Value.ownBlock, ne_eq, Option.some.injEq]
      rintro rfl
      rw [hg] at hg'
      simp only [Option.some.injEq, Obj.cells.injEq] at hg'
      exact hne hg'.2.1

theorem row_apart {b1 n1 g : Nat} {t1 t2 : TypeId} {w : World} {s1 : Sl} {v1 vs : List Value} (h : Own b1 t1 n1 w s1 v1) (k : Row w g vs t2) (hne : t1 ≠ t2) : s1.v.ownBlock ≠ some g := by
  rcases h.2 with ⟨hv, _⟩ | ⟨g', cap, cur, hv, _, hg, _⟩
  · rw [hv]; simp [Value.ownBlock]
  · rw [hv]
    simp only [Value.ownBlock, ne_eq, Option.some.injEq]
    rintro rfl
    unfold Row at k
    rw [hg] at k
    simp only [Option.some.injEq, Obj.cells.injEq] at k
    exact hne k.2.1

theorem cS_one (x : ByteArray) : ∀ u ∈ cS x, u.oneCell' = true := by intro u hu; simp [cS] at hu; subst hu; rfl
theorem cB_one (x : Bool) : ∀ u ∈ cB x, u.oneCell' = true := by intro u hu; simp [cB] at hu; subst hu; rfl
theorem cSh_one (x : ShC) : ∀ u ∈ cSh x, u.oneCell' = true := by
  intro u hu
  simp only [cSh, List.mem_cons, List.not_mem_nil, or_false] at hu
  rcases hu with rfl | rfl | rfl | rfl <;> rfl

/-- An append, and where the row lies now. -/
theorem sAppend_io {e : TypeId} {size bytes base : Nat} {s x : Sl} {w : World} {K : Sl → World → Prop} {vs ys : List Value} (h : Own base e size w s vs) (hx : Vc.Src w x size ys)
    (hb : (s.len + x.len) * bytes ≤ 140737488355328) (hl : s.len + x.len ≤ 140737488355328) (hbase : base ≤ w.heap.size)
    (hK : ∀ s' w', s'.len = s.len + x.len → Own base e size w' s' (vs ++ ys) → w.grownBy w' s.v.ownBlock → (s'.v.ownBlock = s.v.ownBlock ∨ s'.v.ownBlock = some w.heap.size) → K s' w') : sAppend e size bytes s x w K :=
  .inl ⟨base, vs, ys, h, hx, by unfold maxLen; omega, hb, hbase, fun s' w' h1 h2 h3 _ h5 => hK s' w' h1 h2 h3 h5⟩

theorem push1o {α : Type} {c : α → List Value} {n bytes base : Nat} {T : TypeId} {w : World} {l : Sl} {ys : List α} {x : α} {K : Sl → World → Prop} (hc : ∀ x, (c x).length = n) (hn : 1 ≤ n) (h1 : ∀ u ∈ c x, u.oneCell' = true)
    (o : Own base T n w l (ys.flatMap c)) (hb : base ≤ w.heap.size) (hlen : ys.length ≤ 1000000000) (hby : bytes ≤ 1024)
    (hk : ∀ s' wm w', Ext w wm → Own base T n w' s' ((ys ++ [x]).flatMap c) → wm.grownBy w' l.v.ownBlock → (s'.v.ownBlock = l.v.ownBlock ∨ s'.v.ownBlock = some wm.heap.size) → K s' w') :
    letW (w.alloc (.cells (c x).toArray T)) (fun w5 => sAppend T n bytes ⟨l.a, l.len, l.cap⟩ ⟨some (⟨w.heap.size, 0, none⟩ : Addr), 1, 1⟩ w5 K) := by
  have r : Row (w.alloc (.cells (c x).toArray T)) w.heap.size (c x) T := Row.new w (c x) T
  have e5 : Ext w (w.alloc (.cells (c x).toArray T)) := (Ext.refl w).alloc _
  have o5 : Own base T n (w.alloc (.cells (c x).toArray T)) l (ys.flatMap c) := o.ext e5
  have hll := o.len hc hn
  refine sAppend_io o5 (Vc.Src.row r (by simp [hc]) h1) ?_ (by simp only [hll]; omega) (Nat.le_trans hb e5.size) (fun s' w' hl' o' hg' hw' => hk s' _ w' e5 ?_ hg' hw')
  · have h2 : (l.len + 1) * bytes ≤ 1000000001 * 1024 := Nat.mul_le_mul (by omega) hby
    simp only; omega
  · simpa using o'

/-! ### Shapes that share nothing -/

/-- A shape in memory of its own: its rows lie apart from each other, in blocks of 'F'. -/
inductive ShM (w : World) : (Nat → Prop) → ShC → Sh → Prop
  | mk (F : Nat → Prop) (Fs : Nat → Nat → Prop) (c : ShC) (names : List ByteArray) (needs : List Bool) (kids : List Sh) (cs : List ShC)
      (on : Own 0 9 1 w c.sn (names.flatMap cS)) (ob : Own 0 4 1 w c.sb (needs.flatMap cB)) (ok : Own 0 31 4 w c.sk (cs.flatMap cSh)) (hl : cs.length = kids.length)
      (hF : ∀ k, c.sn.v.ownBlock = some k ∨ c.sb.v.ownBlock = some k ∨ c.sk.v.ownBlock = some k → F k)
      (hs : ∀ i k, Fs i k → F k ∧ c.sn.v.ownBlock ≠ some k ∧ c.sb.v.ownBlock ≠ some k ∧ c.sk.v.ownBlock ≠ some k)
      (hd : ∀ i j k, Fs i k → Fs j k → i = j)
      (hm : names.length ≤ maxLen ∧ needs.length ≤ maxLen ∧ kids.length ≤ maxLen ∧ ∀ x ∈ names, x.size ≤ maxLen)
      (h : ∀ (i : Nat) d n, cs[i]? = some d → kids[i]? = some n → ShM w (Fs i) d n) : ShM w F c (.mk c.k names needs kids)

theorem own_blk {base : Nat} {e : TypeId} {size : Nat} {w : World} {s : Sl} {vs : List Value} (h : Own base e size w s vs) {a : Addr} (ha : s.a = some a) : s.v.ownBlock = some a.block := by
  simp [Sl.v, Value.ownBlock, ha]

theorem ShM.at_ {w : World} {F : Nat → Prop} {c : ShC} {n : Sh} (h : ShM w F c n) : ShAt F w c n := by
  induction h with
  | mk F Fs c names needs kids cs on ob ok hl hF hs hd hm h ih =>
    refine .mk c names needs kids cs (on.slOf cS_len (by decide)) (ob.slOf cB_len (by decide)) (ok.slOf cSh_len (by decide)) hl (fun _ a ha => hF _ (.inl (own_blk on ha))) (fun _ a ha => hF _ (.inr (.inl (own_blk ob ha))))
      (fun _ a ha => hF _ (.inr (.inr (own_blk ok ha)))) hm (fun i d x hd hx => (ih i d x hd hx).mono fun k hk _ => (hs i k hk).1)

theorem _root_.Go.Vc.Own.keepB {base : Nat} {e : TypeId} {size : Nat} {w w' : World} {s : Sl} {vs : List Value} (h : Own base e size w s vs) (hk : ∀ k, s.v.ownBlock = some k → w'.heap[k]? = w.heap[k]?) : Own base e size w' s vs := by
  refine ⟨h.1, ?_⟩
  rcases h.2 with hn | ⟨g, cap, cur, hv, hb, hg, rest⟩
  · exact .inl hn
  · exact .inr ⟨g, cap, cur, hv, hb, by rw [hk g (by rw [hv]; rfl)]; exact hg, rest⟩

theorem ShM.keep {w w' : World} {F : Nat → Prop} {c : ShC} {n : Sh} (h : ShM w F c n) (hk : ∀ k, F k → k < w.heap.size → w'.heap[k]? = w.heap[k]?) : ShM w' F c n := by
  induction h with
  | mk F Fs c names needs kids cs on ob ok hl hF hs hd hm h ih =>
    exact .mk F Fs c names needs kids cs (on.keepB fun k hk' => hk k (hF k (.inl hk')) (on.lt k hk').2) (ob.keepB fun k hk' => hk k (hF k (.inr (.inl hk'))) (ob.lt k hk').2) (ok.keepB fun k hk' => hk k (hF k (.inr (.inr hk'))) (ok.lt k hk').2)
      hl hF hs hd hm (fun i d x hd hx => ih i d x hd hx fun k hf hlt => hk k (hs i k hf).1 hlt)

theorem ShM.ext {w w' : World} {F : Nat → Prop} {c : ShC} {n : Sh} (h : ShM w F c n) (e : Ext w w') : ShM w' F c n := h.keep fun k _ hlt => e.block k hlt

theorem ShM.grown {w w' : World} {F : Nat → Prop} {c : ShC} {n : Sh} {row : Option Nat} (h : ShM w F c n) (hg : w.grownBy w' row) (hn : ∀ k, row = some k → ¬ F k) : ShM w' F c n :=
  h.keep fun k hf hlt => hg.block k hlt fun e => hn k e.symm hf

theorem ShM.mono {w : World} {F F' : Nat → Prop} {c : ShC} {n : Sh} (h : ShM w F c n) (hk : ∀ k, F k → F' k) : ShM w F' c n := by
  cases h with
  | mk _ Fs _ names needs kids cs on ob ok hl hF hs hd hm h =>
    exact .mk F' Fs c names needs kids cs on ob ok hl (fun k h => hk k (hF k h)) (fun i k h => ⟨hk k (hs i k h).1, (hs i k h).2⟩) hd hm h

/-! ### What is computed -/

mutual
def shOf : Nd → Sh
  | .mk k _ _ ns ks => .mk k ns (List.replicate ns.length true) (shOfL ns.length ks)
def shOfL : Nat → List Nd → List Sh
  | 0, _ => []
  | _ + 1, [] => []
  | n + 1, x :: r => shOf x :: shOfL n r
end
theorem shOf_eq (n : Nd) : shOf n = .mk n.k n.ns (List.replicate n.ns.length true) (shOfL n.ns.length n.ks) := by cases n; simp [shOf, Nd.k, Nd.ns, Nd.ks]
theorem shOfL_get : ∀ (m : Nat) (ks : List Nd) (i : Nat) (x : Nd), i < m → ks[i]? = some x → (shOfL m ks)[i]? = some (shOf x)
  | 0, _, i, x, h, _ => by omega
  | m + 1, [], i, x, _, h => by simp at h
  | m + 1, y :: r, 0, x, _, h => by simp at h; subst h; simp [shOfL]
  | m + 1, y :: r, i + 1, x, hi, h => by
    simp only [shOfL, List.getElem?_cons_succ]
    exact shOfL_get m r i x (by omega) (by simpa using h)
theorem shOfL_len : ∀ (m : Nat) (ks : List Nd), m ≤ ks.length → (shOfL m ks).length = m
  | 0, _, _ => by simp [shOfL]
  | m + 1, [], h => by simp at h
  | m + 1, y :: r, h => by
    simp only [shOfL, List.length_cons]
    rw [shOfL_len m r (by simpa using h)]

theorem parts_names {n : Nd} (h : parts n = true) : (n.k = 4 ∨ n.ns.length = 0) ∧ n.ns.length ≤ n.ks.length ∧ n.ns.length ≤ 6 := by
  simp only [parts, partsC, Bool.and_eq_true, Bool.or_eq_true, decide_eq_true_eq] at h
  obtain ⟨⟨⟨_, _⟩, h3⟩, h4⟩ := h
  refine ⟨h3, ?_⟩
  rcases h3 with h3 | h3
  · rw [if_neg (by omega), if_neg (by omega), if_neg (by omega), if_neg (by omega), if_pos h3] at h4
    simp only [Bool.and_eq_true, decide_eq_true_eq] at h4
    omega
  · omega

theorem map_names {n : Nd} (h : parts n = true) (hk : n.k = 4) : n.ks.length = n.ns.length := by
  simp only [parts, partsC, Bool.and_eq_true, Bool.or_eq_true, decide_eq_true_eq] at h
  obtain ⟨_, h4⟩ := h
  rw [if_neg (by omega), if_neg (by omega), if_neg (by omega), if_neg (by omega), if_pos hk] at h4
  simp only [Bool.and_eq_true, decide_eq_true_eq] at h4
  exact h4.2

/-! ### A shape that grows -/

/-- The shape at 'N', with its first 'i' kids, and nothing shared. -/
structure ShG (B N : Nat) (kd : Int) (names : List ByteArray) (kids : List Sh) (i : Nat) (w : World) : Prop where
  ex : ∃ (l lb lk : Sl) (cs : List ShC) (Fs : Nat → Nat → Prop), Row w N (cSh ⟨kd, l, lb, lk⟩) 31 ∧ Own B 9 1 w l (names.flatMap cS) ∧ Own B 4 1 w lb ((List.replicate i true).flatMap cB) ∧
    Own B 31 4 w lk (cs.flatMap cSh) ∧ cs.length = i ∧ lk.v.ownBlock ≠ some N ∧
    (∀ j k, Fs j k → B ≤ k ∧ k < w.heap.size ∧ k ≠ N ∧ l.v.ownBlock ≠ some k ∧ lb.v.ownBlock ≠ some k ∧ lk.v.ownBlock ≠ some k) ∧ (∀ j k, Fs j k → j < i) ∧ (∀ j j' k, Fs j k → Fs j' k → j = j') ∧
    (∀ (j : Nat) d x, cs[j]? = some d → kids[j]? = some x → ShM w (Fs j) d x)
  bn : B ≤ N

/-- 'true' is appended to Needs. -/
theorem ShG.need {B N : Nat} {kd : Int} {names : List ByteArray} {kids : List Sh} {i : Nat} {w : World} {K : World → Prop} (h : ShG B N kd names kids i w) (hB : B ≤ w.heap.size) (hi : i ≤ 1000)
    (hk : ∀ (l lb lk : Sl) (cs : List ShC) (Fs : Nat → Nat → Prop) (w' : World), Row w' N (cSh ⟨kd, l, lb, lk⟩) 31 → Own B 9 1 w' l (names.flatMap cS) → Own B 4 1 w' lb ((List.replicate (i + 1) true).flatMap cB) →
      Own B 31 4 w' lk (cs.flatMap cSh) → cs.length = i → lk.v.ownBlock ≠ some N →
      (∀ j k, Fs j k → B ≤ k ∧ k < w'.heap.size ∧ k ≠ N ∧ l.v.ownBlock ≠ some k ∧ lb.v.ownBlock ≠ some k ∧ lk.v.ownBlock ≠ some k) → (∀ j k, Fs j k → j < i) → (∀ j j' k, Fs j k → Fs j' k → j = j') →
      (∀ (j : Nat) d x, cs[j]? = some d → kids[j]? = some x → ShM w' (Fs j) d x) → (∀ a : World, a.heap.size ≤ B → Ext a w → Ext a w') →
      (∀ g vs T, T ≠ 4 → T ≠ 31 → Row w g vs T → Row w' g vs T) → K w') :
    ∃ l479 : Sl, w.cell? ((⟨N, 0, none⟩ : Addr).add 2) = some (.slice l479.a l479.len l479.cap) ∧ letW (w.alloc (.cells #[.bool true] 4)) (fun w480 => sAppend 4 1 1 ⟨l479.a, l479.len, l479.cap⟩ ⟨(some (⟨w.heap.size, 0, none⟩ : Addr)), 1, 1⟩ w480 (fun l481 w482 =>
      Wr w482 ((⟨N, 0, none⟩ : Addr).add 2) ∧ letW (w482.setCell ((⟨N, 0, none⟩ : Addr).add 2) (.slice l481.a l481.len l481.cap)) K)) := by
  obtain ⟨⟨l, lb, lk, cs, Fs, hr, ol, ob, ok, hcl, hkN, hF, hFi, hFd, hm⟩, hBN⟩ := h
  obtain ⟨_, _, m2, _⟩ := Row.sh hr
  simp only [exL m2]
  refine push1o (x := true) cB_len (by decide) (cB_one true) ob hB (by simp; omega) (by decide) fun lb' wm w1 em ob' hg hw => ?_
  have hb1 := row_apart ob hr (by decide)
  have hb2 := own_apart ob ol (by decide)
  have hb3 := own_apart ob ok (by decide)
  have hg' : ∀ k, k < w.heap.size → lb.v.ownBlock ≠ some k → w1.heap[k]? = w.heap[k]? := fun k hk hne => (hg.block k (Nat.lt_of_lt_of_le hk em.size) fun e => hne e.symm).trans (em.block k hk)
  have hr1 : Row w1 N (cSh ⟨kd, l, lb, lk⟩) 31 := hr.of_same (hg' N hr.lt hb1)
  have ol1 : Own B 9 1 w1 l (names.flatMap cS) := ol.keepB fun k hk => hg' k (ol.lt k hk).2 fun e => by
    rcases hb2 with h | h
    · rw [h] at e; cases e
    · exact h (e.trans hk.symm)
  have ok1 : Own B 31 4 w1 lk (cs.flatMap cSh) := ok.keepB fun k hk => hg' k (ok.lt k hk).2 fun e => by
    rcases hb3 with h | h
    · rw [h] at e; cases e
    · exact h (e.trans hk.symm)
  have hm1 : ∀ (j : Nat) d x, cs[j]? = some d → kids[j]? = some x → ShM w1 (Fs j) d x := fun j d x hd hx => (hm j d x hd hx).keep fun k hf hlt => hg' k hlt (hF j k hf).2.2.2.2.1
  obtain ⟨p, q⟩ := Row.setMid (A := [.int .i64 kd, .slice l.a l.len l.cap]) (B := [.slice lk.a lk.len lk.cap]) (p := (⟨N, 0, none⟩ : Addr).add 2) hr1 rfl (.slice lb'.a lb'.len lb'.cap)
  refine ⟨p, letW_i fun w2 h2 => ?_⟩
  rw [← h2] at q
  have c2 : Chg N w1 w2 := by rw [h2]; exact (Chg.refl _ _).set (by rw [add_block]) _
  clear h2
  have hc' : ∀ k, k < w1.heap.size → k ≠ N → w2.heap[k]? = w1.heap[k]? := fun k hk hne => c2.block k hk fun e => hne (by simpa using e)
  have hl1 := row_apart ol hr (by decide)
  have hb1' := row_apart ob' hr1 (by decide)
  have sz1 := em.size
  have sz2 := hg.size
  have sz3 := c2.size
  refine hk l lb' lk cs Fs w2 q (ol1.keepB fun k hk => hc' k (ol1.lt k hk).2 fun e => hl1 (by rw [← e]; exact hk)) ?_ (ok1.keepB fun k hk => hc' k (ok1.lt k hk).2 fun e => hkN (by rw [← e]; exact hk)) hcl hkN ?_ hFi hFd ?_ ?_ ?_
  · have : (List.replicate (i + 1) true).flatMap cB = (List.replicate i true ++ [true]).flatMap cB := by rw [List.replicate_succ']
    rw [this]
    exact ob'.keepB fun k hk => hc' k (ob'.lt k hk).2 fun e => hb1' (by rw [← e]; exact hk)
  · intro j k hf
    obtain ⟨f1, f2, f3, f4, f5, f6⟩ := hF j k hf
    refine ⟨f1, by omega, f3, f4, ?_, f6⟩
    rcases hw with hw | hw
    · rw [hw]; exact f5
    · rw [hw]; intro e; injection e; omega
  · exact fun j d x hd hx => (hm1 j d x hd hx).keep fun k hf hlt => hc' k hlt (hF j k hf).2.2.1
  · intro a ha ea
    refine ((ea.trans em).own (ob.ext em) hg ha).chg c2 ?_
    omega
  · intro g vs T hT1 hT2 hrow
    refine (hrow.of_same (hg' g hrow.lt (row_apart ob hrow hT1.symm))).of_same (hc' g (by have := hrow.lt; omega) ?_)
    rintro rfl
    unfold Row at hrow hr
    rw [hrow] at hr
    simp only [Option.some.injEq, Obj.cells.injEq] at hr
    exact hT2 hr.2.1

/-- A kid is appended to Kids. -/
theorem ShG.kid {B N : Nat} {kd : Int} {names : List ByteArray} {kids : List Sh} {i : Nat} {w w0 : World} {l lb lk : Sl} {cs : List ShC} {Fs : Nat → Nat → Prop} {F : Nat → Prop} {e : ShC} {K : World → Prop} {C : World → Prop}
    (hr : Row w N (cSh ⟨kd, l, lb, lk⟩) 31) (ol : Own B 9 1 w l (names.flatMap cS)) (ob : Own B 4 1 w lb ((List.replicate (i + 1) true).flatMap cB))
    (ok : Own B 31 4 w lk (cs.flatMap cSh)) (hcl : cs.length = i) (hkN : lk.v.ownBlock ≠ some N)
    (hF : ∀ j k, Fs j k → B ≤ k ∧ k < w.heap.size ∧ k ≠ N ∧ l.v.ownBlock ≠ some k ∧ lb.v.ownBlock ≠ some k ∧ lk.v.ownBlock ≠ some k) (hFi : ∀ j k, Fs j k → j < i) (hFd : ∀ j j' k, Fs j k → Fs j' k → j = j')
    (hm : ∀ (j : Nat) d x, cs[j]? = some d → kids[j]? = some x → ShM w (Fs j) d x) (hBN : B ≤ N) (hB : B ≤ w.heap.size) (hi : i ≤ 1000) (e0 : Ext w w0)
    {x0 : Sh} (hx0 : kids[i]? = some x0) (hn : ShM w0 F e x0) (hFn : ∀ k, F k → w.heap.size ≤ k ∧ k < w0.heap.size) (hC : ∀ w', Ext w w' → C w')
    (hk : ∀ w', ShG B N kd names kids (i + 1) w' → (∀ a : World, a.heap.size ≤ B → Ext a w → Ext a w') → K w') :
    letW (w0.alloc (.cells #[.int .i64 e.k, .slice e.sn.a e.sn.len e.sn.cap, .slice e.sb.a e.sb.len e.sb.cap, .slice e.sk.a e.sk.len e.sk.cap] 31)) (fun w503 => C w503 ∧ sAppend 31 4 80 ⟨lk.a, lk.len, lk.cap⟩ ⟨(some (⟨w0.heap.size, 0, none⟩ : Addr)), 1, 1⟩ w503 (fun l504 w505 =>
      Wr w505 ((⟨N, 0, none⟩ : Addr).add 3) ∧ letW (w505.setCell ((⟨N, 0, none⟩ : Addr).add 3) (.slice l504.a l504.len l504.cap)) K)) := by
  refine letW_i fun wm hwm => ?_
  have rm : Row wm w0.heap.size (cSh e) 31 := by rw [hwm]; exact Row.new w0 (cSh e) _
  have em0 : Ext w0 wm := by rw [hwm]; exact (Ext.refl w0).alloc _
  clear hwm
  have em := e0.trans em0
  refine ⟨hC _ em, ?_⟩
  have hll := ok.len cSh_len (by decide)
  have okm := ok.ext em
  have szm := em.size
  refine sAppend_io okm (Vc.Src.row (n := 1) rm (by simp [cSh]) (cSh_one e)) ?_ (by simp only [hll]; omega) (by omega) fun lk' w1 _ ok' hg hw => ?_
  · simp only [hll]; omega
  have hrm := hr.ext em
  have hb2 := own_apart okm (ol.ext em) (by decide)
  have hb3 := own_apart okm (ob.ext em) (by decide)
  have hg' : ∀ k, k < wm.heap.size → lk.v.ownBlock ≠ some k → w1.heap[k]? = wm.heap[k]? := fun k hk hne => hg.block k hk fun e => hne e.symm
  have hr1 : Row w1 N (cSh ⟨kd, l, lb, lk⟩) 31 := hrm.of_same (hg' N hrm.lt hkN)
  have ol1 : Own B 9 1 w1 l (names.flatMap cS) := (ol.ext em).keepB fun k hk => hg' k ((ol.ext em).lt k hk).2 fun e => by
    rcases hb2 with h | h
    · rw [h] at e; cases e
    · exact h (e.trans hk.symm)
  have ob1 : Own B 4 1 w1 lb ((List.replicate (i + 1) true).flatMap cB) := (ob.ext em).keepB fun k hk => hg' k ((ob.ext em).lt k hk).2 fun e => by
    rcases hb3 with h | h
    · rw [h] at e; cases e
    · exact h (e.trans hk.symm)
  have okb : ∀ k, lk.v.ownBlock = some k → k < w.heap.size := fun k hk => (ok.lt k hk).2
  have hm1 : ∀ (j : Nat) d x, cs[j]? = some d → kids[j]? = some x → ShM w1 (Fs j) d x := fun j d x hd hx => ((hm j d x hd hx).ext em).keep fun k hf hlt => hg' k hlt (hF j k hf).2.2.2.2.2
  have hn1 : ShM w1 F e x0 := (hn.ext em0).keep fun k hf hlt => hg' k hlt fun e => by
    have := okb k e
    have := (hFn k hf).1
    omega
  obtain ⟨p, q⟩ := Row.setMid (A := [.int .i64 kd, .slice l.a l.len l.cap, .slice lb.a lb.len lb.cap]) (B := []) (p := (⟨N, 0, none⟩ : Addr).add 3) hr1 rfl (.slice lk'.a lk'.len lk'.cap)
  refine ⟨p, letW_i fun w2 h2 => ?_⟩
  rw [← h2] at q
  have c2 : Chg N w1 w2 := by rw [h2]; exact (Chg.refl _ _).set (by rw [add_block]) _
  clear h2
  have hc' : ∀ k, k < w1.heap.size → k ≠ N → w2.heap[k]? = w1.heap[k]? := fun k hk hne => c2.block k hk fun e => hne (by simpa using e)
  have hl1 := row_apart ol hr (by decide)
  have hb1 := row_apart ob hr (by decide)
  have sz0 := e0.size
  have sz2 := hg.size
  have sz3 := c2.size
  have hNl := hr.lt
  have hk1 : lk'.v.ownBlock ≠ some N := by
    rcases hw with hw | hw
    · rw [hw]; exact hkN
    · rw [hw]; intro e; injection e; omega
  have hok : (cs ++ [e]).flatMap cSh = cs.flatMap cSh ++ cSh e := by simp
  rw [← hok] at ok'
  refine hk w2 ⟨⟨l, lb, lk', cs ++ [e], fun j k => Fs j k ∨ (j = i ∧ F k), q, ol1.keepB fun k hk => hc' k (ol1.lt k hk).2 fun e => hl1 (by rw [← e]; exact hk), ob1.keepB fun k hk => hc' k (ob1.lt k hk).2 fun e => hb1 (by rw [← e]; exact hk),
    ok'.keepB fun k hk => hc' k (ok'.lt k hk).2 fun e => hk1 (by rw [← e]; exact hk), by simp [hcl], hk1, ?_, ?_, ?_, ?_⟩, hBN⟩ ?_
  · rintro j k (hf | ⟨rfl, hf⟩)
    · obtain ⟨f1, f2, f3, f4, f5, f6⟩ := hF j k hf
      refine ⟨f1, by omega, f3, f4, f5, ?_⟩
      rcases hw with hw | hw
      · rw [hw]; exact f6
      · rw [hw]; intro e; injection e; omega
    · obtain ⟨f1, f2⟩ := hFn k hf
      have szm0 := em0.size
      refine ⟨by omega, by omega, by omega, fun e => ?_, fun e => ?_, fun e => ?_⟩
      · have := (ol.lt k e).2; omega
      · have := (ob.lt k e).2; omega
      · rcases hw with hw | hw
        · have := okb k (hw ▸ e); omega
        · rw [hw] at e; injection e; omega
  · rintro j k (hf | ⟨rfl, hf⟩)
    · have := hFi j k hf; omega
    · omega
  · rintro j j' k (hf | ⟨rfl, hf⟩) (hf' | ⟨rfl, hf'⟩)
    · exact hFd j j' k hf hf'
    · have := (hF j k hf).2.1; have := (hFn k hf').1; omega
    · have := (hF j' k hf').2.1; have := (hFn k hf).1; omega
    · rfl
  · intro j d x hd hx
    by_cases hlt : j < cs.length
    · rw [List.getElem?_append_left hlt] at hd
      have h0 := ((hm1 j d x hd hx).keep (w' := w2) fun k hf hlt => hc' k hlt (hF j k hf).2.2.1)
      exact h0.mono fun k hf => .inl hf
    · have hj : j = i := by
        have := (List.getElem?_eq_some_iff.1 hd).1
        simp at this; omega
      subst hj
      rw [List.getElem?_append_right (by omega), hcl, Nat.sub_self] at hd
      simp at hd
      subst hd
      rw [hx0] at hx
      obtain rfl := Option.some.inj hx
      refine (hn1.keep (w' := w2) fun k hf hlt => hc' k hlt ?_).mono fun k hf => .inr ⟨rfl, hf⟩
      have := (hFn k hf).1
      omega
  · intro a ha ea
    exact ((ea.trans em).own okm hg ha).chg c2 (by omega)
end Go.Proofs
