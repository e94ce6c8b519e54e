/-
  What functions of this seat compute, part 'StoreDraw': contracts over their readable predicates. Conditions: each theorem's own hypotheses.
-/
import Derived.Test.YtiohmpihadcpaaaBase
import Derived.Test.YtiohmpihadcpaaaOpen
import Derived.Test.YtiohmpihadcpaaaGen
import Derived.Test.YtiohmpihadcpaaaCSmall
import Derived.Test.YtiohmpihadcpaaaCOrder
import Derived.Test.YtiohmpihadcpaaaCNode
import Derived.Test.YtiohmpihadcpaaaCNodeText
import Derived.Test.YtiohmpihadcpaaaCNodeValid
import Derived.Test.YtiohmpihadcpaaaCNodeSpec
import Derived.Test.YtiohmpihadcpaaaCHelpS
import Derived.Test.YtiohmpihadcpaaaCNodeHelp
import Derived.Test.YtiohmpihadcpaaaCNodeHelp2
import Derived.Test.YtiohmpihadcpaaaCNodeTop
import Derived.Test.YtiohmpihadcpaaaCCells
import Derived.Test.YtiohmpihadcpaaaCItem
import Derived.Test.YtiohmpihadcpaaaCItem2
import Derived.Test.YtiohmpihadcpaaaCStoreLaws
import Derived.Test.YtiohmpihadcpaaaCNodeCopy
import Derived.Test.YtiohmpihadcpaaaCNodeAdd
import Derived.Test.YtiohmpihadcpaaaCDraw
import Derived.Test.YtiohmpihadcpaaaCNodeDraw
import Derived.Test.YtiohmpihadcpaaaCNodeDraw2
import Derived.Test.YtiohmpihadcpaaaCNodeDraw3
namespace Go.Proofs
open Go Go.Vc Go.RowKit
set_option maxRecDepth 100000
set_option linter.unusedVariables false
--! C:Small C:Order C:Node C:NodeText C:NodeValid C:NodeSpec C:HelpS C:NodeHelp C:NodeHelp2 C:NodeTop C:Cells C:Item C:Item2 C:StoreLaws C:NodeCopy C:NodeAdd C:Draw C:NodeDraw C:NodeDraw2 C:NodeDraw3
/-! ## Lists of documents that grow -/

theorem cIt_one (x : ItC) : ∀ u ∈ cIt x, u.oneCell' = true := by
  intro u hu
  simp only [cIt, cN, List.mem_cons, List.not_mem_nil, or_false] at hu
  rcases hu with rfl | rfl | rfl | rfl | rfl | rfl | rfl <;> rfl

theorem _root_.Go.Vc.Own.keepI {base : Nat} {e : TypeId} {size : Nat} {w w' : World} {s : Sl} {vs : List Value} (h : Own base e size w s vs) (hk : ∀ k, s.v.ownBlock = some k → w'.heap[k]? = w.heap[k]?) : Own base e size w' s vs := by
  refine ⟨h.1, ?_⟩
  rcases h.2 with hn | ⟨g, cap, cur, hv, hb, hg, rest⟩
  · exact .inl hn
  · exact .inr ⟨g, cap, cur, hv, hb, by rw [hk g (by rw [hv]; rfl)]; exact hg, rest⟩

structure IOwn (base : Nat) (w : World) (l : Sl) (xs : List It) : Prop where
  ex : ∃ cs : List ItC, Own base 52 7 w l (cs.flatMap cIt) ∧ cs.length = xs.length ∧ ∀ (i : Nat) d x, cs[i]? = some d → xs[i]? = some x → NdAt (fun k => base ≤ k ∧ l.v.ownBlock ≠ some k) w d.2.2 x.2.2 ∧ d.1 = x.1 ∧ d.2.1 = x.2.1
  len : xs.length ≤ 1000
  sz : ∀ x ∈ xs, x.1.size ≤ maxLen

theorem IOwn.its {base : Nat} {w : World} {l : Sl} {xs : List It} (h : IOwn base w l xs) : ItsAt (fun k => base ≤ k) w l xs := by
  obtain ⟨⟨cs, o, hl, hk⟩, h1, h2⟩ := h
  exact ⟨⟨cs, o.slOf cIt_len (by decide), hl, fun i d x hd hx => ⟨(hk i d x hd hx).1.mono fun k hf _ => hf.1, (hk i d x hd hx).2⟩⟩, by unfold maxLen; omega, h2⟩

theorem IOwn.own {base : Nat} {w : World} {l : Sl} {xs : List It} (h : IOwn base w l xs) : ∀ k, l.v.ownBlock = some k → base ≤ k ∧ k < w.heap.size := by
  obtain ⟨⟨cs, o, _⟩, _⟩ := h
  exact fun k hk => o.lt k hk

theorem IOwn.keep {base : Nat} {w w' : World} {l : Sl} {xs : List It} (h : IOwn base w l xs) (hk : ∀ k, base ≤ k → k < w.heap.size → w'.heap[k]? = w.heap[k]?) : IOwn base w' l xs := by
  obtain ⟨⟨cs, o, hl, hkk⟩, h1, h2⟩ := h
  exact ⟨⟨cs, o.keepI fun k e => hk k (o.lt k e).1 (o.lt k e).2, hl, fun i d x hd hx => ⟨(hkk i d x hd hx).1.keep fun k hf hlt => hk k hf.1 hlt, (hkk i d x hd hx).2⟩⟩, h1, h2⟩

theorem IOwn.ext {base : Nat} {w w' : World} {l : Sl} {xs : List It} (h : IOwn base w l xs) (e : Ext w w') : IOwn base w' l xs := h.keep fun k _ hlt => e.block k hlt
theorem IOwn.chg {base b : Nat} {w w' : World} {l : Sl} {xs : List It} (h : IOwn base w l xs) (c : Chg b w w') (hb : b < base) : IOwn base w' l xs :=
  h.keep fun k hk hlt => c.block k hlt fun e => by
    have : k = b := by simpa using e
    omega

theorem IOwn.base_le {base base' : Nat} {w : World} {l : Sl} {xs : List It} (h : IOwn base w l xs) (hb : base' ≤ base) : IOwn base' w l xs := by
  obtain ⟨⟨cs, o, hl, hkk⟩, h1, h2⟩ := h
  exact ⟨⟨cs, o.base_le hb, hl, fun i d x hd hx => ⟨(hkk i d x hd hx).1.mono fun k hf _ => ⟨by omega, hf.2⟩, (hkk i d x hd hx).2⟩⟩, h1, h2⟩

theorem IOwn.nil (base : Nat) (w : World) : IOwn base w ⟨none, 0, 0⟩ [] := ⟨⟨[], Own.nil _ _ _ _, rfl, fun i d x h => by simp at h⟩, by simp, fun x h => by cases h⟩
theorem IOwn.fresh {w : World} {base : Nat} (hb : base ≤ w.heap.size) : IOwn base (w.alloc (.cells #[] 52)) ⟨some ⟨w.heap.size, 0, none⟩, 0, 0⟩ [] :=
  ⟨⟨[], Own.fresh w _ 7 _ hb, rfl, fun i d x h => by simp at h⟩, by simp, fun x h => by cases h⟩

/-- A document is appended. -/
theorem IOwn.push {base : Nat} {w : World} {l : Sl} {xs : List It} {s : ByteArray} {v : Int} {d : NdC} {n : Nd} {K : Sl → World → Prop} (h : IOwn base w l xs) (hd : NdAt (fun k => base ≤ k ∧ l.v.ownBlock ≠ some k) w d n) (hs : s.size ≤ maxLen) (hb : base ≤ w.heap.size) (hl : xs.length < 1000)
    (hk : ∀ l' wm w', IOwn base w' l' (xs ++ [(s, v, n)]) → Ext w wm → wm.grownBy w' l.v.ownBlock → (l'.v.ownBlock = l.v.ownBlock ∨ l'.v.ownBlock = some wm.heap.size) → K l' w') :
    letW (w.alloc (.cells #[.string s, .int .i64 v, .int .i64 d.k, .int .i64 d.m, .string d.t, .slice d.sn.a d.sn.len d.sn.cap, .slice d.sk.a d.sk.len d.sk.cap] 52)) (fun w35 => sAppend 52 7 104 ⟨l.a, l.len, l.cap⟩ ⟨(some (⟨w.heap.size, 0, none⟩ : Addr)), 1, 1⟩ w35 K) := by
  obtain ⟨⟨cs, o, hcl, hkk⟩, h1, h2⟩ := h
  have r : Row (w.alloc (.cells (cIt (s, v, d)).toArray 52)) w.heap.size (cIt (s, v, d)) 52 := Row.new w (cIt (s, v, d)) _
  have e5 : Ext w (w.alloc (.cells (cIt (s, v, d)).toArray 52)) := (Ext.refl w).alloc _
  refine letW_i fun wm hwm => ?_
  have em : Ext w wm := by rw [hwm]; exact e5
  have rm : Row wm w.heap.size (cIt (s, v, d)) 52 := by rw [hwm]; exact r
  clear hwm
  have hll := o.len cIt_len (by decide)
  refine .inl ⟨base, cs.flatMap cIt, cIt (s, v, d), o.ext em, Vc.Src.row (n := 1) rm (by simp [cIt, cN]) (cIt_one _), by unfold maxLen; simp only [hll]; omega, by simp only [hll]; omega, Nat.le_trans hb em.size, fun l' w' _ o' hg _ hw => ?_⟩
  have ho : cs.flatMap cIt ++ cIt (s, v, d) = (cs ++ [(s, v, d)]).flatMap cIt := by simp
  rw [ho] at o'
  refine hk l' wm w' ⟨⟨cs ++ [(s, v, d)], o', by simp [hcl], fun i d' x hd' hx => ?_⟩, by simp; omega, fun x hx => ?_⟩ em hg hw
  · have step : ∀ (d0 : NdC) (n0 : Nd), NdAt (fun k => base ≤ k ∧ l.v.ownBlock ≠ some k) w d0 n0 → NdAt (fun k => base ≤ k ∧ l'.v.ownBlock ≠ some k) w' d0 n0 := fun d0 n0 h0 => by
      have h3 := h0.mono (S' := fun k => (base ≤ k ∧ l.v.ownBlock ≠ some k) ∧ k < w.heap.size) fun k hf hlt => ⟨hf, hlt⟩
      refine (h3.keep (w' := w') fun k hf hlt => (hg.block k (Nat.lt_of_lt_of_le hlt em.size) fun e => hf.1.2 e.symm).trans (em.block k hlt)).mono fun k hf _ => ⟨hf.1.1, ?_⟩
      rcases hw with hw | hw
      · rw [hw]; exact hf.1.2
      · rw [hw]; intro e; injection e; have := em.size; omega
    by_cases hlt : i < cs.length
    · rw [List.getElem?_append_left hlt] at hd'
      rw [List.getElem?_append_left (by omega)] at hx
      obtain ⟨g1, g2⟩ := hkk i d' x hd' hx
      exact ⟨step _ _ g1, g2⟩
    · have hi : i = cs.length := by
        have := (List.getElem?_eq_some_iff.1 hd').1
        simp at this; omega
      subst hi
      rw [List.getElem?_append_right (Nat.le_refl _)] at hd'
      rw [hcl, List.getElem?_append_right (Nat.le_refl _)] at hx
      simp at hd' hx
      subst hd' hx
      exact ⟨step _ _ hd, rfl, rfl⟩
  · rcases List.mem_append.1 hx with hx | hx
    · exact h2 x hx
    · simp at hx; rw [hx]; exact hs

theorem shp_tm : ∀ (d : Nat) (n : Nd), shp d n = true → tm n = true
  | 0, n, h => by cases h
  | d + 1, n, h => by
    simp only [shp, Bool.and_eq_true, List.all_eq_true] at h
    have h6 := parts_len h.1
    have hn : n.ns.length ≤ 6 := by
      have hp := h.1
      simp only [parts, partsC, Bool.and_eq_true, Bool.or_eq_true, decide_eq_true_eq] at hp
      obtain ⟨⟨⟨_, _⟩, h3⟩, h4⟩ := hp
      rcases h3 with h3 | h3
      · rw [if_neg (by omega), if_neg (by omega), if_neg (by omega), if_neg (by omega), if_pos h3] at h4
        simp only [Bool.and_eq_true, decide_eq_true_eq] at h4
        exact h4.1.1
      · omega
    rw [tm_eq]
    simp only [Bool.and_eq_true, decide_eq_true_eq, List.all_eq_true]
    exact ⟨⟨by omega, by omega⟩, fun x hx => shp_tm d x (h.2 x hx)⟩

theorem vSt_out {xs : List It} {c : Int} (h : vSt xs c = true) : xs.length ≤ 10 ∧ (0 ≤ c ∧ c ≤ 999) ∧ ∀ x ∈ xs, vNd x.2.2 = true ∧ tm x.2.2 = true := by
  simp only [vSt, Bool.and_eq_true, decide_eq_true_eq, List.all_eq_true] at h
  refine ⟨h.1.2, h.2, fun x hx => ?_⟩
  have := h.1.1.1 x hx
  simp only [okIt, Bool.and_eq_true] at this
  exact ⟨this.2, shp_tm 5 _ (vNd_shp this.2)⟩

/-- A copied node. -/
theorem copied {w : World} {c : NdC} {n : Nd} {S : Nat → Prop} {sn sk : Sl} {w' : World} (h : NdAt S w c n) (ht : tm n = true) (hk : KidsAt w.heap.size w' sk n.ks) (hn : Own w.heap.size 9 1 w' sn (n.ns.flatMap cS)) : NdAt (fun k => w.heap.size ≤ k) w' ⟨n.k, n.m, n.t, sn, sk⟩ n := by
  obtain ⟨t1, t2, _⟩ := tm_out ht
  have ho := h.out
  have := NdAt.make (k := n.k) (m := n.m) (t := n.t) hk hn (by rw [← ho.2.2.1]; exact ho.2.2.2.2.1) (by omega) (by omega) ho.2.2.2.2.2.2.2.1
  cases n; exact this

/-- The nested cells of a document in a slice. -/
theorem nest {w : World} {a : Addr} {d : NdC} (h3 : w.cell? (a.add 3) = some (.int .i64 d.m)) (h4 : w.cell? (a.add 4) = some (.string d.t)) (h5 : w.cell? (a.add 5) = some (.slice d.sn.a d.sn.len d.sn.cap)) (h6 : w.cell? (a.add 6) = some (.slice d.sk.a d.sk.len d.sk.cap)) :
    w.cell? ((a.add 2).add 1) = some (.int .i64 d.m) ∧ w.cell? ((a.add 2).add 2) = some (.string d.t) ∧ w.cell? ((a.add 2).add 3) = some (.slice d.sn.a d.sn.len d.sn.cap) ∧ w.cell? ((a.add 2).add 4) = some (.slice d.sk.a d.sk.len d.sk.cap) :=
  ⟨by rw [add_add']; exact h3, by rw [add_add']; exact h4, by rw [add_add']; exact h5, by rw [add_add']; exact h6⟩

theorem c_spec_copyStore {S : Nat → Prop} {w : World} {l : Sl} {c : Int} {xs : List It} (h : ItsAt S w l xs) (htm : ∀ x ∈ xs, tm x.2.2 = true) (hlen : xs.length ≤ 900) :
    CallR Try.prog 87 [svE l c] w (fun v w' => ∃ l' : Sl, v = svE l' c ∧ IOwn w.heap.size w' l' xs ∧ Ext w w') := by
  refine fn_spec_copyStore _ _ _ _ ?_
  unfold g_spec_copyStore
  simp only [add_nought]
  have hk := h.slen
  refine stBox fun w1 e1 r1 => letW_i fun w2 hw2 => letW_i fun w3 hw3 => ?_
  have e2 : Ext w1 w2 := by rw [hw2]; exact (Ext.refl w1).alloc _
  have e3 : Ext w2 w3 := by rw [hw3]; exact (Ext.refl w2).alloc _
  have ro : Row w2 w1.heap.size [.slice none 0 0, .int .i64 0] 29 := by rw [hw2]; exact Row.new w1 [.slice none 0 0, .int .i64 0] _
  have hl3 : IOwn w2.heap.size w3 ⟨some ⟨w2.heap.size, 0, none⟩, 0, 0⟩ [] := by rw [hw3]; exact IOwn.fresh (Nat.le_refl _)
  clear hw2 hw3
  have r2 := r1.ext e2
  have e02 := e1.trans e2
  have z1 := e1.size
  have zo := ro.lt
  have z02 := e02.size
  refine sLoop_list xs (fun pre t w' => Ext w2 w' ∧ IOwn w2.heap.size w' t.1 pre) ⟨e3, hl3⟩ ?_ ?_
  · rintro K pre post x ⟨t, u⟩ w4 hx ⟨he, hL⟩ hK _
    simp only at hL
    dsimp only
    have hm := mid_len hx
    obtain ⟨q0, q1⟩ := Row.st (r2.ext he)
    rw [exL q0]
    have e04 := e02.trans he
    obtain ⟨d, a, ha, hn, g0, g1, g2, g3, g4, g5, g6⟩ := (h.ext e04).at_ (mid_get hx)
    refine br_dt (by omega) ⟨fun w' => Ext w4 w', fun w' h => h, fun w5 (e5 : Ext w4 w5) => ⟨e5, l, fun w' e' => Ext.get e' q0, onSome_i ha ⟨⟨by omega, by omega⟩, e5, x.1, fun w' e' => Ext.get e' g0, e5, l, fun w' e' => Ext.get e' q0, onSome_i ha ⟨⟨by omega, by omega⟩, e5, x.2.1, fun w' e' => Ext.get e' g1, ?_⟩⟩⟩⟩
    rw [exL (e5.get q0)]
    refine onSome_i ha ⟨⟨by omega, by omega⟩, ?_⟩
    obtain ⟨n1, n2, n3, n4⟩ := nest (e5.get g3) (e5.get g4) (e5.get g5) (e5.get g6)
    simp only [exI (e5.get g2), exI n1, exS n2, exL n3, exL n4]
    have htx := htm x (by rw [hx]; simp)
    refine ⟨e5, (c_spec_copyNode _ w5 d x.2.2 (Nat.le_refl _) htx (hn.ext e5)).mono ?_⟩
    rintro _ w6 ⟨sn, sk, rfl, hsk, hsn, e6⟩
    have tv := copied (hn.ext e5) htx hsk hsn
    have e46 := e5.trans e6
    refine ⟨_, _, _, _, _, rfl, e46, ?_⟩
    have hL6 := hL.ext e46
    have z5 := e5.size
    have zz := he.size
    refine IOwn.push (d := ⟨x.2.2.k, x.2.2.m, x.2.2.t, sn, sk⟩) hL6 (tv.mono fun k hk _ => ⟨by omega, fun e => by have := (hL.own k e).2; omega⟩) (h.sz x (by rw [hx]; simp)) (by have := e46.size; omega) (by omega) fun l' wm w' hL' em hg _ => ?_
    refine ⟨inR_i64 (by omega) (by omega), hK _ _ ⟨?_, hL'⟩⟩
    exact (((he.trans e46).trans em).grown hg fun k hk => (hL6.own k hk).1)
  · rintro K ⟨t, u⟩ w4 ⟨he, hL⟩ _
    simp only at hL
    dsimp only
    obtain ⟨q0, q1⟩ := Row.st (r2.ext he)
    rw [exL q0]
    refine br_df (by omega) ?_
    rw [exI q1]
    refine stSet (ro.ext he) fun w5 r5 c5 => ?_
    obtain ⟨o0, o1⟩ := Row.st r5
    simp only [exL o0, exI o1]
    exact ⟨t, rfl, (hL.chg c5 zo).base_le z02, (e02.trans he).chg c5 z1⟩
end Go.Proofs
