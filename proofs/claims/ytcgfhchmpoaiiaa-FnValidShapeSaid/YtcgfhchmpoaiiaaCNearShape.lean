/-
  What functions of this seat compute, part 'NearShape': contracts over their readable predicates. Conditions: each theorem's own hypotheses.
-/
import Derived.Test.YtcgfhchmpoaiiaaBase
import Derived.Test.YtcgfhchmpoaiiaaOpen
import Derived.Test.YtcgfhchmpoaiiaaGen
import Derived.Test.YtcgfhchmpoaiiaaCSmall
import Derived.Test.YtcgfhchmpoaiiaaCOrder
import Derived.Test.YtcgfhchmpoaiiaaCNode
import Derived.Test.YtcgfhchmpoaiiaaCNodeText
import Derived.Test.YtcgfhchmpoaiiaaCNodeValid
import Derived.Test.YtcgfhchmpoaiiaaCNodeSpec
import Derived.Test.YtcgfhchmpoaiiaaCHelpS
import Derived.Test.YtcgfhchmpoaiiaaCNodeHelp
import Derived.Test.YtcgfhchmpoaiiaaCNodeHelp2
import Derived.Test.YtcgfhchmpoaiiaaCNodeTop
import Derived.Test.YtcgfhchmpoaiiaaCCells
import Derived.Test.YtcgfhchmpoaiiaaCShape
import Derived.Test.YtcgfhchmpoaiiaaCShape2
import Derived.Test.YtcgfhchmpoaiiaaCShapeOf
import Derived.Test.YtcgfhchmpoaiiaaCShapeOf2
import Derived.Test.YtcgfhchmpoaiiaaCShapeOf3
import Derived.Test.YtcgfhchmpoaiiaaCShapeOf4
import Derived.Test.YtcgfhchmpoaiiaaCNodeCopy
import Derived.Test.YtcgfhchmpoaiiaaCNodeAdd
import Derived.Test.YtcgfhchmpoaiiaaCDraw
import Derived.Test.YtcgfhchmpoaiiaaCNodeDraw
namespace Go.Proofs
open Go Go.Vc Go.RowKit
set_option maxRecDepth 100000
set_option linter.unusedVariables false
--! C:Small C:Order C:Node C:NodeText C:NodeValid C:NodeSpec C:HelpS C:NodeHelp C:NodeHelp2 C:NodeTop C:Cells C:Shape C:Shape2 C:ShapeOf C:ShapeOf2 C:ShapeOf3 C:ShapeOf4 C:NodeCopy C:NodeAdd C:Draw C:NodeDraw
/-! ## A shape that is changed -/

/-- A shape at 'N' whose rows nobody shares; its kids lie apart from them. -/
structure NSd (B N : Nat) (kd : Int) (l lb lk : Sl) (names : List ByteArray) (bs : List Bool) (cs : List ShC) (ks : List Sh) (w : World) : Prop where
  r : Row w N (cSh ⟨kd, l, lb, lk⟩) 31
  ol : Own B 9 1 w l (names.flatMap cS)
  ob : Own B 4 1 w lb (bs.flatMap cB)
  ok : Own B 31 4 w lk (cs.flatMap cSh)
  bn : B ≤ N
  kN : lk.v.ownBlock ≠ some N
  kl : cs.length = ks.length
  kids : ∀ (i : Nat) d y, cs[i]? = some d → ks[i]? = some y → ShAt (fun k => B ≤ k ∧ k ≠ N ∧ l.v.ownBlock ≠ some k ∧ lb.v.ownBlock ≠ some k ∧ lk.v.ownBlock ≠ some k) w d y

variable {B N : Nat} {kd : Int} {l lb lk : Sl} {names : List ByteArray} {bs : List Bool} {cs : List ShC} {ks : List Sh} {w : World}

theorem NSd.keep {w' : World} (h : NSd B N kd l lb lk names bs cs ks w) (hk : ∀ k, B ≤ k → k < w.heap.size → w'.heap[k]? = w.heap[k]?) : NSd B N kd l lb lk names bs cs ks w' :=
  ⟨h.r.of_same (hk N h.bn h.r.lt), h.ol.keepB fun k e => hk k (h.ol.lt k e).1 (h.ol.lt k e).2, h.ob.keepB fun k e => hk k (h.ob.lt k e).1 (h.ob.lt k e).2, h.ok.keepB fun k e => hk k (h.ok.lt k e).1 (h.ok.lt k e).2, h.bn, h.kN, h.kl,
    fun i d y hd hy => (h.kids i d y hd hy).keep fun k hf hlt => hk k hf.1 hlt⟩

theorem NSd.ext {w' : World} (h : NSd B N kd l lb lk names bs cs ks w) (e : Ext w w') : NSd B N kd l lb lk names bs cs ks w' := h.keep fun k _ hlt => e.block k hlt
theorem NSd.chg {w' : World} {b : Nat} (h : NSd B N kd l lb lk names bs cs ks w) (c : Chg b w w') (hb : b < B) : NSd B N kd l lb lk names bs cs ks w' :=
  h.keep fun k hk hlt => c.block k hlt fun e => by
    have : k = b := by simpa using e
    omega

theorem row_two {g : Nat} {vs us : List Value} {T U : TypeId} {w : World} (h : Row w g vs T) (k : Row w g us U) : T = U := by
  unfold Row at h k
  rw [h] at k
  simp only [Option.some.injEq, Obj.cells.injEq] at k
  exact k.2.1

/-- A need is set. -/
theorem NSd.setNeed {i : Nat} {v : Bool} {K : World → Prop} (h : NSd B N kd l lb lk names bs cs ks w) (hi : i < bs.length)
    (hk : ∀ w', NSd B N kd l lb lk names (bs.set i v) cs ks w' → w.grownBy w' lb.v.ownBlock → K w') :
    onSome lb.a (fun a => ((0 : Int) ≤ (i : Int) ∧ (i : Int) < (lb.len : Int)) ∧ Wr w (a.add ((i : Int).toNat * 1)) ∧ letW (w.setCell (a.add ((i : Int).toNat * 1)) (.bool v)) K) := by
  have hll := h.ob.len cB_len (by decide)
  have hfl : (bs.flatMap cB).length = bs.length := by rw [flatMap_len cB_len]; omega
  obtain ⟨g, hg, p, o, gr⟩ := h.ob.setAt (k := i) (by rw [hfl]; exact hi) (.bool v)
  refine onSome_i hg ⟨⟨by omega, by omega⟩, ?_⟩
  rw [at_idx1]
  refine ⟨p, hk _ ?_ gr⟩
  have hset : (bs.flatMap cB).set i (.bool v) = (bs.set i v).flatMap cB := by
    have h1 : bs.flatMap cB = bs.map Value.bool := by
      clear hfl hi hll h hk o
      induction bs with
      | nil => rfl
      | cons b r ih => simp [cB, ih]
    have h2 : (bs.set i v).flatMap cB = (bs.set i v).map Value.bool := by
      clear hfl hi hll h hk o h1
      generalize bs.set i v = xs
      induction xs with
      | nil => rfl
      | cons b r ih => simp [cB, ih]
    rw [h1, h2, List.map_set]
  rw [hset] at o
  have hn := row_apart h.ob h.r (by decide)
  have h1 := own_apart h.ob h.ol (by decide)
  have h2 := own_apart h.ob h.ok (by decide)
  have gr' : ∀ k, k < w.heap.size → lb.v.ownBlock ≠ some k → (w.setCell ((⟨g, 0, none⟩ : Addr).add i) (.bool v)).heap[k]? = w.heap[k]? := fun k hk hne => gr.block k hk fun e => hne e.symm
  refine ⟨h.r.of_same (gr' N h.r.lt hn), h.ol.keepB fun k e => gr' k (h.ol.lt k e).2 ?_, o, h.ok.keepB fun k e => gr' k (h.ok.lt k e).2 ?_, h.bn, h.kN, h.kl, fun j d y hd hy => (h.kids j d y hd hy).keep fun k hf hlt => gr' k hlt hf.2.2.2.1⟩
  · intro e'
    rcases h1 with q | q
    · rw [q] at e'; cases e'
    · exact q (e'.trans e.symm)
  · intro e'
    rcases h2 with q | q
    · rw [q] at e'; cases e'
    · exact q (e'.trans e.symm)

/-- A kid is set. -/
theorem NSd.setKid {i : Nat} {e : ShC} {x : Sh} {m : Nat} {K : World → Prop} (h : NSd B N kd l lb lk names bs cs ks w) (hi : i < cs.length)
    (he : ShAt (fun k => m ≤ k) w e x) (hm : B ≤ m ∧ N < m ∧ (∀ k, l.v.ownBlock = some k → k < m) ∧ (∀ k, lb.v.ownBlock = some k → k < m) ∧ (∀ k, lk.v.ownBlock = some k → k < m))
    (hk : ∀ w', NSd B N kd l lb lk names bs (cs.set i e) (ks.set i x) w' → w.grownBy w' lk.v.ownBlock → K w') :
    onSome lk.a (fun a => ((0 : Int) ≤ (i : Int) ∧ (i : Int) < (lk.len : Int)) ∧ Wr w (a.add ((i : Int).toNat * 4)) ∧ letW (w.setCell (a.add ((i : Int).toNat * 4)) (.int .i64 e.k)) (fun w70 => Wr w70 ((a.add ((i : Int).toNat * 4)).add 1) ∧ letW (w70.setCell ((a.add ((i : Int).toNat * 4)).add 1) (.slice e.sn.a e.sn.len e.sn.cap)) (fun w71 => Wr w71 ((a.add ((i : Int).toNat * 4)).add 2) ∧ letW (w71.setCell ((a.add ((i : Int).toNat * 4)).add 2) (.slice e.sb.a e.sb.len e.sb.cap)) (fun w72 => Wr w72 ((a.add ((i : Int).toNat * 4)).add 3) ∧ letW (w72.setCell ((a.add ((i : Int).toNat * 4)).add 3) (.slice e.sk.a e.sk.len e.sk.cap)) K)))) := by
  have hll := h.ok.len cSh_len (by decide)
  have hsplit : cs = cs.take i ++ cs[i] :: cs.drop (i + 1) := by simp
  have hti : (cs.take i).length = i := by simp; omega
  have ok' := h.ok
  rw [hsplit] at ok'
  obtain ⟨a, ha, hil, p⟩ := Own.put4 (y := e) cSh_len ok' rfl (K := K) (fun w' o gr => by
    refine hk w' ?_ gr
    have hset : cs.set i e = cs.take i ++ e :: cs.drop (i + 1) := by
      conv => lhs; rw [hsplit]
      exact set_mid' hti
    have hn := row_apart h.ol h.r (by decide)
    have h1 := own_apart h.ol h.ok (by decide)
    have h2 := own_apart h.ob h.ok (by decide)
    have gr' : ∀ k, k < w.heap.size → lk.v.ownBlock ≠ some k → w'.heap[k]? = w.heap[k]? := fun k hk hne => gr.block k hk fun e => hne e.symm
    refine ⟨h.r.of_same (gr' N h.r.lt h.kN), h.ol.keepB fun k e => gr' k (h.ol.lt k e).2 ?_, h.ob.keepB fun k e => gr' k (h.ob.lt k e).2 ?_, by rw [hset]; exact o, h.bn, h.kN, by simp [h.kl], fun j d y hd hy => ?_⟩
    · intro e'
      rcases h1 with q | q
      · rw [q] at e; cases e
      · exact q (e.trans e'.symm)
    · intro e'
      rcases h2 with q | q
      · rw [q] at e; cases e
      · exact q (e.trans e'.symm)
    · rw [List.getElem?_set] at hd hy
      by_cases hij : i = j
      · subst hij
        rw [if_pos rfl, if_pos hi] at hd
        rw [if_pos rfl, if_pos (by have := h.kl; omega)] at hy
        obtain rfl := Option.some.inj hd
        obtain rfl := Option.some.inj hy
        refine (he.keep fun k hf hlt => gr' k hlt fun e => by have := hm.2.2.2.2 k e; omega).mono fun k hf _ => ⟨by omega, by omega, fun e => ?_, fun e => ?_, fun e => ?_⟩
        · have := hm.2.2.1 k e; omega
        · have := hm.2.2.2.1 k e; omega
        · have := hm.2.2.2.2 k e; omega
      · rw [if_neg hij] at hd hy
        exact (h.kids j d y hd hy).keep fun k hf hlt => gr' k hlt hf.2.2.2.2)
  rw [hti] at p hil
  exact onSome_i ha ⟨⟨by omega, by omega⟩, p⟩
where
  set_mid' {α : Type} {A B : List α} {z v : α} {k : Nat} (hk : A.length = k) : (A ++ z :: B).set k v = A ++ v :: B := by
    subst hk
    rw [List.set_append_right _ _ (Nat.le_refl _), Nat.sub_self, List.set_cons_zero]

theorem push1oC {α : Type} {c : α → List Value} {n bytes base : Nat} {T : TypeId} {w : World} {l : Sl} {ys : List α} {x : α} {K : Sl → World → Prop} {C : World → Prop} (hC : ∀ wm, Ext w wm → C wm) (hc : ∀ x, (c x).length = n) (hn : 1 ≤ n) (h1 : ∀ u ∈ c x, u.oneCell' = true)
    (o : Own base T n w l (ys.flatMap c)) (hb : base ≤ w.heap.size) (hlen : ys.length ≤ 1000000000) (hby : bytes ≤ 1024)
    (hk : ∀ s' wm w', Ext w wm → Own base T n w' s' ((ys ++ [x]).flatMap c) → wm.grownBy w' l.v.ownBlock → (s'.v.ownBlock = l.v.ownBlock ∨ s'.v.ownBlock = some wm.heap.size) → K s' w') :
    letW (w.alloc (.cells (c x).toArray T)) (fun w5 => C w5 ∧ sAppend T n bytes ⟨l.a, l.len, l.cap⟩ ⟨some (⟨w.heap.size, 0, none⟩ : Addr), 1, 1⟩ w5 K) :=
  ⟨hC _ ((Ext.refl w).alloc _), push1o hc hn h1 o hb hlen hby hk⟩

/-- A name is appended. -/
theorem NSd.pushName {nm : ByteArray} {K : World → Prop} (h : NSd B N kd l lb lk names bs cs ks w) (hB : B ≤ w.heap.size) (hl : names.length ≤ 1000)
    (hk : ∀ l' wm w1 w', NSd B N kd l' lb lk (names ++ [nm]) bs cs ks w' → Ext w wm → wm.grownBy w1 l.v.ownBlock → Chg N w1 w' → K w') :
    letW (w.alloc (.cells #[.string nm] 9)) (fun w80 => sAppend 9 1 16 ⟨l.a, l.len, l.cap⟩ ⟨(some (⟨w.heap.size, 0, none⟩ : Addr)), 1, 1⟩ w80 (fun l81 w82 => Wr w82 ((⟨N, 0, none⟩ : Addr).add 1) ∧ letW (w82.setCell ((⟨N, 0, none⟩ : Addr).add 1) (.slice l81.a l81.len l81.cap)) K)) := by
  refine push1o (x := nm) cS_len (by decide) (cS_one nm) h.ol hB (by omega) (by decide) fun l' wm w1 em ol' hg hw => ?_
  have hn := row_apart h.ol h.r (by decide)
  have h1 := own_apart h.ol h.ob (by decide)
  have h2 := own_apart h.ol h.ok (by decide)
  have hg' : ∀ k, k < w.heap.size → l.v.ownBlock ≠ some k → w1.heap[k]? = w.heap[k]? := fun k hk hne => (hg.block k (Nat.lt_of_lt_of_le hk em.size) fun e => hne e.symm).trans (em.block k hk)
  have hr1 := h.r.of_same (hg' N h.r.lt hn)
  have ob1 := h.ob.keepB fun k e => hg' k (h.ob.lt k e).2 fun e' => by
    rcases h1 with q | q
    · rw [q] at e'; cases e'
    · exact q (e'.trans e.symm)
  have ok1 := h.ok.keepB fun k e => hg' k (h.ok.lt k e).2 fun e' => by
    rcases h2 with q | q
    · rw [q] at e'; cases e'
    · exact q (e'.trans e.symm)
  obtain ⟨p, q⟩ := Row.setMid (A := [.int .i64 kd]) (B := [.slice lb.a lb.len lb.cap, .slice lk.a lk.len lk.cap]) (p := (⟨N, 0, none⟩ : Addr).add 1) hr1 rfl (.slice l'.a l'.len l'.cap)
  refine ⟨p, letW_i fun w2 h2' => ?_⟩
  rw [← h2'] at q
  have c2 : Chg N w1 w2 := by rw [h2']; exact (Chg.refl _ _).set (by rw [add_block]) _
  clear h2'
  have hc' : ∀ k, k < w1.heap.size → k ≠ N → w2.heap[k]? = w1.heap[k]? := fun k hk hne => c2.block k hk fun e => hne (by simpa using e)
  have a1 := row_apart ol' hr1 (by decide)
  have a2 := row_apart ob1 hr1 (by decide)
  have sz1 := em.size
  refine hk l' wm w1 w2 ⟨q, ol'.keepB fun k e => hc' k (ol'.lt k e).2 fun e' => a1 (by rw [← e']; exact e), ob1.keepB fun k e => hc' k (ob1.lt k e).2 fun e' => a2 (by rw [← e']; exact e),
    ok1.keepB fun k e => hc' k (ok1.lt k e).2 fun e' => h.kN (by rw [← e']; exact e), h.bn, h.kN, h.kl, fun i d y hd hy => ?_⟩ em hg c2
  have h0 := (h.kids i d y hd hy).mono (S' := fun k => (B ≤ k ∧ k ≠ N ∧ l.v.ownBlock ≠ some k ∧ lb.v.ownBlock ≠ some k ∧ lk.v.ownBlock ≠ some k) ∧ k < w.heap.size) fun k hf hlt => ⟨hf, hlt⟩
  refine ((h0.keep (w' := w1) fun k hf hlt => hg' k hlt hf.1.2.2.1).keep (w' := w2) fun k hf hlt => hc' k hlt hf.1.2.1).mono fun k hf _ => ⟨hf.1.1, hf.1.2.1, ?_, hf.1.2.2.2⟩
  rcases hw with hw | hw
  · rw [hw]; exact hf.1.2.2.1
  · rw [hw]; intro e; injection e; omega

/-- A need is appended. -/
theorem NSd.pushNeed {v : Bool} {C : World → Prop} {K : World → Prop} (h : NSd B N kd l lb lk names bs cs ks w) (hB : B ≤ w.heap.size) (hl : bs.length ≤ 1000) (hC : ∀ wm, Ext w wm → C wm)
    (hk : ∀ l' wm w1 w', NSd B N kd l l' lk names (bs ++ [v]) cs ks w' → Ext w wm → wm.grownBy w1 lb.v.ownBlock → Chg N w1 w' → K w') :
    letW (w.alloc (.cells #[.bool v] 4)) (fun w80 => C w80 ∧ sAppend 4 1 1 ⟨lb.a, lb.len, lb.cap⟩ ⟨(some (⟨w.heap.size, 0, none⟩ : Addr)), 1, 1⟩ w80 (fun l81 w82 => Wr w82 ((⟨N, 0, none⟩ : Addr).add 2) ∧ letW (w82.setCell ((⟨N, 0, none⟩ : Addr).add 2) (.slice l81.a l81.len l81.cap)) K)) := by
  refine push1oC (x := v) hC cB_len (by decide) (cB_one v) h.ob hB (by omega) (by decide) fun l' wm w1 em ol' hg hw => ?_
  have hn := row_apart h.ob h.r (by decide)
  have h1 := own_apart h.ob h.ol (by decide)
  have h2 := own_apart h.ob h.ok (by decide)
  have hg' : ∀ k, k < w.heap.size → lb.v.ownBlock ≠ some k → w1.heap[k]? = w.heap[k]? := fun k hk hne => (hg.block k (Nat.lt_of_lt_of_le hk em.size) fun e => hne e.symm).trans (em.block k hk)
  have hr1 := h.r.of_same (hg' N h.r.lt hn)
  have ob1 := h.ol.keepB fun k e => hg' k (h.ol.lt k e).2 fun e' => by
    rcases h1 with q | q
    · rw [q] at e'; cases e'
    · exact q (e'.trans e.symm)
  have ok1 := h.ok.keepB fun k e => hg' k (h.ok.lt k e).2 fun e' => by
    rcases h2 with q | q
    · rw [q] at e'; cases e'
    · exact q (e'.trans e.symm)
  obtain ⟨p, q⟩ := Row.setMid (A := [.int .i64 kd, .slice l.a l.len l.cap]) (B := [.slice lk.a lk.len lk.cap]) (p := (⟨N, 0, none⟩ : Addr).add 2) hr1 rfl (.slice l'.a l'.len l'.cap)
  refine ⟨p, letW_i fun w2 h2' => ?_⟩
  rw [← h2'] at q
  have c2 : Chg N w1 w2 := by rw [h2']; exact (Chg.refl _ _).set (by rw [add_block]) _
  clear h2'
  have hc' : ∀ k, k < w1.heap.size → k ≠ N → w2.heap[k]? = w1.heap[k]? := fun k hk hne => c2.block k hk fun e => hne (by simpa using e)
  have a1 := row_apart ol' hr1 (by decide)
  have a2 := row_apart ob1 hr1 (by decide)
  have sz1 := em.size
  refine hk l' wm w1 w2 ⟨q, ob1.keepB fun k e => hc' k (ob1.lt k e).2 fun e' => a2 (by rw [← e']; exact e), ol'.keepB fun k e => hc' k (ol'.lt k e).2 fun e' => a1 (by rw [← e']; exact e),
    ok1.keepB fun k e => hc' k (ok1.lt k e).2 fun e' => h.kN (by rw [← e']; exact e), h.bn, h.kN, h.kl, fun i d y hd hy => ?_⟩ em hg c2
  have h0 := (h.kids i d y hd hy).mono (S' := fun k => (B ≤ k ∧ k ≠ N ∧ l.v.ownBlock ≠ some k ∧ lb.v.ownBlock ≠ some k ∧ lk.v.ownBlock ≠ some k) ∧ k < w.heap.size) fun k hf hlt => ⟨hf, hlt⟩
  refine ((h0.keep (w' := w1) fun k hf hlt => hg' k hlt hf.1.2.2.2.1).keep (w' := w2) fun k hf hlt => hc' k hlt hf.1.2.1).mono fun k hf _ => ⟨hf.1.1, hf.1.2.1, hf.1.2.2.1, ?_, hf.1.2.2.2.2⟩
  rcases hw with hw | hw
  · rw [hw]; exact hf.1.2.2.2.1
  · rw [hw]; intro e; injection e; omega

theorem ShAt.leaf (S : Nat → Prop) (w : World) (k : Int) : ShAt S w ⟨k, ⟨none, 0, 0⟩, ⟨none, 0, 0⟩, ⟨none, 0, 0⟩⟩ (.mk k [] [] []) :=
  .mk ⟨k, ⟨none, 0, 0⟩, ⟨none, 0, 0⟩, ⟨none, 0, 0⟩⟩ [] [] [] [] (SlOf.nil _ _) (SlOf.nil _ _) (SlOf.nil _ _) rfl (fun h => absurd rfl h) (fun h => absurd rfl h) (fun h => absurd rfl h) ⟨by simp, by simp, by simp, fun x h => by cases h⟩ (fun i d n h => by simp at h)

/-- A kid without kids is appended. -/
theorem NSd.pushKid {k0 : Int} {C : World → Prop} {K : World → Prop} (h : NSd B N kd l lb lk names bs cs ks w) (hB : B ≤ w.heap.size) (hl : cs.length ≤ 1000) (hC : ∀ wm, Ext w wm → C wm)
    (hk : ∀ l' wm w1 w', NSd B N kd l lb l' names bs (cs ++ [⟨k0, ⟨none, 0, 0⟩, ⟨none, 0, 0⟩, ⟨none, 0, 0⟩⟩]) (ks ++ [.mk k0 [] [] []]) w' → Ext w wm → wm.grownBy w1 lk.v.ownBlock → Chg N w1 w' → K w') :
    letW (w.alloc (.cells #[.int .i64 k0, .slice none 0 0, .slice none 0 0, .slice none 0 0] 31)) (fun w80 => C w80 ∧ sAppend 31 4 80 ⟨lk.a, lk.len, lk.cap⟩ ⟨(some (⟨w.heap.size, 0, none⟩ : Addr)), 1, 1⟩ w80 (fun l81 w82 => Wr w82 ((⟨N, 0, none⟩ : Addr).add 3) ∧ letW (w82.setCell ((⟨N, 0, none⟩ : Addr).add 3) (.slice l81.a l81.len l81.cap)) K)) := by
  refine push1oC (x := (⟨k0, ⟨none, 0, 0⟩, ⟨none, 0, 0⟩, ⟨none, 0, 0⟩⟩ : ShC)) hC cSh_len (by decide) (cSh_one _) h.ok hB (by omega) (by decide) fun l' wm w1 em ol' hg hw => ?_
  have hn := h.kN
  have h1 := own_apart h.ok h.ol (by decide)
  have h2 := own_apart h.ok h.ob (by decide)
  have hg' : ∀ k, k < w.heap.size → lk.v.ownBlock ≠ some k → w1.heap[k]? = w.heap[k]? := fun k hk hne => (hg.block k (Nat.lt_of_lt_of_le hk em.size) fun e => hne e.symm).trans (em.block k hk)
  have hr1 := h.r.of_same (hg' N h.r.lt hn)
  have ob1 := h.ol.keepB fun k e => hg' k (h.ol.lt k e).2 fun e' => by
    rcases h1 with q | q
    · rw [q] at e'; cases e'
    · exact q (e'.trans e.symm)
  have ok1 := h.ob.keepB fun k e => hg' k (h.ob.lt k e).2 fun e' => by
    rcases h2 with q | q
    · rw [q] at e'; cases e'
    · exact q (e'.trans e.symm)
  obtain ⟨p, q⟩ := Row.setMid (A := [.int .i64 kd, .slice l.a l.len l.cap, .slice lb.a lb.len lb.cap]) (B := []) (p := (⟨N, 0, none⟩ : Addr).add 3) hr1 rfl (.slice l'.a l'.len l'.cap)
  refine ⟨p, letW_i fun w2 h2' => ?_⟩
  rw [← h2'] at q
  have c2 : Chg N w1 w2 := by rw [h2']; exact (Chg.refl _ _).set (by rw [add_block]) _
  clear h2'
  have hc' : ∀ k, k < w1.heap.size → k ≠ N → w2.heap[k]? = w1.heap[k]? := fun k hk hne => c2.block k hk fun e => hne (by simpa using e)
  have a2 := row_apart ob1 hr1 (by decide)
  have a3 := row_apart ok1 hr1 (by decide)
  have sz1 := em.size
  have hNl := h.r.lt
  have a1 : l'.v.ownBlock ≠ some N := by
    rcases hw with hw | hw
    · rw [hw]; exact hn
    · rw [hw]; intro e; injection e; omega
  refine hk l' wm w1 w2 ⟨q, ob1.keepB fun k e => hc' k (ob1.lt k e).2 fun e' => a2 (by rw [← e']; exact e), ok1.keepB fun k e => hc' k (ok1.lt k e).2 fun e' => a3 (by rw [← e']; exact e),
    ol'.keepB fun k e => hc' k (ol'.lt k e).2 fun e' => a1 (by rw [← e']; exact e), h.bn, a1, by simp [h.kl], fun i d y hd hy => ?_⟩ em hg c2
  by_cases hlt : i < cs.length
  · rw [List.getElem?_append_left hlt] at hd
    rw [List.getElem?_append_left (by have := h.kl; omega)] at hy
    have h0 := (h.kids i d y hd hy).mono (S' := fun k => (B ≤ k ∧ k ≠ N ∧ l.v.ownBlock ≠ some k ∧ lb.v.ownBlock ≠ some k ∧ lk.v.ownBlock ≠ some k) ∧ k < w.heap.size) fun k hf hlt => ⟨hf, hlt⟩
    refine ((h0.keep (w' := w1) fun k hf hlt => hg' k hlt hf.1.2.2.2.2).keep (w' := w2) fun k hf hlt => hc' k hlt hf.1.2.1).mono fun k hf _ => ⟨hf.1.1, hf.1.2.1, hf.1.2.2.1, hf.1.2.2.2.1, ?_⟩
    rcases hw with hw | hw
    · rw [hw]; exact hf.1.2.2.2.2
    · rw [hw]; intro e; injection e; omega
  · have hi : i = cs.length := by
      have := (List.getElem?_eq_some_iff.1 hd).1
      simp at this; omega
    subst hi
    rw [List.getElem?_append_right (Nat.le_refl _)] at hd
    rw [h.kl, List.getElem?_append_right (Nat.le_refl _)] at hy
    simp at hd hy
    subst hd hy
    exact ShAt.leaf _ _ _
end Go.Proofs
