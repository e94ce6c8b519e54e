/-
  What functions of this seat compute, part 'StoreDraw2': contracts over their readable predicates. Conditions: each theorem's own hypotheses.
-/
import Derived.Test.YtiohmpihadcpaaaBase
import Derived.Test.YtiohmpihadcpaaaOpen
import Derived.Test.YtiohmpihadcpaaaGen
import Derived.Test.YtiohmpihadcpaaaCSmall
import Derived.Test.YtiohmpihadcpaaaCOrder
import Derived.Test.YtiohmpihadcpaaaCNode
import Derived.Test.YtiohmpihadcpaaaCNodeText
import Derived.Test.YtiohmpihadcpaaaCNodeValid
import Derived.Test.YtiohmpihadcpaaaCNodeSpec
import Derived.Test.YtiohmpihadcpaaaCHelpS
import Derived.Test.YtiohmpihadcpaaaCNodeHelp
import Derived.Test.YtiohmpihadcpaaaCNodeHelp2
import Derived.Test.YtiohmpihadcpaaaCNodeTop
import Derived.Test.YtiohmpihadcpaaaCCells
import Derived.Test.YtiohmpihadcpaaaCItem
import Derived.Test.YtiohmpihadcpaaaCItem2
import Derived.Test.YtiohmpihadcpaaaCStoreLaws
import Derived.Test.YtiohmpihadcpaaaCNodeCopy
import Derived.Test.YtiohmpihadcpaaaCNodeAdd
import Derived.Test.YtiohmpihadcpaaaCDraw
import Derived.Test.YtiohmpihadcpaaaCNodeDraw
import Derived.Test.YtiohmpihadcpaaaCNodeDraw2
import Derived.Test.YtiohmpihadcpaaaCNodeDraw3
import Derived.Test.YtiohmpihadcpaaaCStoreDraw
namespace Go.Proofs
open Go Go.Vc Go.RowKit
set_option maxRecDepth 100000
set_option linter.unusedVariables false
--! C:Small C:Order C:Node C:NodeText C:NodeValid C:NodeSpec C:HelpS C:NodeHelp C:NodeHelp2 C:NodeTop C:Cells C:Item C:Item2 C:StoreLaws C:NodeCopy C:NodeAdd C:Draw C:NodeDraw C:NodeDraw2 C:NodeDraw3 C:StoreDraw
/-! ## Stores changed -/

theorem c_spec_find {S : Nat → Prop} {w : World} {l : Sl} {c : Int} {xs : List It} (name : ByteArray) (h : ItsAt S w l xs) :
    CallR Try.prog 83 [svE l c, .string name] w (fun v w' => (∃ k : Int, v = .int .i64 k) ∧ Ext w w') := by
  refine fn_spec_find _ _ _ _ _ ?_
  unfold g_spec_find
  simp only [add_nought]
  have hk := h.slen
  have hl := h.len
  unfold maxLen at hl
  refine stBox fun w1 e1 r1 => ?_
  refine sLoop_list xs (fun pre _ w' => Ext w1 w') (Ext.refl _) ?_ ?_
  · rintro K pre post x u w2 hx he hK _
    have hm := mid_len hx
    obtain ⟨q0, q1⟩ := Row.st (r1.ext he)
    simp only [exL q0]
    obtain ⟨d, a, ha, hn, g0, _⟩ := (h.ext (e1.trans he)).at_ (mid_get hx)
    refine br_dt (by omega) (onSome_i ha ⟨⟨by omega, by omega⟩, _, g0, br_i (fun g => ⟨⟨_, rfl⟩, e1.trans he⟩) (fun g => ⟨inR_i64 (by omega) (by omega), hK _ _ he⟩)⟩)
  · rintro K u w2 he _
    obtain ⟨q0, q1⟩ := Row.st (r1.ext he)
    simp only [exL q0]
    exact br_df (by omega) ⟨⟨_, rfl⟩, e1.trans he⟩

/-- A list that grows out of what lies in the blocks from 'lo' to 'hi'. -/
structure GL (base lo : Nat) (w0 w : World) (l : Sl) (ys : List It) : Prop where
  own : IOwn base w l ys
  late : ∀ k, l.v.ownBlock = some k → k = base ∨ w0.heap.size ≤ k
  same : ∀ k, lo ≤ k → k < w0.heap.size → w.heap[k]? = w0.heap[k]?
  pre : ∀ a : World, a.heap.size ≤ base → Ext a w0 → Ext a w
  sz : w0.heap.size ≤ w.heap.size
  lt : base < lo ∧ base < w0.heap.size

theorem GL.nodeAt {base lo : Nat} {w0 w : World} {l : Sl} {ys : List It} {d : NdC} {n : Nd} (h : GL base lo w0 w l ys) (hn : NdAt (fun k => lo ≤ k) w0 d n) : NdAt (fun k => lo ≤ k ∧ k < w0.heap.size) w d n :=
  (hn.mono (S' := fun k => lo ≤ k ∧ k < w0.heap.size) fun k hk hlt => ⟨hk, hlt⟩).keep fun k hf hlt => h.same k hf.1 hf.2

theorem GL.cell {base lo : Nat} {w0 w : World} {l : Sl} {ys : List It} {p : Addr} {v : Value} (h : GL base lo w0 w l ys) (hp : w0.cell? p = some v) (hlo : lo ≤ p.block) : w.cell? p = some v :=
  (World.cell?_of_block (h.same p.block hlo (World.block_lt_of_cell? w0 p hp))).trans hp

theorem GL.push {base lo : Nat} {w0 w : World} {l : Sl} {ys : List It} {s : ByteArray} {v : Int} {d : NdC} {n : Nd} {K : Sl → World → Prop} (h : GL base lo w0 w l ys) (hn : NdAt (fun k => lo ≤ k) w0 d n) (hs : s.size ≤ maxLen) (hl : ys.length < 1000)
    (hk : ∀ l' w', GL base lo w0 w' l' (ys ++ [(s, v, n)]) → K l' w') :
    letW (w.alloc (.cells #[.string s, .int .i64 v, .int .i64 d.k, .int .i64 d.m, .string d.t, .slice d.sn.a d.sn.len d.sn.cap, .slice d.sk.a d.sk.len d.sk.cap] 52)) (fun w35 => sAppend 52 7 104 ⟨l.a, l.len, l.cap⟩ ⟨(some (⟨w.heap.size, 0, none⟩ : Addr)), 1, 1⟩ w35 K) := by
  have hlt := h.lt
  have hsz := h.sz
  refine IOwn.push h.own ((h.nodeAt hn).mono fun k hk _ => ⟨by omega, fun e => by rcases h.late k e with q | q <;> omega⟩) hs (by omega) hl fun l' wm w' hL em hg hw => hk l' w' ⟨hL, fun k hk => ?_, fun k h1 h2 => ?_, fun a ha ea => ?_, ?_, hlt⟩
  · rcases hw with hw | hw
    · exact h.late k (by rw [← hw]; exact hk)
    · rw [hw] at hk; injection hk with hk; have := em.size; omega
  · have h3 := (hg.block k (by have := em.size; omega) (fun e => by rcases h.late k e.symm with q | q <;> omega)).trans (em.block k (by omega))
    exact h3.trans (h.same k h1 h2)
  · exact ((h.pre a ha ea).trans em).grown hg fun k hk => by have := (h.own.own k hk).1; omega
  · have := em.size; have := hg.size; omega

/-- An old document is taken over, unless it has the name. -/
theorem GL.old {base lo : Nat} {w0 w : World} {l lo' : Sl} {ys xs : List It} {i : Nat} {x : It} {name : ByteArray} {K1 : Sl → World → Prop} {K2 : Prop} (h : GL base lo w0 w l ys) (hx : IOwn lo w0 lo' xs) (hxi : xs[i]? = some x) (hl : ys.length < 1000)
    (h1 : ∀ l' w', GL base lo w0 w' l' (ys ++ [x]) → K1 l' w') (h2 : K2) :
    onSome lo'.a (fun a99 => ((0 : Int) ≤ (i : Int) ∧ (i : Int) < (lo'.len : Int)) ∧ ∃ s100 : ByteArray, w.cell? (a99.add ((i : Int).toNat * 7)) = some (.string s100) ∧ br (!(seqB s100 name)) (onSome lo'.a (fun a101 => ((0 : Int) ≤ (i : Int) ∧ (i : Int) < (lo'.len : Int)) ∧ ∃ s102 : ByteArray, w.cell? (a101.add ((i : Int).toNat * 7)) = some (.string s102) ∧ ∃ n103 : Int, w.cell? ((a101.add ((i : Int).toNat * 7)).add 1) = some (.int .i64 n103) ∧ ∃ n104 : Int, w.cell? ((a101.add ((i : Int).toNat * 7)).add 2) = some (.int .i64 n104) ∧ ∃ n105 : Int, w.cell? ((a101.add ((i : Int).toNat * 7)).add 3) = some (.int .i64 n105) ∧ ∃ s106 : ByteArray, w.cell? ((a101.add ((i : Int).toNat * 7)).add 4) = some (.string s106) ∧ ∃ l107 : Sl, w.cell? ((a101.add ((i : Int).toNat * 7)).add 5) = some (.slice l107.a l107.len l107.cap) ∧ ∃ l108 : Sl, w.cell? ((a101.add ((i : Int).toNat * 7)).add 6) = some (.slice l108.a l108.len l108.cap) ∧ letW (w.alloc (.cells #[.string s102, .int .i64 n103, .int .i64 n104, .int .i64 n105, .string s106, .slice l107.a l107.len l107.cap, .slice l108.a l108.len l108.cap] 52)) (fun w109 => sAppend 52 7 104 ⟨l.a, l.len, l.cap⟩ ⟨(some (⟨w.heap.size, 0, none⟩ : Addr)), 1, 1⟩ w109 K1))) K2) := by
  have hs := hx.its.slen
  have hil := (List.getElem?_eq_some_iff.1 hxi).1
  obtain ⟨d, a, ha, hn, g0, g1, g2, g3, g4, g5, g6⟩ := hx.its.at_ hxi
  have hab : lo ≤ a.block := by
    have : lo'.v.ownBlock = some a.block := by simp [Sl.v, Value.ownBlock, ha]
    exact (hx.own _ this).1
  have b0 := h.cell g0 (by simp only [add_block]; exact hab)
  have b1 := h.cell g1 (by simp only [add_block]; exact hab)
  have b2 := h.cell g2 (by simp only [add_block]; exact hab)
  have b3 := h.cell g3 (by simp only [add_block]; exact hab)
  have b4 := h.cell g4 (by simp only [add_block]; exact hab)
  have b5 := h.cell g5 (by simp only [add_block]; exact hab)
  have b6 := h.cell g6 (by simp only [add_block]; exact hab)
  refine onSome_i ha ⟨⟨by omega, by omega⟩, _, b0, br_i (fun _ => onSome_i ha ⟨⟨by omega, by omega⟩, ?_⟩) (fun _ => h2)⟩
  simp only [exS b0, exI b1, exI b2, exI b3, exS b4, exL b5, exL b6]
  exact GL.push h hn (hx.sz x (List.mem_of_getElem? hxi)) hl h1

theorem c_spec_drop {S : Nat → Prop} {w : World} {l : Sl} {c : Int} {xs : List It} (name : ByteArray) (h : ItsAt S w l xs) (hv : vSt xs c = true) :
    CallR Try.prog 84 [svE l c, .string name] w (fun v w' => ∃ (l' : Sl) (ys : List It), v = svE l' (c + 1) ∧ IOwn w.heap.size w' l' ys ∧ Ext w w') := by
  refine fn_spec_drop _ _ _ _ _ ?_
  unfold g_spec_drop
  simp only [add_nought]
  obtain ⟨v1, v2, v3⟩ := vSt_out hv
  refine stBox fun w1 e1 r1 => letW_i fun w2 hw2 => letW_i fun w3 hw3 => ?_
  have e2 : Ext w1 w2 := by rw [hw2]; exact (Ext.refl w1).alloc _
  have e3 : Ext w2 w3 := by rw [hw3]; exact (Ext.refl w2).alloc _
  have ro : Row w2 w1.heap.size [.slice none 0 0, .int .i64 0] 29 := by rw [hw2]; exact Row.new w1 [.slice none 0 0, .int .i64 0] _
  have hl3 : IOwn w2.heap.size w3 ⟨some ⟨w2.heap.size, 0, none⟩, 0, 0⟩ [] := by rw [hw3]; exact IOwn.fresh (Nat.le_refl _)
  have z3 : w2.heap.size < w3.heap.size := by rw [hw3]; simp
  clear hw2 hw3
  have r2 := r1.ext e2
  have e02 := e1.trans e2
  have z1 := e1.size
  have zo := ro.lt
  have z02 := e02.size
  obtain ⟨q0, q1⟩ := Row.st (r2.ext e3)
  simp only [exL q0, exI q1]
  refine (c_spec_copyStore (h.ext (e02.trans e3)) (fun x hx => (v3 x hx).2) (by omega)).mono ?_
  rintro _ w4 ⟨lo', rfl, hO, e4⟩
  refine ⟨_, _, rfl, ?_⟩
  have e24 := e3.trans e4
  have z4 := e4.size
  have hG : GL w2.heap.size w3.heap.size w4 w4 ⟨some ⟨w2.heap.size, 0, none⟩, 0, 0⟩ [] := ⟨hl3.ext e4, fun k hk => .inl (by have := Option.some.inj hk; exact this.symm), fun _ _ _ => rfl, fun _ _ h => h, Nat.le_refl _, ⟨z3, by omega⟩⟩
  have hos := hO.its.slen
  refine sLoop_list xs (fun pre t w' => ∃ ys, GL w2.heap.size w3.heap.size w4 w' t.1 ys ∧ ys.length ≤ pre.length) ⟨[], hG, by simp⟩ ?_ ?_
  · rintro K pre post x ⟨t, u⟩ w5 hx ⟨ys, hg, hyl⟩ hK _
    simp only at hg
    dsimp only
    have hm := mid_len hx
    refine br_dt (by omega) ?_
    refine GL.old (name := name) (K1 := fun l' w' => InR .i64 ((pre.length : Int) + 1) ∧ K ((pre.length : Int) + 1, ⟨l'.a, l'.len, l'.cap⟩, ()) w') hg hO (mid_get hx) (by omega) (fun l' w' hg' => ⟨inR_i64 (by omega) (by omega), hK _ _ ⟨_, hg', by simp; omega⟩⟩) ⟨inR_i64 (by omega) (by omega), hK _ _ ⟨ys, hg, by simp; omega⟩⟩
  · rintro K ⟨t, u⟩ w5 ⟨ys, hg, hyl⟩ _
    simp only at hg
    dsimp only
    refine br_df (by omega) ?_
    have e25 := hg.pre w2 (Nat.le_refl _) e24
    obtain ⟨q0, q1⟩ := Row.st (r2.ext e25)
    rw [exI q1]
    refine ⟨inR_i64 (by omega) (by omega), stSet (ro.ext e25) fun w6 r6 c6 => ?_⟩
    obtain ⟨o0, o1⟩ := Row.st r6
    simp only [exL o0, exI o1]
    exact ⟨t, ys, rfl, (hg.own.chg c6 zo).base_le z02, (e02.trans e25).chg c6 z1⟩

set_option maxHeartbeats 2000000 in
theorem c_spec_put {S S' : Nat → Prop} {w : World} {l : Sl} {c : Int} {xs : List It} {cn : NdC} {n : Nd} (name : ByteArray) (hnm : name.size ≤ maxLen) (h : ItsAt S w l xs) (hv : vSt xs c = true) (hn : NdAt S' w cn n) (htn : tm n = true) :
    CallR Try.prog 80 [svE l c, .string name, cn.v] w (fun v w' => ∃ (l' : Sl) (ys : List It), v = svE l' (c + 1) ∧ IOwn w.heap.size w' l' ys ∧ Ext w w') := by
  refine fn_spec_put _ _ _ _ _ _ _ _ _ _ ?_
  unfold g_spec_put
  simp only [add_nought]
  obtain ⟨v1, v2, v3⟩ := vSt_out hv
  refine stBox fun w1 e1 r1 => ndStart fun w2 e2 rn => letW_i fun w3 hw3 => letW_i fun w4 hw4 => ?_
  have e3 : Ext w2 w3 := by rw [hw3]; exact (Ext.refl w2).alloc _
  have e4 : Ext w3 w4 := by rw [hw4]; exact (Ext.refl w3).alloc _
  have ro : Row w3 w2.heap.size [.slice none 0 0, .int .i64 0] 29 := by rw [hw3]; exact Row.new w2 [.slice none 0 0, .int .i64 0] _
  have hl4 : IOwn w3.heap.size w4 ⟨some ⟨w3.heap.size, 0, none⟩, 0, 0⟩ [] := by rw [hw4]; exact IOwn.fresh (Nat.le_refl _)
  have z4 : w3.heap.size < w4.heap.size := by rw [hw4]; simp
  clear hw3 hw4
  have e02 := e1.trans e2
  have e03 := e02.trans e3
  have r3 := (r1.ext e2).ext e3
  have rn3 := rn.ext e3
  have z1 := e02.size
  have zo := ro.lt
  have z03 := e03.size
  have e04 := e03.trans e4
  obtain ⟨q0, q1⟩ := Row.st (r3.ext e4)
  obtain ⟨p0, p1, p2, p3, p4⟩ := Row.nd (rn3.ext e4)
  rw [add_nought] at p0
  refine ⟨fun st w' => ∃ (N : Nat) (d : NdC), st.1 = some ⟨N, 0, none⟩ ∧ w4.heap.size ≤ N ∧ Row w' N (cIt (name, c + 1, d)) 52 ∧ NdAt (fun k => w4.heap.size ≤ k) w' d n ∧ Ext w4 w', ?_, ?_⟩
  · refine ⟨fun w' => Ext w4 w', fun w' h => h, fun w5 (e5 : Ext w4 w5) => ⟨e5, c, fun w' e' => Ext.get e' q1, inR_i64 (by omega) (by omega), e5, cn.k, fun w' e' => Ext.get e' p0, cn.m, fun w' e' => Ext.get e' p1, cn.t, fun w' e' => Ext.get e' p2, cn.sn, fun w' e' => Ext.get e' p3, cn.sk, fun w' e' => Ext.get e' p4, ⟨e5, ?_⟩, e5, ?_⟩⟩
    · have hn5 := hn.ext (e04.trans e5)
      refine (c_spec_copyNode _ w5 cn n (Nat.le_refl _) htn hn5).mono ?_
      rintro _ w6 ⟨sn, sk, rfl, hsk, hsn, e6⟩
      have tv := copied hn5 htn hsk hsn
      have e46 := e5.trans e6
      have z5 := e5.size
      refine ⟨_, _, _, _, _, rfl, e46, e46, letW_i fun w7 hw7 => ?_⟩
      have e7 : Ext w6 w7 := by rw [hw7]; exact (Ext.refl w6).alloc _
      have rz : Row w7 w6.heap.size (cIt zeroIt) 52 := by rw [hw7]; exact Row.new w6 (cIt zeroIt) _
      clear hw7
      refine ⟨e46.trans e7, row_set7c rz fun w8 r8 c8 => ⟨w6.heap.size, ⟨n.k, n.m, n.t, sn, sk⟩, rfl, e46.size, r8, ?_, ((e46.trans e7).chg c8 e46.size)⟩⟩
      exact (((tv.mono (S' := fun k => w4.heap.size ≤ k ∧ k < w6.heap.size) fun k hk hlt => ⟨by omega, hlt⟩).ext e7).chg c8 (fun hh => by have := hh.2; omega)).mono fun k hk _ => hk.1
    · refine letW_i fun w6 hw6 => ?_
      have e6 : Ext w5 w6 := by rw [hw6]; exact (Ext.refl w5).alloc _
      have rz : Row w6 w5.heap.size (cIt zeroIt) 52 := by rw [hw6]; exact Row.new w5 (cIt zeroIt) _
      clear hw6
      have e46 := e5.trans e6
      have hn6 := hn.ext (e04.trans e46)
      refine ⟨e46, e46, (c_spec_copyNode _ w6 cn n (Nat.le_refl _) htn hn6).mono ?_⟩
      rintro _ w7 ⟨sn, sk, rfl, hsk, hsn, e7⟩
      have tv := copied hn6 htn hsk hsn
      have z5 := e5.size
      have z6 := rz.lt
      refine ⟨_, _, _, _, _, rfl, e46.trans e7, row_set7c (rz.ext e7) fun w8 r8 c8 => ⟨w5.heap.size, ⟨n.k, n.m, n.t, sn, sk⟩, rfl, z5, r8, ?_, ((e46.trans e7).chg c8 z5)⟩⟩
      exact (tv.chg c8 (by omega)).mono fun k hk _ => by omega
  · rintro ⟨oN, u0⟩ w5 ⟨N, d, hN, hN4, rN, hnd, e5⟩ _
    simp only at hN
    subst hN
    obtain ⟨q0, q1⟩ := Row.st ((r3.ext e4).ext e5)
    simp only [exL q0, exI q1]
    have e05 := e04.trans e5
    refine (c_spec_copyStore (h.ext e05) (fun x hx => (v3 x hx).2) (by omega)).mono ?_
    rintro _ w6 ⟨lo', rfl, hO, e6⟩
    refine ⟨_, _, rfl, ?_⟩
    have e46 := e5.trans e6
    have e36 := e4.trans e46
    have z5 := e5.size
    have z6 := e6.size
    have hO4 := hO.base_le z5
    have rN6 := rN.ext e6
    have hnd6 := hnd.ext e6
    have hG : GL w3.heap.size w4.heap.size w6 w6 ⟨some ⟨w3.heap.size, 0, none⟩, 0, 0⟩ [] := ⟨hl4.ext e46, fun k hk => .inl (by have := Option.some.inj hk; exact this.symm), fun _ _ _ => rfl, fun _ _ h => h, Nat.le_refl _, ⟨z4, by omega⟩⟩
    have hos := hO.its.slen
    -- the next document
    have next : ∀ (wx : World) (lx : Sl) (ys : List It) (K1 : Sl → World → Prop), GL w3.heap.size w4.heap.size w6 wx lx ys → ys.length < 900 → (∀ l' w', GL w3.heap.size w4.heap.size w6 w' l' (ys ++ [(name, c + 1, n)]) → K1 l' w') →
        onSome (some (⟨N, 0, none⟩ : Addr)) (fun a62 => ∃ s63 : ByteArray, wx.cell? a62 = some (.string s63) ∧ ∃ n64 : Int, wx.cell? (a62.add 1) = some (.int .i64 n64) ∧ ∃ n65 : Int, wx.cell? (a62.add 2) = some (.int .i64 n65) ∧ ∃ n66 : Int, wx.cell? (a62.add 3) = some (.int .i64 n66) ∧ ∃ s67 : ByteArray, wx.cell? (a62.add 4) = some (.string s67) ∧ ∃ l68 : Sl, wx.cell? (a62.add 5) = some (.slice l68.a l68.len l68.cap) ∧ ∃ l69 : Sl, wx.cell? (a62.add 6) = some (.slice l69.a l69.len l69.cap) ∧ letW (wx.alloc (.cells #[.string s63, .int .i64 n64, .int .i64 n65, .int .i64 n66, .string s67, .slice l68.a l68.len l68.cap, .slice l69.a l69.len l69.cap] 52)) (fun w70 => sAppend 52 7 104 ⟨lx.a, lx.len, lx.cap⟩ ⟨(some (⟨wx.heap.size, 0, none⟩ : Addr)), 1, 1⟩ w70 K1)) := by
      intro wx lx ys K1 hg hyl hk
      have rx : Row wx N (cIt (name, c + 1, d)) 52 := rN6.of_same (hg.same N hN4 rN6.lt)
      obtain ⟨k0, k1, k2, k3, k4, k5, k6, _⟩ := Row.it rx
      refine onSome_i rfl ?_
      simp only [exS k0, exI k1, exI k2, exI k3, exS k4, exL k5, exL k6]
      exact GL.push hg hnd6 hnm (by omega) hk
    have fin : ∀ (wx : World) (lx : Sl) (ys : List It), GL w3.heap.size w4.heap.size w6 wx lx ys → ∃ n123 : Int, wx.cell? ((⟨w.heap.size, 0, none⟩ : Addr).add 1) = some (.int .i64 n123) ∧ InR .i64 (n123 + (1 : Int)) ∧ Wr wx (⟨w2.heap.size, 0, none⟩ : Addr) ∧ letW (wx.setCell (⟨w2.heap.size, 0, none⟩ : Addr) (.slice lx.a lx.len lx.cap)) (fun w124 => Wr w124 ((⟨w2.heap.size, 0, none⟩ : Addr).add 1) ∧ letW (w124.setCell ((⟨w2.heap.size, 0, none⟩ : Addr).add 1) (.int .i64 (n123 + (1 : Int)))) (fun w125 => ∃ l126 : Sl, w125.cell? (⟨w2.heap.size, 0, none⟩ : Addr) = some (.slice l126.a l126.len l126.cap) ∧ ∃ n127 : Int, w125.cell? ((⟨w2.heap.size, 0, none⟩ : Addr).add 1) = some (.int .i64 n127) ∧ (∃ (l' : Sl) (ys : List It), Value.agg #[.slice l126.a l126.len l126.cap, .int .i64 n127] = svE l' (c + 1) ∧ IOwn w.heap.size w125 l' ys ∧ Ext w w125))) := by
      intro wx lx ys hg
      have e3x := hg.pre w3 (Nat.le_refl _) e36
      obtain ⟨t0, t1⟩ := Row.st (r3.ext e3x)
      rw [exI t1]
      refine ⟨inR_i64 (by omega) (by omega), stSet (ro.ext e3x) fun w7 r7 c7 => ?_⟩
      obtain ⟨o0, o1⟩ := Row.st r7
      simp only [exL o0, exI o1]
      exact ⟨lx, ys, rfl, (hg.own.chg c7 zo).base_le z03, (e03.trans e3x).chg c7 z1⟩
    refine sLoop_list xs (fun pre t w' => ∃ ys, GL w3.heap.size w4.heap.size w6 w' t.1 ys ∧ ys.length ≤ 2 * pre.length) ⟨[], hG, by simp⟩ ?_ ?_
    · rintro K pre post x ⟨t, done, u⟩ w7 hx ⟨ys, hg, hyl⟩ hK _
      simp only at hg
      dsimp only
      have hm := mid_len hx
      have hxi := mid_get hx
      refine br_dt (by omega) ?_
      have old : ∀ (wx : World) (lx : Sl) (ys' : List It) (dn : Bool), GL w3.heap.size w4.heap.size w6 wx lx ys' → ys'.length ≤ 2 * pre.length + 1 → _ := fun wx lx ys' dn hgx hyx =>
        GL.old (name := name) (K1 := fun l' w' => InR .i64 ((pre.length : Int) + 1) ∧ K ((pre.length : Int) + 1, ⟨l'.a, l'.len, l'.cap⟩, dn, ()) w') (K2 := InR .i64 ((pre.length : Int) + 1) ∧ K ((pre.length : Int) + 1, ⟨lx.a, lx.len, lx.cap⟩, dn, ()) wx) hgx hO4 hxi (by omega) (fun l' w' hg' => ⟨inR_i64 (by omega) (by omega), hK _ _ ⟨_, hg', by simp; omega⟩⟩) ⟨inR_i64 (by omega) (by omega), hK _ _ ⟨ys', hgx, by simp; omega⟩⟩
      refine br_i (fun g => ?_) (fun g => old w7 t ys done hg (by omega))
      obtain ⟨dx, a, ha, hnx, g0, _⟩ := hO4.its.at_ hxi
      have hab : w4.heap.size ≤ a.block := by
        have : lo'.v.ownBlock = some a.block := by simp [Sl.v, Value.ownBlock, ha]
        exact (hO4.own _ this).1
      have b0 := hg.cell g0 (by simp only [add_block]; exact hab)
      refine onSome_i ha ⟨⟨by omega, by omega⟩, _, b0, br_i (fun g2 => ?_) (fun g2 => ?_)⟩
      · exact next w7 t ys _ hg (by omega) fun l' w' hg' => old w' l' _ true hg' (by simp; omega)
      · exact old w7 t ys done hg (by omega)
    · rintro K ⟨t, done, u⟩ w7 ⟨ys, hg, hyl⟩ _
      simp only at hg
      dsimp only
      refine br_df (by omega) (br_i (fun g => ?_) (fun g => fin w7 t ys hg))
      exact next w7 t ys _ hg (by omega) fun l' w' hg' => fin w' l' _ hg'
end Go.Proofs
