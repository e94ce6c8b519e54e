/-
  What functions of this seat compute, part 'Node': contracts over their readable predicates. Conditions: each theorem's own hypotheses.
-/
import Derived.Test.YtcgfhchmpoaiiaaBase
import Derived.Test.YtcgfhchmpoaiiaaOpen
import Derived.Test.YtcgfhchmpoaiiaaGen
namespace Go.Proofs
open Go Go.Vc Go.RowKit
set_option maxRecDepth 100000
set_option linter.unusedVariables false
--!
/-! ## Nodes: trees in memory -/

inductive Nd where
  | mk (k m : Int) (t : ByteArray) (ns : List ByteArray) (ks : List Nd)

def Nd.k : Nd → Int | .mk k _ _ _ _ => k
def Nd.m : Nd → Int | .mk _ m _ _ _ => m
def Nd.t : Nd → ByteArray | .mk _ _ t _ _ => t
def Nd.ns : Nd → List ByteArray | .mk _ _ _ ns _ => ns
def Nd.ks : Nd → List Nd | .mk _ _ _ _ ks => ks

/-- The cells of a node. -/
structure NdC where
  k : Int
  m : Int
  t : ByteArray
  sn : Sl
  sk : Sl

def cN (c : NdC) : List Value := [.int .i64 c.k, .int .i64 c.m, .string c.t, .slice c.sn.a c.sn.len c.sn.cap, .slice c.sk.a c.sk.len c.sk.cap]
theorem cN_len (x : NdC) : (cN x).length = 5 := rfl
abbrev NdC.v (c : NdC) : Value := .agg #[.int .i64 c.k, .int .i64 c.m, .string c.t, .slice c.sn.a c.sn.len c.sn.cap, .slice c.sk.a c.sk.len c.sk.cap]
abbrev NdSl := SlOf cN

theorem cN_one (x : NdC) : ∀ u ∈ cN x, u.oneCell' = true := by
  intro u hu
  simp only [cN, List.mem_cons, List.not_mem_nil, or_false] at hu
  rcases hu with rfl | rfl | rfl | rfl | rfl <;> rfl

/-- The cells read as a tree, whose memory lies in blocks of 'S'. -/
inductive NdAt (S : Nat → Prop) (w : World) : NdC → Nd → Prop
  | mk (c : NdC) (names : List ByteArray) (kids : List Nd) (cs : List NdC) (hn : Strs w c.sn names) (hk : NdSl w c.sk cs) (hl : cs.length = kids.length)
      (hS1 : names ≠ [] → ∀ a, c.sn.a = some a → S a.block) (hS2 : kids ≠ [] → ∀ a, c.sk.a = some a → S a.block)
      (hb : c.t.size ≤ maxLen ∧ names.length ≤ maxLen ∧ kids.length ≤ maxLen ∧ ∀ x ∈ names, x.size ≤ maxLen) (hq : c.sn.a = none → c.sn.cap = 0)
      (h : ∀ (i : Nat) d n, cs[i]? = some d → kids[i]? = some n → NdAt S w d n) : NdAt S w c (.mk c.k c.m c.t names kids)

/-- What a tree in memory is made of. -/
theorem NdAt.out {S : Nat → Prop} {w : World} {c : NdC} {n : Nd} (h : NdAt S w c n) : c.k = n.k ∧ c.m = n.m ∧ c.t = n.t ∧ Strs w c.sn n.ns ∧ c.t.size ≤ maxLen ∧ n.ns.length ≤ maxLen ∧ n.ks.length ≤ maxLen ∧ (∀ x ∈ n.ns, x.size ≤ maxLen) ∧
    ∃ cs, NdSl w c.sk cs ∧ cs.length = n.ks.length ∧ ∀ (i : Nat) d x, cs[i]? = some d → n.ks[i]? = some x → NdAt S w d x := by
  cases h with
  | mk _ names kids cs hn hk hl hS1 hS2 hb hq h => exact ⟨rfl, rfl, rfl, hn, hb.1, hb.2.1, hb.2.2.1, hb.2.2.2, cs, hk, hl, h⟩

theorem NdAt.cap0 {S : Nat → Prop} {w : World} {c : NdC} {n : Nd} (h : NdAt S w c n) : c.sn.a = none → c.sn.cap = 0 := by
  cases h with
  | mk _ names kids cs hn hk hl hS1 hS2 hb hq h => exact hq

theorem NdAt.eta {S : Nat → Prop} {w : World} {c : NdC} {n : Nd} (h : NdAt S w c n) : n = .mk c.k c.m c.t n.ns n.ks := by
  cases h; rfl

theorem slKeep {α : Type} {c : α → List Value} {n : Nat} {w w' : World} {s : Sl} {xs : List α} (h : SlOf c w s xs) (hc : ∀ x, (c x).length = n) (hn : 0 < n) (hk : xs ≠ [] → ∀ a, s.a = some a → a.block < w.heap.size → w'.heap[a.block]? = w.heap[a.block]?) : SlOf c w' s xs := by
  by_cases hne : xs = []
  · subst hne
    exact ⟨h.len, h.cap, fun k v hv => by simp at hv⟩
  · refine ⟨h.len, h.cap, fun k v hv => ?_⟩
    obtain ⟨a, ha, hcell⟩ := h.at_ k v hv
    have hlt := h.block_lt hc hn hne ha
    exact ⟨a, ha, (World.cell?_of_block (by rw [add_block]; exact hk hne a ha hlt)).trans hcell⟩

/-- The tree stays while its blocks do. -/
theorem NdAt.keep {S : Nat → Prop} {w w' : World} {c : NdC} {n : Nd} (h : NdAt S w c n) (hk : ∀ k, S k → k < w.heap.size → w'.heap[k]? = w.heap[k]?) : NdAt S w' c n := by
  induction h with
  | mk c names kids cs hn hks hl hS1 hS2 hb hq h ih =>
    refine .mk c names kids cs (slKeep hn cS_len (by decide) fun hne a ha hlt => hk _ (hS1 hne a ha) hlt) (slKeep hks cN_len (by decide) fun hne a ha hlt => hk _ (hS2 (fun e => hne (List.eq_nil_of_length_eq_zero (by rw [hl, e]; rfl))) a ha) hlt) hl hS1 hS2 hb hq ih

theorem NdAt.ext {S : Nat → Prop} {w w' : World} {c : NdC} {n : Nd} (h : NdAt S w c n) (he : Ext w w') : NdAt S w' c n := h.keep fun k _ hlt => he.block k hlt

theorem NdAt.grown {S : Nat → Prop} {w w' : World} {c : NdC} {n : Nd} {row : Option Nat} (h : NdAt S w c n) (hg : w.grownBy w' row) (hn : ∀ k, row = some k → ¬ S k) : NdAt S w' c n :=
  h.keep fun k hs hlt => hg.block k hlt fun e => hn k e.symm hs

theorem NdAt.chg {S : Nat → Prop} {w w' : World} {c : NdC} {n : Nd} {b : Nat} (h : NdAt S w c n) (hg : Chg b w w') (hn : ¬ S b) : NdAt S w' c n :=
  h.grown hg fun k hk => by rw [← Option.some.inj hk]; exact hn

theorem NdAt.mono {S S' : Nat → Prop} {w : World} {c : NdC} {n : Nd} (h : NdAt S w c n) (hs : ∀ k, S k → k < w.heap.size → S' k) : NdAt S' w c n := by
  induction h with
  | mk c names kids cs hn hks hl hS1 hS2 hb hq h ih =>
    exact .mk c names kids cs hn hks hl (fun hne a ha => hs _ (hS1 hne a ha) (hn.block_lt cS_len (by decide) hne ha))
      (fun hne a ha => hs _ (hS2 hne a ha) (hks.block_lt cN_len (by decide) (fun e => hne (List.eq_nil_of_length_eq_zero (by rw [← hl, e]; rfl))) ha)) hb hq ih

theorem nd_at {w : World} {s : Sl} {xs : List NdC} {i : Nat} {x : NdC} (h : NdSl w s xs) (hx : xs[i]? = some x) : ∃ a, s.a = some a ∧
    w.cell? ((a.add ((i : Int).toNat * 5)).add 0) = some (.int .i64 x.k) ∧ w.cell? ((a.add ((i : Int).toNat * 5)).add 1) = some (.int .i64 x.m) ∧ w.cell? ((a.add ((i : Int).toNat * 5)).add 2) = some (.string x.t) ∧
    w.cell? ((a.add ((i : Int).toNat * 5)).add 3) = some (.slice x.sn.a x.sn.len x.sn.cap) ∧ w.cell? ((a.add ((i : Int).toNat * 5)).add 4) = some (.slice x.sk.a x.sk.len x.sk.cap) := by
  obtain ⟨a, ha, h0⟩ := h.cell cN_len hx (j := 0) rfl
  obtain ⟨b, hb, h1⟩ := h.cell cN_len hx (j := 1) rfl
  obtain ⟨c, hc, h2⟩ := h.cell cN_len hx (j := 2) rfl
  obtain ⟨d, hd, h3⟩ := h.cell cN_len hx (j := 3) rfl
  obtain ⟨e, he, h4⟩ := h.cell cN_len hx (j := 4) rfl
  rw [ha] at hb hc hd he
  obtain rfl := Option.some.inj hb
  obtain rfl := Option.some.inj hc
  obtain rfl := Option.some.inj hd
  obtain rfl := Option.some.inj he
  exact ⟨a, ha, h0, h1, h2, h3, h4⟩

/-- The kids of a tree, one by one. -/
theorem NdAt.kid {S : Nat → Prop} {w : World} {c : NdC} {n : Nd} (h : NdAt S w c n) {i : Nat} {x : Nd} (hx : n.ks[i]? = some x) : c.sk.len = n.ks.length ∧ ∃ (d : NdC) (a : Addr), c.sk.a = some a ∧ NdAt S w d x ∧
    w.cell? ((a.add ((i : Int).toNat * 5)).add 0) = some (.int .i64 d.k) ∧ w.cell? ((a.add ((i : Int).toNat * 5)).add 1) = some (.int .i64 d.m) ∧ w.cell? ((a.add ((i : Int).toNat * 5)).add 2) = some (.string d.t) ∧
    w.cell? ((a.add ((i : Int).toNat * 5)).add 3) = some (.slice d.sn.a d.sn.len d.sn.cap) ∧ w.cell? ((a.add ((i : Int).toNat * 5)).add 4) = some (.slice d.sk.a d.sk.len d.sk.cap) := by
  obtain ⟨_, _, _, _, _, _, _, _, cs, hcs, hl, hall⟩ := h.out
  have hi := (List.getElem?_eq_some_iff.1 hx).1
  obtain ⟨d, hd⟩ : ∃ d, cs[i]? = some d := ⟨cs[i]'(by omega), List.getElem?_eq_getElem (by omega)⟩
  obtain ⟨a, ha, cells⟩ := nd_at hcs hd
  exact ⟨by rw [hcs.len, hl], d, a, ha, hall i d x hd hx, cells⟩

theorem NdAt.klen {S : Nat → Prop} {w : World} {c : NdC} {n : Nd} (h : NdAt S w c n) : c.sk.len = n.ks.length ∧ c.sn.len = n.ns.length ∧ c.sk.len ≤ c.sk.cap ∧ c.sn.len ≤ c.sn.cap := by
  obtain ⟨_, _, _, hn, _, _, _, _, cs, hcs, hl, hall⟩ := h.out
  exact ⟨by rw [hcs.len, hl], hn.len, hcs.cap, hn.cap⟩

/-! ### How many nodes, how deep -/

mutual
def cnt : Nd → Nat
  | .mk _ _ _ _ ks => 1 + cntL ks
def cntL : List Nd → Nat
  | [] => 0
  | n :: r => cnt n + cntL r
end

theorem cnt_eq (n : Nd) : cnt n = 1 + cntL n.ks := by cases n; simp [cnt, Nd.ks]
theorem cntL_append : ∀ (a b : List Nd), cntL (a ++ b) = cntL a + cntL b
  | [], b => by simp [cntL]
  | x :: r, b => by simp only [List.cons_append, cntL, cntL_append r b]; omega
theorem cnt_pos (n : Nd) : 0 < cnt n := by rw [cnt_eq]; omega
theorem cnt_kid {n x : Nd} (h : x ∈ n.ks) : cnt x < cnt n := by
  rw [cnt_eq n]
  obtain ⟨a, b, hab⟩ := List.append_of_mem h
  rw [hab, cntL_append]
  simp only [cntL]
  omega

mutual
def dpt : Nd → Nat
  | .mk _ _ _ _ ks => dptL ks + 1
def dptL : List Nd → Nat
  | [] => 0
  | n :: r => max (dpt n) (dptL r)
end

theorem dpt_eq (n : Nd) : dpt n = dptL n.ks + 1 := by cases n; simp [dpt, Nd.ks]
theorem dptL_snoc : ∀ (a : List Nd) (x : Nd), dptL (a ++ [x]) = max (dptL a) (dpt x)
  | [], x => by simp [dptL]
  | y :: r, x => by simp only [List.cons_append, dptL, dptL_snoc r x]; omega
theorem dpt_le_cnt : ∀ (N : Nat) (n : Nd), cnt n ≤ N → dpt n ≤ cnt n := by
  intro N
  induction N with
  | zero => intro n h; have := cnt_pos n; exact absurd h (by omega)
  | succ N ih =>
    intro n h
    rw [dpt_eq, cnt_eq]
    have : ∀ l : List Nd, (∀ x ∈ l, cnt x ≤ N) → dptL l ≤ cntL l := by
      intro l
      induction l with
      | nil => intro _; simp [dptL, cntL]
      | cons x r ihr =>
        intro hx
        have h1 := ih x (hx x (by simp))
        have h2 := ihr fun y hy => hx y (by simp [hy])
        simp only [dptL, cntL]
        omega
    have := this n.ks fun x hx => by have := cnt_kid hx; omega
    omega

/-! ### Arguments read -/

section
variable {H : Type} {enc : TypeId × Value → H} {w : World} {base : Nat} {spare : Nat → Bool} {held : Bool}

theorem trees_of {R : NdC → Nd → Prop} : ∀ (cs : List NdC), (∀ d ∈ cs, ∃ n, R d n) → ∃ ks : List Nd, ks.length = cs.length ∧ ∀ (i : Nat) d n, cs[i]? = some d → ks[i]? = some n → R d n
  | [], _ => ⟨[], rfl, fun i d n h => by simp at h⟩
  | c :: r, h => by
    obtain ⟨n, hn⟩ := h c (by simp)
    obtain ⟨ks, hl, hk⟩ := trees_of r fun d hd => h d (by simp [hd])
    refine ⟨n :: ks, by simp [hl], fun i d m hi hm => ?_⟩
    cases i with
    | zero => simp at hi hm; subst hi hm; exact hn
    | succ i => exact hk i d m (by simpa using hi) (by simpa using hm)

theorem read_node_aux : ∀ (fuel : Nat) (cs : List Value) (x : DataW H × List MemPlace), cs.length = 5 → DataW.trod enc Try.prog w base spare held fuel 46 cs = some x → ∃ (c : NdC) (n : Nd), cs = cN c ∧ NdAt (fun _ => True) w c n := by
  intro fuel
  induction fuel using Nat.strongRecOn with
  | _ fuel ih =>
    intro cs x hl hx
    obtain ⟨ys, n, hfuel, _, _, hys, hfd⟩ := DataW.trod_struct Try.underlying46 hx
    have g0 : DataW.trod enc Try.prog w base spare held n 3 ((cs.drop 0).take (Program.cellsOf Try.prog 3)) = ys[0]? := hfd 0 _ rfl
    have g1 : DataW.trod enc Try.prog w base spare held n 3 ((cs.drop 1).take (Program.cellsOf Try.prog 3)) = ys[1]? := hfd 1 _ rfl
    have g2 : DataW.trod enc Try.prog w base spare held n 9 ((cs.drop 2).take (Program.cellsOf Try.prog 9)) = ys[2]? := hfd 2 _ rfl
    have g3 : DataW.trod enc Try.prog w base spare held n 22 ((cs.drop 3).take (Program.cellsOf Try.prog 22)) = ys[3]? := hfd 3 _ rfl
    have g4 : DataW.trod enc Try.prog w base spare held n 44 ((cs.drop 4).take (Program.cellsOf Try.prog 44)) = ys[4]? := hfd 4 _ rfl
    have k1 : Program.cellsOf Try.prog 3 = 1 := by kernel_rfl
    have k2 : Program.cellsOf Try.prog 9 = 1 := by kernel_rfl
    have k3 : Program.cellsOf Try.prog 22 = 1 := by kernel_rfl
    have k4 : Program.cellsOf Try.prog 44 = 1 := by kernel_rfl
    rw [k1] at g0 g1
    rw [k2] at g2
    rw [k3] at g3
    rw [k4] at g4
    match cs, hl with
    | [u0, u1, u2, u3, u4], _ =>
      have l0 : ∃ y0, ys[0]? = some y0 := ⟨ys[0]'(by rw [hys]; decide), List.getElem?_eq_getElem _⟩
      have l1 : ∃ y1, ys[1]? = some y1 := ⟨ys[1]'(by rw [hys]; decide), List.getElem?_eq_getElem _⟩
      have l2 : ∃ y2, ys[2]? = some y2 := ⟨ys[2]'(by rw [hys]; decide), List.getElem?_eq_getElem _⟩
      have l3 : ∃ y3, ys[3]? = some y3 := ⟨ys[3]'(by rw [hys]; decide), List.getElem?_eq_getElem _⟩
      have l4 : ∃ y4, ys[4]? = some y4 := ⟨ys[4]'(by rw [hys]; decide), List.getElem?_eq_getElem _⟩
      obtain ⟨y0, e0⟩ := l0
      obtain ⟨y1, e1⟩ := l1
      obtain ⟨y2, e2⟩ := l2
      obtain ⟨y3, e3⟩ := l3
      obtain ⟨y4, e4⟩ := l4
      rw [e0] at g0
      rw [e1] at g1
      rw [e2] at g2
      rw [e3] at g3
      rw [e4] at g4
      obtain ⟨t0, f0, _, _⟩ := DataW.trod_int Try.underlying3 g0
      obtain ⟨t1, f1, _, _⟩ := DataW.trod_int Try.underlying3 g1
      obtain ⟨t2, f2, _, hw2⟩ := DataW.trod_string Try.underlying9 g2
      obtain ⟨s3, names, f3, h3, m3, w3⟩ := read_slice (c := cS) (Q := fun x => x.size ≤ maxLen) (k := 1) Try.underlying22 (by kernel_rfl) g3 (fun m cs y _ _ hy => by
        obtain ⟨n, rfl, _, hw⟩ := DataW.trod_string Try.underlying9 hy
        exact ⟨n, rfl, hw⟩)
      have hq3 : s3.a = none → s3.cap = 0 := fun hn0 => by
        rcases DataW.trod_slice Try.underlying22 g3 with ⟨e, _⟩ | ⟨a, len, cap, _, _, _, _, e, _⟩
        · rw [f3] at e; simp at e; exact e.2.2
        · rw [f3] at e; simp [hn0] at e
      obtain ⟨s4, kc, f4, h4, m4, w4⟩ := read_slice (c := cN) (Q := fun d => ∃ nd, NdAt (fun _ => True) w d nd) (k := 5) Try.underlying44 (by kernel_rfl) g4 (fun m cs y hm hl hy => by
        obtain ⟨c, nd, hc, hnd⟩ := ih m (by omega) cs y hl hy
        exact ⟨c, hc, nd, hnd⟩)
      obtain ⟨kids, hkl, hk⟩ := trees_of kc w4
      simp at f0 f1 f2 f3 f4
      have b3 := h3.cap
      have b3' := h3.len
      have b4 := h4.cap
      have b4' := h4.len
      exact ⟨⟨t0, t1, t2, s3, s4⟩, _, by simp [cN, f0, f1, f2, f3, f4], .mk ⟨t0, t1, t2, s3, s4⟩ names kids kc h3 h4 hkl.symm (fun _ _ _ => trivial) (fun _ _ _ => trivial) ⟨hw2, by omega, by omega, w3⟩ hq3 hk⟩

theorem read_node {v : Value} {cs : Array Value} {d : DataW H} {ps : List MemPlace} (hv : v = .agg cs ∧ cs.size = Program.cellsOf Try.prog 46) (h : DataW.Trod enc Try.prog w base spare held 46 v d ps) :
    ∃ (c : NdC) (n : Nd), v = c.v ∧ NdAt (fun _ => True) w c n := by
  obtain ⟨fuel, hf⟩ := h
  obtain ⟨rfl, hsz⟩ := hv
  have k5 : Program.cellsOf Try.prog 46 = 5 := by kernel_rfl
  rw [k5] at hsz
  have hc : (Value.agg cs).cells.toList = cs.toList := rfl
  rw [hc] at hf
  obtain ⟨c, n, h1, h2⟩ := read_node_aux fuel cs.toList _ (by simpa using hsz) hf
  refine ⟨c, n, ?_, h2⟩
  have : cs = (cN c).toArray := by rw [← h1]
  rw [this]; rfl
end
end Go.Proofs
