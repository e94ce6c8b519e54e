/-
  What functions of this seat compute, part 'Shape': contracts over their readable predicates. Conditions: each theorem's own hypotheses.
-/
import Derived.Test.YtcgfhchmpoaiiaaBase
import Derived.Test.YtcgfhchmpoaiiaaOpen
import Derived.Test.YtcgfhchmpoaiiaaGen
import Derived.Test.YtcgfhchmpoaiiaaCSmall
import Derived.Test.YtcgfhchmpoaiiaaCOrder
import Derived.Test.YtcgfhchmpoaiiaaCNode
import Derived.Test.YtcgfhchmpoaiiaaCNodeText
import Derived.Test.YtcgfhchmpoaiiaaCNodeValid
import Derived.Test.YtcgfhchmpoaiiaaCNodeSpec
import Derived.Test.YtcgfhchmpoaiiaaCHelpS
import Derived.Test.YtcgfhchmpoaiiaaCNodeHelp
import Derived.Test.YtcgfhchmpoaiiaaCNodeHelp2
import Derived.Test.YtcgfhchmpoaiiaaCNodeTop
import Derived.Test.YtcgfhchmpoaiiaaCCells
namespace Go.Proofs
open Go Go.Vc Go.RowKit
set_option maxRecDepth 100000
set_option linter.unusedVariables false
--! C:Small C:Order C:Node C:NodeText C:NodeValid C:NodeSpec C:HelpS C:NodeHelp C:NodeHelp2 C:NodeTop C:Cells
/-! ## Shapes: trees in memory -/

inductive Sh where
  | mk (k : Int) (ns : List ByteArray) (bs : List Bool) (ks : List Sh)

def Sh.k : Sh → Int | .mk k _ _ _ => k
def Sh.ns : Sh → List ByteArray | .mk _ ns _ _ => ns
def Sh.bs : Sh → List Bool | .mk _ _ bs _ => bs
def Sh.ks : Sh → List Sh | .mk _ _ _ ks => ks

/-- The cells of a shape. -/
structure ShC where
  k : Int
  sn : Sl
  sb : Sl
  sk : Sl

def cSh (c : ShC) : List Value := [.int .i64 c.k, .slice c.sn.a c.sn.len c.sn.cap, .slice c.sb.a c.sb.len c.sb.cap, .slice c.sk.a c.sk.len c.sk.cap]
theorem cSh_len (x : ShC) : (cSh x).length = 4 := rfl
abbrev ShC.v (c : ShC) : Value := .agg #[.int .i64 c.k, .slice c.sn.a c.sn.len c.sn.cap, .slice c.sb.a c.sb.len c.sb.cap, .slice c.sk.a c.sk.len c.sk.cap]
abbrev ShSl := SlOf cSh

/-- The cells read as a shape, whose memory lies in blocks of 'S'. -/
inductive ShAt (S : Nat → Prop) (w : World) : ShC → Sh → Prop
  | mk (c : ShC) (names : List ByteArray) (needs : List Bool) (kids : List Sh) (cs : List ShC) (hn : Strs w c.sn names) (hb : Bools w c.sb needs) (hk : ShSl w c.sk cs) (hl : cs.length = kids.length)
      (hS1 : names ≠ [] → ∀ a, c.sn.a = some a → S a.block) (hS2 : needs ≠ [] → ∀ a, c.sb.a = some a → S a.block) (hS3 : kids ≠ [] → ∀ a, c.sk.a = some a → S a.block)
      (hm : names.length ≤ maxLen ∧ needs.length ≤ maxLen ∧ kids.length ≤ maxLen ∧ ∀ x ∈ names, x.size ≤ maxLen)
      (h : ∀ (i : Nat) d n, cs[i]? = some d → kids[i]? = some n → ShAt S w d n) : ShAt S w c (.mk c.k names needs kids)

theorem ShAt.out {S : Nat → Prop} {w : World} {c : ShC} {n : Sh} (h : ShAt S w c n) : c.k = n.k ∧ Strs w c.sn n.ns ∧ Bools w c.sb n.bs ∧ n.ns.length ≤ maxLen ∧ n.bs.length ≤ maxLen ∧ n.ks.length ≤ maxLen ∧ (∀ x ∈ n.ns, x.size ≤ maxLen) ∧
    ∃ cs, ShSl w c.sk cs ∧ cs.length = n.ks.length ∧ ∀ (i : Nat) d x, cs[i]? = some d → n.ks[i]? = some x → ShAt S w d x := by
  cases h with
  | mk _ names needs kids cs hn hb hk hl hS1 hS2 hS3 hm h => exact ⟨rfl, hn, hb, hm.1, hm.2.1, hm.2.2.1, hm.2.2.2, cs, hk, hl, h⟩

theorem ShAt.eta {S : Nat → Prop} {w : World} {c : ShC} {n : Sh} (h : ShAt S w c n) : n = .mk c.k n.ns n.bs n.ks := by
  cases h; rfl

theorem ShAt.keep {S : Nat → Prop} {w w' : World} {c : ShC} {n : Sh} (h : ShAt S w c n) (hk : ∀ k, S k → k < w.heap.size → w'.heap[k]? = w.heap[k]?) : ShAt S w' c n := by
  induction h with
  | mk c names needs kids cs hn hb hks hl hS1 hS2 hS3 hm h ih =>
    refine .mk c names needs kids cs (slKeep hn cS_len (by decide) fun hne a ha hlt => hk _ (hS1 hne a ha) hlt) (slKeep hb cB_len (by decide) fun hne a ha hlt => hk _ (hS2 hne a ha) hlt)
      (slKeep hks cSh_len (by decide) fun hne a ha hlt => hk _ (hS3 (fun e => hne (List.eq_nil_of_length_eq_zero (by rw [hl, e]; rfl))) a ha) hlt) hl hS1 hS2 hS3 hm ih

theorem ShAt.ext {S : Nat → Prop} {w w' : World} {c : ShC} {n : Sh} (h : ShAt S w c n) (he : Ext w w') : ShAt S w' c n := h.keep fun k _ hlt => he.block k hlt

theorem ShAt.grown {S : Nat → Prop} {w w' : World} {c : ShC} {n : Sh} {row : Option Nat} (h : ShAt S w c n) (hg : w.grownBy w' row) (hn : ∀ k, row = some k → ¬ S k) : ShAt S w' c n :=
  h.keep fun k hs hlt => hg.block k hlt fun e => hn k e.symm hs

theorem ShAt.chg {S : Nat → Prop} {w w' : World} {c : ShC} {n : Sh} {b : Nat} (h : ShAt S w c n) (hg : Chg b w w') (hn : ¬ S b) : ShAt S w' c n :=
  h.grown hg fun k hk => by rw [← Option.some.inj hk]; exact hn

theorem ShAt.mono {S S' : Nat → Prop} {w : World} {c : ShC} {n : Sh} (h : ShAt S w c n) (hs : ∀ k, S k → k < w.heap.size → S' k) : ShAt S' w c n := by
  induction h with
  | mk c names needs kids cs hn hb hks hl hS1 hS2 hS3 hm h ih =>
    exact .mk c names needs kids cs hn hb hks hl (fun hne a ha => hs _ (hS1 hne a ha) (hn.block_lt cS_len (by decide) hne ha)) (fun hne a ha => hs _ (hS2 hne a ha) (hb.block_lt cB_len (by decide) hne ha))
      (fun hne a ha => hs _ (hS3 hne a ha) (hks.block_lt cSh_len (by decide) (fun e => hne (List.eq_nil_of_length_eq_zero (by rw [← hl, e]; rfl))) ha)) hm ih

theorem sh_at {w : World} {s : Sl} {xs : List ShC} {i : Nat} {x : ShC} (h : ShSl w s xs) (hx : xs[i]? = some x) : ∃ a, s.a = some a ∧
    w.cell? (a.add ((i : Int).toNat * 4)) = some (.int .i64 x.k) ∧ w.cell? ((a.add ((i : Int).toNat * 4)).add 1) = some (.slice x.sn.a x.sn.len x.sn.cap) ∧
    w.cell? ((a.add ((i : Int).toNat * 4)).add 2) = some (.slice x.sb.a x.sb.len x.sb.cap) ∧ w.cell? ((a.add ((i : Int).toNat * 4)).add 3) = some (.slice x.sk.a x.sk.len x.sk.cap) := by
  obtain ⟨a, ha, h0⟩ := h.cell cSh_len hx (j := 0) rfl
  obtain ⟨b, hb, h1⟩ := h.cell cSh_len hx (j := 1) rfl
  obtain ⟨c, hc, h2⟩ := h.cell cSh_len hx (j := 2) rfl
  obtain ⟨d, hd, h3⟩ := h.cell cSh_len hx (j := 3) rfl
  rw [ha] at hb hc hd
  obtain rfl := Option.some.inj hb
  obtain rfl := Option.some.inj hc
  obtain rfl := Option.some.inj hd
  rw [add_nought] at h0
  exact ⟨a, ha, h0, h1, h2, h3⟩

theorem ShAt.klen {S : Nat → Prop} {w : World} {c : ShC} {n : Sh} (h : ShAt S w c n) : c.sk.len = n.ks.length ∧ c.sn.len = n.ns.length ∧ c.sb.len = n.bs.length ∧ c.sk.len ≤ c.sk.cap := by
  obtain ⟨_, hn, hb, _, _, _, _, cs, hcs, hl, hall⟩ := h.out
  exact ⟨by rw [hcs.len, hl], hn.len, hb.len, hcs.cap⟩

/-- The kids of a shape, one by one. -/
theorem ShAt.kid {S : Nat → Prop} {w : World} {c : ShC} {n : Sh} (h : ShAt S w c n) {i : Nat} {x : Sh} (hx : n.ks[i]? = some x) : ∃ (d : ShC) (a : Addr), c.sk.a = some a ∧ ShAt S w d x ∧
    w.cell? (a.add ((i : Int).toNat * 4)) = some (.int .i64 d.k) ∧ w.cell? ((a.add ((i : Int).toNat * 4)).add 1) = some (.slice d.sn.a d.sn.len d.sn.cap) ∧
    w.cell? ((a.add ((i : Int).toNat * 4)).add 2) = some (.slice d.sb.a d.sb.len d.sb.cap) ∧ w.cell? ((a.add ((i : Int).toNat * 4)).add 3) = some (.slice d.sk.a d.sk.len d.sk.cap) := by
  obtain ⟨_, _, _, _, _, _, _, cs, hcs, hl, hall⟩ := h.out
  have hi := (List.getElem?_eq_some_iff.1 hx).1
  obtain ⟨d, hd⟩ : ∃ d, cs[i]? = some d := ⟨cs[i]'(by omega), List.getElem?_eq_getElem (by omega)⟩
  obtain ⟨a, ha, cells⟩ := sh_at hcs hd
  exact ⟨d, a, ha, hall i d x hd hx, cells⟩

theorem Row.sh {w : World} {b : Nat} {c : ShC} {T : TypeId} (r : Row w b (cSh c) T) :
    w.cell? (⟨b, 0, none⟩ : Addr) = some (.int .i64 c.k) ∧ w.cell? ((⟨b, 0, none⟩ : Addr).add 1) = some (.slice c.sn.a c.sn.len c.sn.cap) ∧
    w.cell? ((⟨b, 0, none⟩ : Addr).add 2) = some (.slice c.sb.a c.sb.len c.sb.cap) ∧ w.cell? ((⟨b, 0, none⟩ : Addr).add 3) = some (.slice c.sk.a c.sk.len c.sk.cap) := by
  have c0 := r.cell (k := 0) (v := .int .i64 c.k) rfl
  rw [add_nought] at c0
  exact ⟨c0, r.cell rfl, r.cell rfl, r.cell rfl⟩

theorem shBox {w : World} {c : ShC} {T : TypeId} {K : World → Prop} (hk : ∀ w1, Ext w w1 → Row w1 w.heap.size (cSh c) T → K w1) :
    letW (w.alloc (.cells #[.int .i64 c.k, .slice c.sn.a c.sn.len c.sn.cap, .slice c.sb.a c.sb.len c.sb.cap, .slice c.sk.a c.sk.len c.sk.cap] T)) K :=
  letW_i fun w1 hw1 => hk w1 (by rw [hw1]; exact (Ext.refl w).alloc _) (by rw [hw1]; exact Row.new w (cSh c) T)

/-! ### Sizes -/

mutual
def cnS : Sh → Nat
  | .mk _ _ _ ks => 1 + cnSL ks
def cnSL : List Sh → Nat
  | [] => 0
  | n :: r => cnS n + cnSL r
end
theorem cnS_eq (n : Sh) : cnS n = 1 + cnSL n.ks := by cases n; simp [cnS, Sh.ks]
theorem cnSL_append : ∀ (a b : List Sh), cnSL (a ++ b) = cnSL a + cnSL b
  | [], b => by simp [cnSL]
  | x :: r, b => by simp only [List.cons_append, cnSL, cnSL_append r b]; omega
theorem cnS_pos (n : Sh) : 0 < cnS n := by rw [cnS_eq]; omega
theorem cnS_kid {n x : Sh} (h : x ∈ n.ks) : cnS x < cnS n := by
  rw [cnS_eq n]
  obtain ⟨a, b, hab⟩ := List.append_of_mem h
  rw [hab, cnSL_append]
  simp only [cnSL]
  omega

mutual
def mzS : Sh → Nat
  | .mk _ ns bs ks => (ns.length + (sizeS ns).toNat) + bs.length + (ks.length + mzSL ks)
def mzSL : List Sh → Nat
  | [] => 0
  | n :: r => mzS n + mzSL r
end
theorem mzS_eq (n : Sh) : mzS n = (n.ns.length + (sizeS n.ns).toNat) + n.bs.length + (n.ks.length + mzSL n.ks) := by cases n; simp only [mzS]; rfl
theorem mzSL_append : ∀ (a b : List Sh), mzSL (a ++ b) = mzSL a + mzSL b
  | [], b => by simp [mzSL]
  | x :: r, b => by simp only [List.cons_append, mzSL, mzSL_append r b]; omega
theorem mzS_kid {n x : Sh} {pre post : List Sh} (h : n.ks = pre ++ x :: post) : mzS x ≤ mzS n := by
  rw [mzS_eq n, h, mzSL_append]; simp only [mzSL]; omega

/-! ### Arguments read -/

section
variable {H : Type} {enc : TypeId × Value → H} {w : World} {base : Nat} {spare : Nat → Bool} {held : Bool}

theorem trees_ofS {R : ShC → Sh → Prop} : ∀ (cs : List ShC), (∀ d ∈ cs, ∃ n, R d n) → ∃ ks : List Sh, ks.length = cs.length ∧ ∀ (i : Nat) d n, cs[i]? = some d → ks[i]? = some n → R d n
  | [], _ => ⟨[], rfl, fun i d n h => by simp at h⟩
  | c :: r, h => by
    obtain ⟨n, hn⟩ := h c (by simp)
    obtain ⟨ks, hl, hk⟩ := trees_ofS r fun d hd => h d (by simp [hd])
    refine ⟨n :: ks, by simp [hl], fun i d m hi hm => ?_⟩
    cases i with
    | zero => simp at hi hm; subst hi hm; exact hn
    | succ i => exact hk i d m (by simpa using hi) (by simpa using hm)

theorem read_shape_aux : ∀ (fuel : Nat) (cs : List Value) (x : DataW H × List MemPlace), cs.length = 4 → DataW.trod enc Try.prog w base spare held fuel 26 cs = some x → ∃ (c : ShC) (n : Sh), cs = cSh c ∧ ShAt (fun _ => True) w c n := by
  intro fuel
  induction fuel using Nat.strongRecOn with
  | _ fuel ih =>
    intro cs x hl hx
    obtain ⟨ys, n, hfuel, _, _, hys, hfd⟩ := DataW.trod_struct Try.underlying26 hx
    have g0 : DataW.trod enc Try.prog w base spare held n 3 ((cs.drop 0).take (Program.cellsOf Try.prog 3)) = ys[0]? := hfd 0 _ rfl
    have g1 : DataW.trod enc Try.prog w base spare held n 22 ((cs.drop 1).take (Program.cellsOf Try.prog 22)) = ys[1]? := hfd 1 _ rfl
    have g2 : DataW.trod enc Try.prog w base spare held n 23 ((cs.drop 2).take (Program.cellsOf Try.prog 23)) = ys[2]? := hfd 2 _ rfl
    have g3 : DataW.trod enc Try.prog w base spare held n 24 ((cs.drop 3).take (Program.cellsOf Try.prog 24)) = ys[3]? := hfd 3 _ rfl
    have k0 : Program.cellsOf Try.prog 3 = 1 := by kernel_rfl
    have k1 : Program.cellsOf Try.prog 22 = 1 := by kernel_rfl
    have k2 : Program.cellsOf Try.prog 23 = 1 := by kernel_rfl
    have k3 : Program.cellsOf Try.prog 24 = 1 := by kernel_rfl
    rw [k0] at g0
    rw [k1] at g1
    rw [k2] at g2
    rw [k3] at g3
    match cs, hl with
    | [u0, u1, u2, u3], _ =>
      have l0 : ∃ y0, ys[0]? = some y0 := ⟨ys[0]'(by rw [hys]; decide), List.getElem?_eq_getElem _⟩
      have l1 : ∃ y1, ys[1]? = some y1 := ⟨ys[1]'(by rw [hys]; decide), List.getElem?_eq_getElem _⟩
      have l2 : ∃ y2, ys[2]? = some y2 := ⟨ys[2]'(by rw [hys]; decide), List.getElem?_eq_getElem _⟩
      have l3 : ∃ y3, ys[3]? = some y3 := ⟨ys[3]'(by rw [hys]; decide), List.getElem?_eq_getElem _⟩
      obtain ⟨y0, e0⟩ := l0
      obtain ⟨y1, e1⟩ := l1
      obtain ⟨y2, e2⟩ := l2
      obtain ⟨y3, e3⟩ := l3
      rw [e0] at g0
      rw [e1] at g1
      rw [e2] at g2
      rw [e3] at g3
      obtain ⟨t0, f0, _, _⟩ := DataW.trod_int Try.underlying3 g0
      obtain ⟨s1, names, f1, h1, m1, w1⟩ := read_slice (c := cS) (Q := fun x => x.size ≤ maxLen) (k := 1) Try.underlying22 (by kernel_rfl) g1 (fun m cs y _ _ hy => by
        obtain ⟨n, rfl, _, hw⟩ := DataW.trod_string Try.underlying9 hy
        exact ⟨n, rfl, hw⟩)
      obtain ⟨s2, needs, f2, h2, m2, w2⟩ := read_slice (c := cB) (Q := fun x => True) (k := 1) Try.underlying23 (by kernel_rfl) g2 (fun m cs y _ _ hy => by
        obtain ⟨n, rfl, _⟩ := DataW.trod_bool Try.underlying4 hy
        exact ⟨n, rfl, trivial⟩)
      obtain ⟨s3, kc, f3, h3, m3, w3⟩ := read_slice (c := cSh) (Q := fun d => ∃ nd, ShAt (fun _ => True) w d nd) (k := 4) Try.underlying24 (by kernel_rfl) g3 (fun m cs y hm hl hy => by
        obtain ⟨c, nd, hc, hnd⟩ := ih m (by omega) cs y hl hy
        exact ⟨c, hc, nd, hnd⟩)
      obtain ⟨kids, hkl, hk⟩ := trees_ofS kc w3
      simp at f0 f1 f2 f3
      have b1 := h1.cap
      have b1' := h1.len
      have b2 := h2.cap
      have b2' := h2.len
      have b3 := h3.cap
      have b3' := h3.len
      exact ⟨⟨t0, s1, s2, s3⟩, _, by simp [cSh, f0, f1, f2, f3], .mk ⟨t0, s1, s2, s3⟩ names needs kids kc h1 h2 h3 hkl.symm (fun _ _ _ => trivial) (fun _ _ _ => trivial) (fun _ _ _ => trivial) ⟨by omega, by omega, by omega, w1⟩ hk⟩

theorem read_shape {v : Value} {cs : Array Value} {d : DataW H} {ps : List MemPlace} (hv : v = .agg cs ∧ cs.size = Program.cellsOf Try.prog 26) (h : DataW.Trod enc Try.prog w base spare held 26 v d ps) :
    ∃ (c : ShC) (n : Sh), v = c.v ∧ ShAt (fun _ => True) w c n := by
  obtain ⟨fuel, hf⟩ := h
  obtain ⟨rfl, hsz⟩ := hv
  have k5 : Program.cellsOf Try.prog 26 = 4 := by kernel_rfl
  rw [k5] at hsz
  have hc : (Value.agg cs).cells.toList = cs.toList := rfl
  rw [hc] at hf
  obtain ⟨c, n, h1, h2⟩ := read_shape_aux fuel cs.toList _ (by simpa using hsz) hf
  refine ⟨c, n, ?_, h2⟩
  have : cs = (cSh c).toArray := by rw [← h1]
  rw [this]; rfl
end

/-! ### The helpers -/

theorem c_laws_szBoolS {s : Sl} {xs : List Bool} {w : World} (left : Int) (h : Bools w s xs) (h0 : 0 ≤ left) (h1 : left ≤ 1048576) (hl : xs.length ≤ maxLen) :
    CallR Try.prog 29 [.slice s.a s.len s.cap, .int .i64 left] w (fun v w' => (v = .int .i64 (-1) ∨ (v = .int .i64 (left - xs.length) ∧ 0 ≤ left - xs.length)) ∧ Ext w w') := by
  refine fn_laws_szBoolS _ _ _ _ ?_
  unfold g_laws_szBoolS
  unfold maxLen at hl
  have hl0 := h.len
  exact ⟨inR_i64 (by omega) (by omega), br_d (fun h2 => ⟨.inl rfl, Ext.refl _⟩) (fun h2 => ⟨.inr ⟨by rw [hl0], by omega⟩, Ext.refl _⟩)⟩

theorem c_laws_toBoolS {s : Sl} {xs : List Bool} {w : World} (h : Bools w s xs) (hl : xs.length ≤ 1048576) :
    CallR Try.prog 33 [.slice s.a s.len s.cap] w (fun v w' => v = .slice (some ⟨w.heap.size, 0, none⟩) xs.length xs.length ∧ Row w' w.heap.size (xs.flatMap cB) 4 ∧ Ext w w') := by
  refine fn_laws_toBoolS _ _ _ ?_
  unfold g_laws_toBoolS
  have hl0 := h.len
  refine ⟨⟨by omega, by omega, by omega, by omega⟩, letW_i fun w1 hw1 => ?_⟩
  have e01 : Ext w w1 := by rw [hw1]; exact (Ext.refl w).alloc _
  have r1 : Row w1 w.heap.size (List.replicate xs.length (.bool false)) 4 := by
    rw [hw1, madeCells_eq, hl0, Int.toNat_natCast, Nat.mul_one]
    exact Row.new w _ _
  refine sLoop_list xs (fun pre _ w' => Ext w w' ∧ Row w' w.heap.size (pre.flatMap cB ++ List.replicate (xs.length - pre.length) (.bool false)) 4) ⟨e01, by simpa using r1⟩ ?_ ?_
  · intro K pre post c t w2 hx ⟨he, hr⟩ hK _
    have hm := mid_len hx
    obtain ⟨a, ha1, hc⟩ := (h.ext he).bm hx
    refine br_dt (by omega) (onSome_i ha1 ⟨⟨by omega, by omega⟩, _, hc, ⟨by omega, by omega⟩, ?_⟩)
    rw [show xs.length - pre.length = (xs.length - (pre ++ [c]).length) + 1 by simp; omega, List.replicate_succ] at hr
    have hset := hr.setMid (p := (⟨w.heap.size, 0, none⟩ : Addr).add ((pre.length : Int).toNat * 1)) (by rw [at_idx1, flatMap_len cB_len, Nat.mul_one]) (.bool c)
    refine ⟨hset.1, letW_i fun w3 hw3 => ⟨inR_i64 (by omega) (by omega), hK _ _ ⟨?_, ?_⟩⟩⟩
    · rw [hw3]; exact he.set (by rw [at_idx1, add_b]; exact Nat.le_refl _) _
    · rw [hw3]; simpa [cB] using hset.2
  · intro K t w2 ⟨he, hr⟩ _
    refine br_df (by omega) ⟨?_, by simpa using hr, he⟩
    rw [hl0, Int.toNat_natCast]

theorem c_laws_eqBoolS {s t : Sl} {xs : List Bool} {w : World} (h : Bools w s xs) (h' : Bools w t xs) (hl : xs.length ≤ maxLen) :
    CallR Try.prog 37 [.slice s.a s.len s.cap, .slice t.a t.len t.cap] w (fun v w' => v = .bool true ∧ Ext w w') := by
  refine fn_laws_eqBoolS _ _ _ _ ?_
  unfold g_laws_eqBoolS
  unfold maxLen at hl
  have hl0 := h.len
  have hl1 := h'.len
  refine br_f (by rw [hl0, hl1]; simp) ?_
  refine sLoop_list xs (fun pre _ w' => Ext w w') (Ext.refl _) ?_ ?_
  · intro K pre post c u w1 hx he hK _
    have hm := mid_len hx
    refine br_dt (by omega) (fun w2 (e2 : Ext w1 w2) => ?_)
    obtain ⟨a, ha1, hc⟩ := (h.ext (he.trans e2)).bm hx
    obtain ⟨a', ha1', hc'⟩ := (h'.ext (he.trans e2)).bm hx
    refine onSome_i ha1 ⟨⟨by omega, by omega⟩, _, hc, onSome_i ha1' ⟨⟨by omega, by omega⟩, _, hc', ?_⟩⟩
    exact br_f (by simp) ⟨inR_i64 (by omega) (by omega), hK _ _ (he.trans e2)⟩
  · intro K u w1 he _
    exact br_df (by omega) ⟨rfl, he⟩

theorem c_szShapeS_of {S : Nat → Prop} {w : World} {c : ShC} {n : Sh} (left : Int) (h : ShAt S w c n) (h0 : 0 ≤ left) (h1 : left ≤ 1048576)
    (ih : ∀ x ∈ n.ks, ∀ (w : World) (c : ShC) (left : Int), ShAt S w c x → 0 ≤ left → left ≤ 1048576 → CallR Try.prog 8 [c.v, .int .i64 left] w (fun v w' => (v = .int .i64 (-1) ∨ (v = .int .i64 (left - mzS x) ∧ 0 ≤ left - mzS x)) ∧ Ext w w')) :
    CallR Try.prog 30 [.slice c.sk.a c.sk.len c.sk.cap, .int .i64 left] w (fun v w' => (v = .int .i64 (-1) ∨ (v = .int .i64 (left - n.ks.length - mzSL n.ks) ∧ 0 ≤ left - n.ks.length - mzSL n.ks)) ∧ Ext w w') := by
  refine fn_laws_szShapeS _ _ _ _ ?_
  unfold g_laws_szShapeS
  have hk := h.klen
  have hm := h.out.2.2.2.2.2.1
  unfold maxLen at hm
  refine ⟨inR_i64 (by omega) (by omega), br_d (fun h2 => ⟨.inl rfl, Ext.refl _⟩) (fun h2 => ?_)⟩
  refine sLoop_list n.ks (fun pre t w' => Ext w w' ∧ t.1 = left - n.ks.length - mzSL pre ∧ 0 ≤ t.1) ⟨Ext.refl _, by simp [mzSL, hk.1], by simp; omega⟩ ?_ ?_
  · rintro K pre post x ⟨t, u⟩ w1 hx ⟨he, ht, hp⟩ hK _
    have hl := mid_len hx
    obtain ⟨dd, a, hsa, hd', g0, g1, g2, g3⟩ := (h.ext he).kid (i := pre.length) (mid_get hx)
    simp only at ht hp
    dsimp only
    refine br_dt (by omega) (onSome_i hsa ⟨⟨by omega, by omega⟩, ?_⟩)
    simp only [add_nought, exI g0, exL g1, exL g2, exL g3]
    refine (ih x (by rw [hx]; simp) w1 dd t hd' hp (by omega)).mono ?_
    rintro _ w2 ⟨hv, e2⟩
    rcases hv with rfl | ⟨rfl, hpos⟩
    · exact ⟨_, rfl, br_dt (by omega) ⟨.inl (by simp), he.trans e2⟩⟩
    · refine ⟨_, rfl, br_df (by omega) ⟨inR_i64 (by omega) (by omega), hK _ _ ⟨he.trans e2, ?_, hpos⟩⟩⟩
      rw [mzSL_append]; simp only [mzSL]; omega
  · rintro K ⟨t, u⟩ w1 ⟨he, ht, hp⟩ _
    simp only at ht hp
    dsimp only
    exact br_df (by omega) ⟨.inr ⟨by rw [ht], by omega⟩, he⟩

theorem c_laws_szShape {S : Nat → Prop} : ∀ (N : Nat) (w : World) (c : ShC) (n : Sh) (left : Int), cnS n ≤ N → ShAt S w c n → 0 ≤ left → left ≤ 1048576 →
    CallR Try.prog 8 [c.v, .int .i64 left] w (fun v w' => (v = .int .i64 (-1) ∨ (v = .int .i64 (left - mzS n) ∧ 0 ≤ left - mzS n)) ∧ Ext w w') := by
  intro N
  induction N with
  | zero => intro w c n _ h; have := cnS_pos n; omega
  | succ N ih =>
    intro w c n left hN h hl0 hl1
    refine fn_laws_szShape _ _ _ _ _ _ _ ?_
    unfold g_laws_szShape
    refine shBox fun w1 e1 r1 => ?_
    obtain ⟨k0, k1, k2, k3⟩ := Row.sh r1
    obtain ⟨_, hn, hb, hnl, hbl, hkl, hns, _⟩ := h.out
    have hz := mzS_eq n
    have hsz := sizeS_nonneg n.ns
    simp only [exL k1]
    refine (c_laws_szStringS _ (hn.ext e1) (by omega) (by omega) hnl hns).mono ?_
    rintro _ w2 ⟨hv, e2⟩
    rcases hv with rfl | ⟨rfl, hpos⟩
    · exact ⟨_, rfl, br_dt (by omega) ⟨.inl (by simp), e1.trans e2⟩⟩
    refine ⟨_, rfl, br_df (by omega) ?_⟩
    simp only [exL (e2.get k2)]
    refine (c_laws_szBoolS _ ((hb.ext e1).ext e2) (by omega) (by omega) hbl).mono ?_
    rintro _ w3 ⟨hv, e3⟩
    have e13 := (e1.trans e2).trans e3
    rcases hv with rfl | ⟨rfl, hpos'⟩
    · exact ⟨_, rfl, br_dt (by omega) ⟨.inl (by simp), e13⟩⟩
    refine ⟨_, rfl, br_df (by omega) ?_⟩
    simp only [exL ((e2.trans e3).get k3)]
    refine (c_szShapeS_of _ (h.ext e13) (by omega) (by omega) (fun x hx w c left => ih w c x left (by have := cnS_kid hx; omega))).mono ?_
    rintro _ w4 ⟨hv, e4⟩
    rcases hv with rfl | ⟨rfl, hpos''⟩
    · exact ⟨_, rfl, br_dt (by omega) ⟨.inl (by simp), e13.trans e4⟩⟩
    refine ⟨_, rfl, br_df (by omega) ⟨.inr ⟨?_, ?_⟩, e13.trans e4⟩⟩
    · congr 1; rw [hz]; omega
    · rw [hz]; omega

theorem c_eqShapeS_of {S S' : Nat → Prop} {w : World} {c d : ShC} {n : Sh} (h : ShAt S w c n) (h' : ShAt S' w d n)
    (ih : ∀ x ∈ n.ks, ∀ (w : World) (c d : ShC), ShAt S w c x → ShAt S' w d x → CallR Try.prog 12 [c.v, d.v] w (fun v w' => v = .bool true ∧ Ext w w')) :
    CallR Try.prog 38 [.slice c.sk.a c.sk.len c.sk.cap, .slice d.sk.a d.sk.len d.sk.cap] w (fun v w' => v = .bool true ∧ Ext w w') := by
  refine fn_laws_eqShapeS _ _ _ _ ?_
  unfold g_laws_eqShapeS
  have hk := h.klen
  have hk' := h'.klen
  have hm := h.out.2.2.2.2.2.1
  unfold maxLen at hm
  refine br_f (by rw [hk.1, hk'.1]; simp) ?_
  refine sLoop_list n.ks (fun _ _ w' => Ext w w') (Ext.refl _) ?_ ?_
  · intro K pre post x t w1 hx he hK _
    have hl := mid_len hx
    refine br_dt (by first | omega | (simp only; omega)) (fun w2 (e2 : Ext w1 w2) => ?_)
    obtain ⟨dc, a, hsa, hdc, g0, g1, g2, g3⟩ := (h.ext (he.trans e2)).kid (i := pre.length) (mid_get hx)
    obtain ⟨dd, b, hsb, hdd, f0, f1, f2, f3⟩ := (h'.ext (he.trans e2)).kid (i := pre.length) (mid_get hx)
    refine onSome_i hsa ⟨⟨by first | omega | (simp only; omega), by first | omega | (simp only; omega)⟩, ?_⟩
    simp only [add_nought, exI g0, exL g1, exL g2, exL g3]
    refine onSome_i hsb ⟨⟨by first | omega | (simp only; omega), by first | omega | (simp only; omega)⟩, ?_⟩
    simp only [add_nought, exI f0, exL f1, exL f2, exL f3]
    exact (ih x (by rw [hx]; simp) w2 dc dd hdc hdd).go fun w3 e3 => ⟨_, rfl, br_f (by simp) ⟨inR_i64 (by omega) (by omega), hK _ _ ((he.trans e2).trans e3)⟩⟩
  · intro K t w1 he _
    exact br_df (by first | omega | (simp only; omega)) ⟨rfl, he⟩

theorem c_laws_eqShape {S S' : Nat → Prop} : ∀ (N : Nat) (w : World) (c d : ShC) (n : Sh), cnS n ≤ N → ShAt S w c n → ShAt S' w d n →
    CallR Try.prog 12 [c.v, d.v] w (fun v w' => v = .bool true ∧ Ext w w') := by
  intro N
  induction N with
  | zero => intro w c d n h; have := cnS_pos n; omega
  | succ N ih =>
    intro w c d n hN h h'
    refine fn_laws_eqShape _ _ _ _ _ _ _ _ _ _ ?_
    unfold g_laws_eqShape
    refine shBox fun w1 e1 r1 => shBox fun w2 e2 r2 => ?_
    obtain ⟨k0, k1, k2, k3⟩ := Row.sh (r1.ext e2)
    obtain ⟨m0, m1, m2, m3⟩ := Row.sh r2
    obtain ⟨hk, hn, hb, hnl, hbl, hkl, _⟩ := h.out
    obtain ⟨hk', hn', hb', _⟩ := h'.out
    have e := e1.trans e2
    simp only [add_nought, exI k0, exI m0, exL k1, exL m1]
    refine br_f (by rw [hk, hk']; simp) ?_
    refine (c_laws_eqStringS (hn.ext e) (hn'.ext e) hnl).go fun w3 e3 => ⟨_, rfl, br_f (by simp) ?_⟩
    simp only [exL (e3.get k2), exL (e3.get m2)]
    refine (c_laws_eqBoolS ((hb.ext e).ext e3) ((hb'.ext e).ext e3) hbl).go fun w4 e4 => ⟨_, rfl, br_f (by simp) ?_⟩
    have e34 := e3.trans e4
    simp only [exL (e34.get k3), exL (e34.get m3)]
    exact (c_eqShapeS_of ((h.ext e).ext e34) ((h'.ext e).ext e34) (fun x hx w c d => ih w c d x (by have := cnS_kid hx; omega))).go fun w5 e5 => ⟨_, rfl, br_f (by simp) ⟨by simp, (e.trans e34).trans e5⟩⟩
end Go.Proofs
