/-
  What functions of this seat compute, part 'Item': contracts over their readable predicates. Conditions: each theorem's own hypotheses.
-/
import Derived.Test.YtiohmpihadcpaaaBase
import Derived.Test.YtiohmpihadcpaaaOpen
import Derived.Test.YtiohmpihadcpaaaGen
import Derived.Test.YtiohmpihadcpaaaCSmall
import Derived.Test.YtiohmpihadcpaaaCOrder
import Derived.Test.YtiohmpihadcpaaaCNode
import Derived.Test.YtiohmpihadcpaaaCNodeText
import Derived.Test.YtiohmpihadcpaaaCNodeValid
import Derived.Test.YtiohmpihadcpaaaCNodeSpec
import Derived.Test.YtiohmpihadcpaaaCHelpS
import Derived.Test.YtiohmpihadcpaaaCNodeHelp
import Derived.Test.YtiohmpihadcpaaaCNodeHelp2
import Derived.Test.YtiohmpihadcpaaaCNodeTop
import Derived.Test.YtiohmpihadcpaaaCCells
namespace Go.Proofs
open Go Go.Vc Go.RowKit
set_option maxRecDepth 100000
set_option linter.unusedVariables false
--! C:Small C:Order C:Node C:NodeText C:NodeValid C:NodeSpec C:HelpS C:NodeHelp C:NodeHelp2 C:NodeTop C:Cells
/-! ## Documents of a store -/

abbrev It := ByteArray × Int × Nd
abbrev ItC := ByteArray × Int × NdC
def cIt (d : ItC) : List Value := .string d.1 :: .int .i64 d.2.1 :: cN d.2.2
theorem cIt_len (x : ItC) : (cIt x).length = 7 := rfl
abbrev ivE (s : ByteArray) (v : Int) (d : NdC) : Value := .agg #[.string s, .int .i64 v, .int .i64 d.k, .int .i64 d.m, .string d.t, .slice d.sn.a d.sn.len d.sn.cap, .slice d.sk.a d.sk.len d.sk.cap]
abbrev svE (l : Sl) (c : Int) : Value := .agg #[.slice l.a l.len l.cap, .int .i64 c]
def zeroIt : ItC := (⟨#[]⟩, 0, zeroN)

/-- A slice of documents, read. -/
structure ItsAt (S : Nat → Prop) (w : World) (l : Sl) (xs : List It) : Prop where
  ex : ∃ cs : List ItC, SlOf cIt w l cs ∧ cs.length = xs.length ∧ ∀ (i : Nat) d x, cs[i]? = some d → xs[i]? = some x → NdAt S w d.2.2 x.2.2 ∧ d.1 = x.1 ∧ d.2.1 = x.2.1
  len : xs.length ≤ maxLen
  sz : ∀ x ∈ xs, x.1.size ≤ maxLen

theorem ItsAt.ext {S : Nat → Prop} {w w' : World} {l : Sl} {xs : List It} (h : ItsAt S w l xs) (e : Ext w w') : ItsAt S w' l xs := by
  obtain ⟨⟨cs, h1, h2, h3⟩, h4, h5⟩ := h
  exact ⟨⟨cs, h1.ext e, h2, fun i d x hd hx => ⟨(h3 i d x hd hx).1.ext e, (h3 i d x hd hx).2⟩⟩, h4, h5⟩

theorem ItsAt.slen {S : Nat → Prop} {w : World} {l : Sl} {xs : List It} (h : ItsAt S w l xs) : l.len = xs.length ∧ l.len ≤ l.cap := by
  obtain ⟨⟨cs, h1, h2, h3⟩, h4, h5⟩ := h
  exact ⟨by rw [h1.len, h2], h1.cap⟩

theorem ItsAt.at_ {S : Nat → Prop} {w : World} {l : Sl} {xs : List It} (h : ItsAt S w l xs) {i : Nat} {x : It} (hx : xs[i]? = some x) : ∃ (d : NdC) (a : Addr), l.a = some a ∧ NdAt S w d x.2.2 ∧
    w.cell? (a.add ((i : Int).toNat * 7)) = some (.string x.1) ∧ w.cell? ((a.add ((i : Int).toNat * 7)).add 1) = some (.int .i64 x.2.1) ∧
    w.cell? ((a.add ((i : Int).toNat * 7)).add 2) = some (.int .i64 d.k) ∧ w.cell? ((a.add ((i : Int).toNat * 7)).add 3) = some (.int .i64 d.m) ∧ w.cell? ((a.add ((i : Int).toNat * 7)).add 4) = some (.string d.t) ∧
    w.cell? ((a.add ((i : Int).toNat * 7)).add 5) = some (.slice d.sn.a d.sn.len d.sn.cap) ∧ w.cell? ((a.add ((i : Int).toNat * 7)).add 6) = some (.slice d.sk.a d.sk.len d.sk.cap) := by
  obtain ⟨⟨cs, h1, h2, h3⟩, h4, h5⟩ := h
  have hi := (List.getElem?_eq_some_iff.1 hx).1
  obtain ⟨d, hd⟩ : ∃ d, cs[i]? = some d := ⟨cs[i]'(by omega), List.getElem?_eq_getElem (by omega)⟩
  obtain ⟨hn, hs, hv⟩ := h3 i d x hd hx
  obtain ⟨a, ha, c0⟩ := h1.cell cIt_len hd (j := 0) rfl
  obtain ⟨a1, ha1, c1⟩ := h1.cell cIt_len hd (j := 1) rfl
  obtain ⟨a2, ha2, c2⟩ := h1.cell cIt_len hd (j := 2) rfl
  obtain ⟨a3, ha3, c3⟩ := h1.cell cIt_len hd (j := 3) rfl
  obtain ⟨a4, ha4, c4⟩ := h1.cell cIt_len hd (j := 4) rfl
  obtain ⟨a5, ha5, c5⟩ := h1.cell cIt_len hd (j := 5) rfl
  obtain ⟨a6, ha6, c6⟩ := h1.cell cIt_len hd (j := 6) rfl
  rw [ha] at ha1 ha2 ha3 ha4 ha5 ha6
  obtain rfl := Option.some.inj ha1
  obtain rfl := Option.some.inj ha2
  obtain rfl := Option.some.inj ha3
  obtain rfl := Option.some.inj ha4
  obtain rfl := Option.some.inj ha5
  obtain rfl := Option.some.inj ha6
  rw [add_nought] at c0
  exact ⟨d.2.2, a, ha, hn, by rw [← hs]; exact c0, by rw [← hv]; exact c1, c2, c3, c4, c5, c6⟩

/-- A row of seven cells of a document. -/
theorem Row.it {w : World} {b : Nat} {s : ByteArray} {v : Int} {d : NdC} {T : TypeId} (r : Row w b (cIt (s, v, d)) T) :
    w.cell? (⟨b, 0, none⟩ : Addr) = some (.string s) ∧ w.cell? ((⟨b, 0, none⟩ : Addr).add 1) = some (.int .i64 v) ∧
    w.cell? ((⟨b, 0, none⟩ : Addr).add 2) = some (.int .i64 d.k) ∧ w.cell? ((⟨b, 0, none⟩ : Addr).add 3) = some (.int .i64 d.m) ∧ w.cell? ((⟨b, 0, none⟩ : Addr).add 4) = some (.string d.t) ∧
    w.cell? ((⟨b, 0, none⟩ : Addr).add 5) = some (.slice d.sn.a d.sn.len d.sn.cap) ∧ w.cell? ((⟨b, 0, none⟩ : Addr).add 6) = some (.slice d.sk.a d.sk.len d.sk.cap) ∧
    w.cell? (((⟨b, 0, none⟩ : Addr).add 2).add 1) = some (.int .i64 d.m) ∧ w.cell? (((⟨b, 0, none⟩ : Addr).add 2).add 2) = some (.string d.t) ∧
    w.cell? (((⟨b, 0, none⟩ : Addr).add 2).add 3) = some (.slice d.sn.a d.sn.len d.sn.cap) ∧ w.cell? (((⟨b, 0, none⟩ : Addr).add 2).add 4) = some (.slice d.sk.a d.sk.len d.sk.cap) := by
  have c0 := r.cell (k := 0) (v := .string s) rfl
  rw [add_nought] at c0
  exact ⟨c0, r.cell (k := 1) rfl, r.cell (k := 2) rfl, r.cell (k := 3) rfl, r.cell (k := 4) rfl, r.cell (k := 5) rfl, r.cell (k := 6) rfl,
    by rw [add_add']; exact r.cell (k := 3) rfl, by rw [add_add']; exact r.cell (k := 4) rfl, by rw [add_add']; exact r.cell (k := 5) rfl, by rw [add_add']; exact r.cell (k := 6) rfl⟩

theorem itBox {w : World} {s : ByteArray} {v : Int} {d : NdC} {T : TypeId} {K : World → Prop} (hk : ∀ w1, Ext w w1 → Row w1 w.heap.size (cIt (s, v, d)) T → K w1) :
    letW (w.alloc (.cells #[.string s, .int .i64 v, .int .i64 d.k, .int .i64 d.m, .string d.t, .slice d.sn.a d.sn.len d.sn.cap, .slice d.sk.a d.sk.len d.sk.cap] T)) K :=
  letW_i fun w1 hw1 => hk w1 (by rw [hw1]; exact (Ext.refl w).alloc _) (by rw [hw1]; exact Row.new w (cIt (s, v, d)) T)

/-- The cells of a store. -/
def cSt (l : Sl) (c : Int) : List Value := [.slice l.a l.len l.cap, .int .i64 c]
theorem Row.st {w : World} {b : Nat} {l : Sl} {c : Int} {T : TypeId} (r : Row w b (cSt l c) T) :
    w.cell? (⟨b, 0, none⟩ : Addr) = some (.slice l.a l.len l.cap) ∧ w.cell? ((⟨b, 0, none⟩ : Addr).add 1) = some (.int .i64 c) := by
  have c0 := r.cell (k := 0) (v := .slice l.a l.len l.cap) rfl
  rw [add_nought] at c0
  exact ⟨c0, r.cell (k := 1) rfl⟩
theorem stBox {w : World} {l : Sl} {c : Int} {T : TypeId} {K : World → Prop} (hk : ∀ w1, Ext w w1 → Row w1 w.heap.size (cSt l c) T → K w1) :
    letW (w.alloc (.cells #[.slice l.a l.len l.cap, .int .i64 c] T)) K :=
  letW_i fun w1 hw1 => hk w1 (by rw [hw1]; exact (Ext.refl w).alloc _) (by rw [hw1]; exact Row.new w (cSt l c) T)
theorem stSet {w : World} {b : Nat} {z0 z1 : Value} {l : Sl} {c : Int} {e : TypeId} {K : World → Prop} (r : Row w b [z0, z1] e) (hk : ∀ w', Row w' b (cSt l c) e → Chg b w w' → K w') :
    Wr w (⟨b, 0, none⟩ : Addr) ∧ letW (w.setCell (⟨b, 0, none⟩ : Addr) (.slice l.a l.len l.cap)) (fun q0 => Wr q0 ((⟨b, 0, none⟩ : Addr).add 1) ∧ letW (q0.setCell ((⟨b, 0, none⟩ : Addr).add 1) (.int .i64 c)) K) := by
  obtain ⟨h0, r0⟩ := Row.setMid (A := []) (B := [z1]) (p := ⟨b, 0, none⟩) r rfl (.slice l.a l.len l.cap)
  obtain ⟨h1, r1⟩ := Row.setMid (A := [.slice l.a l.len l.cap]) (B := []) (p := (⟨b, 0, none⟩ : Addr).add 1) r0 rfl (.int .i64 c)
  exact ⟨h0, h1, hk _ r1 (((Chg.refl b w).set rfl _).set (by simp only [add_block]) _)⟩
theorem stLocal {w : World} {z0 z1 : Value} {l : Sl} {c : Int} {e : TypeId} {K : World → Prop} (hk : ∀ w', Row w' w.heap.size (cSt l c) e → Ext w w' → K w') :
    letW (w.alloc (.cells #[z0, z1] e)) (fun q => Wr q (⟨w.heap.size, 0, none⟩ : Addr) ∧ letW (q.setCell (⟨w.heap.size, 0, none⟩ : Addr) (.slice l.a l.len l.cap)) (fun q0 => Wr q0 ((⟨w.heap.size, 0, none⟩ : Addr).add 1) ∧ letW (q0.setCell ((⟨w.heap.size, 0, none⟩ : Addr).add 1) (.int .i64 c)) K)) := by
  have r0 : Row (w.alloc (.cells #[z0, z1] e)) w.heap.size [z0, z1] e := Row.new w [z0, z1] e
  have e0 : Ext w (w.alloc (.cells #[z0, z1] e)) := (Ext.refl w).alloc _
  exact stSet r0 fun w' r c => hk w' r (e0.chg c (Nat.le_refl _))

section
variable {H : Type} {enc : TypeId × Value → H} {w : World} {base : Nat} {spare : Nat → Bool} {held : Bool}

theorem read_items_aux {g : Nat} {u : Value} {y : DataW H × List MemPlace} (hu : DataW.trod enc Try.prog w base spare held g 22 [u] = some y) :
    ∃ (s : Sl) (xs : List It), u = .slice s.a s.len s.cap ∧ ItsAt (fun _ => True) w s xs ∧ s.cap ≤ maxLen := by
  obtain ⟨s, cs, hs, h1, h2, h3⟩ := read_slice (c := cIt) (Q := fun d => (∃ n, NdAt (fun _ => True) w d.2.2 n) ∧ d.1.size ≤ maxLen) (k := 7) Try.underlying22 (by kernel_rfl) hu (fun m cs y _ hl hy => by
    obtain ⟨ys, n, hfuel, _, _, hys, hfd⟩ := DataW.trod_struct Try.underlying76 hy
    have g0 : DataW.trod enc Try.prog w base spare held n 9 ((cs.drop 0).take (Program.cellsOf Try.prog 9)) = ys[0]? := hfd 0 _ rfl
    have g1 : DataW.trod enc Try.prog w base spare held n 3 ((cs.drop 1).take (Program.cellsOf Try.prog 3)) = ys[1]? := hfd 1 _ rfl
    have g2 : DataW.trod enc Try.prog w base spare held n 62 ((cs.drop 2).take (Program.cellsOf Try.prog 62)) = ys[2]? := hfd 2 _ rfl
    have k5 : Program.cellsOf Try.prog 62 = 5 := by kernel_rfl
    have k1 : Program.cellsOf Try.prog 9 = 1 := by kernel_rfl
    have k2 : Program.cellsOf Try.prog 3 = 1 := by kernel_rfl
    rw [k1] at g0
    rw [k2] at g1
    rw [k5] at g2
    match cs, hl with
    | [u0, u1, u2, u3, u4, u5, u6], _ =>
      have l0 : ∃ y0, ys[0]? = some y0 := ⟨ys[0]'(by rw [hys]; decide), List.getElem?_eq_getElem _⟩
      have l1 : ∃ y1, ys[1]? = some y1 := ⟨ys[1]'(by rw [hys]; decide), List.getElem?_eq_getElem _⟩
      have l2 : ∃ y2, ys[2]? = some y2 := ⟨ys[2]'(by rw [hys]; decide), List.getElem?_eq_getElem _⟩
      obtain ⟨y0, e0⟩ := l0
      obtain ⟨y1, e1⟩ := l1
      obtain ⟨y2, e2⟩ := l2
      rw [e0] at g0
      rw [e1] at g1
      rw [e2] at g2
      obtain ⟨t0, f0, _, hw0⟩ := DataW.trod_string Try.underlying9 g0
      obtain ⟨t1, f1, _, _⟩ := DataW.trod_int Try.underlying3 g1
      obtain ⟨c, nd, hc, hnd⟩ := read_node_aux n _ y2 rfl g2
      simp at f0 f1 hc
      refine ⟨(t0, t1, c), ?_, ⟨nd, hnd⟩, hw0⟩
      rw [cIt, ← hc, f0, f1])
  obtain ⟨ks, hkl, hk⟩ := trees_of (R := fun (d : NdC) n => NdAt (fun _ => True) w d n) (cs.map (·.2.2)) (fun d hd => by
    obtain ⟨x, hx, rfl⟩ := List.mem_map.1 hd
    exact (h3 x hx).1)
  have hln : ks.length = cs.length := by rw [hkl]; simp
  have hcap := h1.cap
  have hlen := h1.len
  have hz : ∀ (i : Nat) x, ((cs.zip ks).map fun p => ((p.1.1, p.1.2.1, p.2) : It))[i]? = some x → ∃ d k, cs[i]? = some d ∧ ks[i]? = some k ∧ x = (d.1, d.2.1, k) := by
    intro i x hx
    rw [List.getElem?_map] at hx
    cases hq : (cs.zip ks)[i]? with
    | none => rw [hq] at hx; cases hx
    | some p =>
      rw [hq] at hx
      obtain ⟨h4, h5⟩ := List.getElem?_zip_eq_some.1 hq
      exact ⟨p.1, p.2, h4, h5, (Option.some.inj hx).symm⟩
  refine ⟨s, (cs.zip ks).map fun p => (p.1.1, p.1.2.1, p.2), by simpa using hs, ⟨⟨cs, h1, by simp [hln], fun i d x hd hx => ?_⟩, by simp [hln]; omega, fun x hx => ?_⟩, h2⟩
  · obtain ⟨d', k, h4, h5, rfl⟩ := hz i x hx
    rw [hd] at h4
    obtain rfl := Option.some.inj h4
    exact ⟨hk i d.2.2 k (by simp [hd]) h5, rfl, rfl⟩
  · obtain ⟨i, hi⟩ := List.mem_iff_getElem?.1 hx
    obtain ⟨d', k, h4, h5, rfl⟩ := hz i x hi
    exact (h3 d' (List.mem_of_getElem? h4)).2

theorem read_store {v : Value} {cs : Array Value} {d : DataW H} {ps : List MemPlace} (hv : v = .agg cs ∧ cs.size = Program.cellsOf Try.prog 24) (h : DataW.Trod enc Try.prog w base spare held 24 v d ps) :
    ∃ (l : Sl) (c : Int) (xs : List It), v = svE l c ∧ ItsAt (fun _ => True) w l xs ∧ l.cap ≤ maxLen := by
  obtain ⟨fuel, hf⟩ := h
  obtain ⟨rfl, hsz⟩ := hv
  have k5 : Program.cellsOf Try.prog 24 = 2 := by kernel_rfl
  rw [k5] at hsz
  have hc : (Value.agg cs).cells.toList = cs.toList := rfl
  rw [hc] at hf
  obtain ⟨ys, n, hfuel, _, _, hys, hfd⟩ := DataW.trod_struct Try.underlying24 hf
  have g0 : DataW.trod enc Try.prog w base spare held n 22 ((cs.toList.drop 0).take (Program.cellsOf Try.prog 22)) = ys[0]? := hfd 0 _ rfl
  have g1 : DataW.trod enc Try.prog w base spare held n 3 ((cs.toList.drop 1).take (Program.cellsOf Try.prog 3)) = ys[1]? := hfd 1 _ rfl
  have k1 : Program.cellsOf Try.prog 22 = 1 := by kernel_rfl
  have k2 : Program.cellsOf Try.prog 3 = 1 := by kernel_rfl
  rw [k1] at g0
  rw [k2] at g1
  have l0 : ∃ y0, ys[0]? = some y0 := ⟨ys[0]'(by rw [hys]; decide), List.getElem?_eq_getElem _⟩
  have l1 : ∃ y1, ys[1]? = some y1 := ⟨ys[1]'(by rw [hys]; decide), List.getElem?_eq_getElem _⟩
  obtain ⟨y0, e0⟩ := l0
  obtain ⟨y1, e1⟩ := l1
  rw [e0] at g0
  rw [e1] at g1
  match cs, hsz with
  | ⟨[a, b]⟩, _ =>
    simp only [List.drop_zero, List.take_succ_cons, List.take_zero, List.drop_succ_cons] at g0 g1
    obtain ⟨s, xs, rfl, hx, hm⟩ := read_items_aux g0
    obtain ⟨t1, f1, _, _⟩ := DataW.trod_int Try.underlying3 g1
    simp at f1
    exact ⟨s, t1, xs, by rw [f1], hx, hm⟩
end

/-! ### Sizes -/

def mzI (x : It) : Nat := x.1.size + mz x.2.2
def mzIs : List It → Nat
  | [] => 0
  | x :: r => mzI x + mzIs r
theorem mzIs_append : ∀ (a b : List It), mzIs (a ++ b) = mzIs a + mzIs b
  | [], b => by simp [mzIs]
  | x :: r, b => by simp only [List.cons_append, mzIs, mzIs_append r b]; omega
theorem mzI_le {xs : List It} {x : It} (h : x ∈ xs) : mzI x ≤ mzIs xs := by
  obtain ⟨a, b, rfl⟩ := List.append_of_mem h
  rw [mzIs_append]; simp only [mzIs]; omega

theorem c_laws_szItem {S : Nat → Prop} {w : World} {d : NdC} {x : It} (left : Int) (h : NdAt S w d x.2.2) (hs : x.1.size ≤ maxLen) (h0 : 0 ≤ left) (h1 : left ≤ 1048576) :
    CallR Try.prog 38 [ivE x.1 x.2.1 d, .int .i64 left] w (fun v w' => (v = .int .i64 (-1) ∨ (v = .int .i64 (left - mzI x) ∧ 0 ≤ left - mzI x)) ∧ Ext w w') := by
  refine fn_laws_szItem _ _ _ _ _ _ _ _ _ _ ?_
  unfold g_laws_szItem
  refine itBox fun w1 e1 r1 => ?_
  obtain ⟨k0, k1, k2, k3, k4, k5, k6, n1, n2, n3, n4⟩ := Row.it r1
  unfold maxLen at hs
  simp only [add_nought, exS k0]
  refine ⟨inR_i64 (by omega) (by omega), br_d (fun g => ⟨.inl (by simp), e1⟩) (fun g => ?_)⟩
  simp only [exI k2, exI n1, exS n2, exL n3, exL n4]
  refine (c_laws_szNode _ w1 d x.2.2 _ (Nat.le_refl _) (h.ext e1) (by omega) (by omega)).mono ?_
  rintro _ w2 ⟨hv, e2⟩
  rcases hv with rfl | ⟨rfl, hpos⟩
  · exact ⟨_, rfl, br_dt (by omega) ⟨.inl (by simp), e1.trans e2⟩⟩
  refine ⟨_, rfl, br_df (by omega) ⟨.inr ⟨?_, ?_⟩, e1.trans e2⟩⟩
  · congr 1; unfold mzI; omega
  · unfold mzI; omega

theorem c_laws_szItemS {S : Nat → Prop} {w : World} {l : Sl} {xs : List It} (left : Int) (h : ItsAt S w l xs) (h0 : 0 ≤ left) (h1 : left ≤ 1048576) :
    CallR Try.prog 20 [.slice l.a l.len l.cap, .int .i64 left] w (fun v w' => (v = .int .i64 (-1) ∨ (v = .int .i64 (left - xs.length - mzIs xs) ∧ 0 ≤ left - xs.length - mzIs xs)) ∧ Ext w w') := by
  refine fn_laws_szItemS _ _ _ _ ?_
  unfold g_laws_szItemS
  have hl := h.len
  have hk := h.slen
  unfold maxLen at hl
  refine ⟨inR_i64 (by omega) (by omega), br_d (fun h2 => ⟨.inl rfl, Ext.refl _⟩) (fun h2 => ?_)⟩
  refine sLoop_list xs (fun pre t w' => Ext w w' ∧ t.1 = left - xs.length - mzIs pre ∧ 0 ≤ t.1) ⟨Ext.refl _, by simp [mzIs, hk.1], by simp; omega⟩ ?_ ?_
  · rintro K pre post x ⟨t, u⟩ w1 hx ⟨he, ht, hp⟩ hK _
    have hm := mid_len hx
    obtain ⟨d, a, ha, hn, g0, g1, g2, g3, g4, g5, g6⟩ := (h.ext he).at_ (mid_get hx)
    simp only at ht hp
    dsimp only
    refine br_dt (by omega) (onSome_i ha ⟨⟨by omega, by omega⟩, ?_⟩)
    simp only [add_nought, exS g0, exI g1, exI g2, exI g3, exS g4, exL g5, exL g6]
    refine (c_laws_szItem t hn (h.sz x (by rw [hx]; simp)) hp (by omega)).mono ?_
    rintro _ w2 ⟨hv, e2⟩
    rcases hv with rfl | ⟨rfl, hpos⟩
    · exact ⟨_, rfl, br_dt (by omega) ⟨.inl (by simp), he.trans e2⟩⟩
    · refine ⟨_, rfl, br_df (by omega) ⟨inR_i64 (by omega) (by omega), hK _ _ ⟨he.trans e2, ?_, hpos⟩⟩⟩
      rw [mzIs_append]; simp only [mzIs]; omega
  · rintro K ⟨t, u⟩ w1 ⟨he, ht, hp⟩ _
    simp only at ht hp
    dsimp only
    exact br_df (by omega) ⟨.inr ⟨by rw [ht], by omega⟩, he⟩

theorem c_laws_szStore {S : Nat → Prop} {w : World} {l : Sl} {c : Int} {xs : List It} (left : Int) (h : ItsAt S w l xs) (h0 : 0 ≤ left) (h1 : left ≤ 1048576) :
    CallR Try.prog 7 [svE l c, .int .i64 left] w (fun v w' => (v = .int .i64 (-1) ∨ (v = .int .i64 (left - xs.length - mzIs xs) ∧ 0 ≤ left - xs.length - mzIs xs)) ∧ Ext w w') := by
  refine fn_laws_szStore _ _ _ _ _ ?_
  unfold g_laws_szStore
  refine stBox fun w1 e1 r1 => ?_
  obtain ⟨k0, k1⟩ := Row.st r1
  simp only [add_nought, exL k0]
  refine (c_laws_szItemS left (h.ext e1) h0 h1).mono ?_
  rintro _ w2 ⟨hv, e2⟩
  rcases hv with rfl | ⟨rfl, hpos⟩
  · exact ⟨_, rfl, br_dt (by omega) ⟨.inl (by simp), e1.trans e2⟩⟩
  · exact ⟨_, rfl, br_df (by omega) ⟨.inr ⟨rfl, hpos⟩, e1.trans e2⟩⟩

theorem c_laws_eqItem {S S' : Nat → Prop} {w : World} {c d : NdC} {x : It} (h : NdAt S w c x.2.2) (h' : NdAt S' w d x.2.2) :
    CallR Try.prog 44 [ivE x.1 x.2.1 c, ivE x.1 x.2.1 d] w (fun v w' => v = .bool true ∧ Ext w w') := by
  refine fn_laws_eqItem _ _ _ _ _ _ _ _ _ _ _ _ _ _ _ _ ?_
  unfold g_laws_eqItem
  refine itBox fun w1 e1 r1 => itBox fun w2 e2 r2 => ?_
  obtain ⟨k0, k1, k2, k3, k4, k5, k6, n1, n2, n3, n4⟩ := Row.it (r1.ext e2)
  obtain ⟨m0, m1, m2, m3, m4, m5, m6, o1, o2, o3, o4⟩ := Row.it r2
  simp only [add_nought, exS k0, exS m0, exI k1, exI m1, exI k2, exI n1, exS n2, exL n3, exL n4, exI m2, exI o1, exS o2, exL o3, exL o4]
  refine br_f (by simp [seqB_eq]) (br_f (by simp) ?_)
  exact (c_laws_eqNode _ w2 c d x.2.2 (Nat.le_refl _) (h.ext (e1.trans e2)) (h'.ext (e1.trans e2))).go fun w3 e3 => ⟨_, rfl, br_f (by simp) ⟨by simp, (e1.trans e2).trans e3⟩⟩

theorem c_laws_eqItemS {S S' : Nat → Prop} {w : World} {l l' : Sl} {xs : List It} (h : ItsAt S w l xs) (h' : ItsAt S' w l' xs) :
    CallR Try.prog 25 [.slice l.a l.len l.cap, .slice l'.a l'.len l'.cap] w (fun v w' => v = .bool true ∧ Ext w w') := by
  refine fn_laws_eqItemS _ _ _ _ ?_
  unfold g_laws_eqItemS
  have hl := h.len
  have hk := h.slen
  have hk' := h'.slen
  unfold maxLen at hl
  refine br_f (by rw [hk.1, hk'.1]; simp) ?_
  refine sLoop_list xs (fun pre t w' => Ext w w') (Ext.refl _) ?_ ?_
  · rintro K pre post x u w1 hx he hK _
    have hm := mid_len hx
    refine br_dt (by omega) fun w2 e2 => ?_
    have he2 := he.trans e2
    obtain ⟨d, a, ha, hn, g0, g1, g2, g3, g4, g5, g6⟩ := (h.ext he2).at_ (mid_get hx)
    obtain ⟨d', a', ha', hn', p0, p1, p2, p3, p4, p5, p6⟩ := (h'.ext he2).at_ (mid_get hx)
    refine onSome_i ha ⟨⟨by omega, by omega⟩, ?_⟩
    simp only [add_nought, exS g0, exI g1, exI g2, exI g3, exS g4, exL g5, exL g6]
    refine onSome_i ha' ⟨⟨by omega, by omega⟩, ?_⟩
    simp only [add_nought, exS p0, exI p1, exI p2, exI p3, exS p4, exL p5, exL p6]
    exact (c_laws_eqItem hn hn').go fun w3 e3 => ⟨_, rfl, br_f (by simp) ⟨inR_i64 (by omega) (by omega), hK _ _ (he2.trans e3)⟩⟩
  · rintro K u w1 he _
    exact br_df (by omega) ⟨rfl, he⟩

theorem c_laws_eqStore {S S' : Nat → Prop} {w : World} {l l' : Sl} {c : Int} {xs : List It} (h : ItsAt S w l xs) (h' : ItsAt S' w l' xs) :
    CallR Try.prog 11 [svE l c, svE l' c] w (fun v w' => v = .bool true ∧ Ext w w') := by
  refine fn_laws_eqStore _ _ _ _ _ _ ?_
  unfold g_laws_eqStore
  refine stBox fun w1 e1 r1 => stBox fun w2 e2 r2 => ?_
  obtain ⟨k0, k1⟩ := Row.st (r1.ext e2)
  obtain ⟨m0, m1⟩ := Row.st r2
  simp only [add_nought, exL k0, exL m0]
  refine (c_laws_eqItemS (h.ext (e1.trans e2)) (h'.ext (e1.trans e2))).go fun w3 e3 => ⟨_, rfl, br_f (by simp) ?_⟩
  simp only [exI (e3.get k1), exI (e3.get m1)]
  exact br_f (by simp) ⟨by simp, (e1.trans e2).trans e3⟩
end Go.Proofs
