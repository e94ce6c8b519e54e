/-
  What functions of this seat compute, part 'Entry': contracts over their readable predicates. Conditions: each theorem's own hypotheses.
-/
import Derived.Test.YtiohmpihadcpaaaBase
import Derived.Test.YtiohmpihadcpaaaOpen
import Derived.Test.YtiohmpihadcpaaaGen
import Derived.Test.YtiohmpihadcpaaaCSmall
import Derived.Test.YtiohmpihadcpaaaCOrder
import Derived.Test.YtiohmpihadcpaaaCNode
import Derived.Test.YtiohmpihadcpaaaCNodeText
import Derived.Test.YtiohmpihadcpaaaCNodeValid
import Derived.Test.YtiohmpihadcpaaaCNodeSpec
import Derived.Test.YtiohmpihadcpaaaCHelpS
import Derived.Test.YtiohmpihadcpaaaCNodeHelp
import Derived.Test.YtiohmpihadcpaaaCNodeHelp2
import Derived.Test.YtiohmpihadcpaaaCNodeTop
import Derived.Test.YtiohmpihadcpaaaCNodeCmp
import Derived.Test.YtiohmpihadcpaaaCCells
namespace Go.Proofs
open Go Go.Vc Go.RowKit
set_option maxRecDepth 100000
set_option linter.unusedVariables false
--! C:Small C:Order C:Node C:NodeText C:NodeValid C:NodeSpec C:HelpS C:NodeHelp C:NodeHelp2 C:NodeTop C:NodeCmp C:Cells
/-! ## Entries of an index -/

abbrev En := Nd × ByteArray
def cE (d : NdC × ByteArray) : List Value := cN d.1 ++ [.string d.2]
theorem cE_len (x : NdC × ByteArray) : (cE x).length = 6 := rfl
abbrev evE (d : NdC) (s : ByteArray) : Value := .agg #[.int .i64 d.k, .int .i64 d.m, .string d.t, .slice d.sn.a d.sn.len d.sn.cap, .slice d.sk.a d.sk.len d.sk.cap, .string s]

/-- A slice of entries, read. -/
structure EnsAt (S : Nat → Prop) (w : World) (l : Sl) (xs : List En) : Prop where
  ex : ∃ cs : List (NdC × ByteArray), SlOf cE w l cs ∧ cs.length = xs.length ∧ ∀ (i : Nat) d x, cs[i]? = some d → xs[i]? = some x → NdAt S w d.1 x.1 ∧ d.2 = x.2
  len : xs.length ≤ maxLen
  sz : ∀ x ∈ xs, x.2.size ≤ maxLen

theorem EnsAt.ext {S : Nat → Prop} {w w' : World} {l : Sl} {xs : List En} (h : EnsAt S w l xs) (e : Ext w w') : EnsAt S w' l xs := by
  obtain ⟨⟨cs, h1, h2, h3⟩, h4, h5⟩ := h
  exact ⟨⟨cs, h1.ext e, h2, fun i d x hd hx => ⟨(h3 i d x hd hx).1.ext e, (h3 i d x hd hx).2⟩⟩, h4, h5⟩

theorem EnsAt.slen {S : Nat → Prop} {w : World} {l : Sl} {xs : List En} (h : EnsAt S w l xs) : l.len = xs.length ∧ l.len ≤ l.cap := by
  obtain ⟨⟨cs, h1, h2, h3⟩, h4, h5⟩ := h
  exact ⟨by rw [h1.len, h2], h1.cap⟩

theorem EnsAt.at_ {S : Nat → Prop} {w : World} {l : Sl} {xs : List En} (h : EnsAt S w l xs) {i : Nat} {x : En} (hx : xs[i]? = some x) : ∃ (d : NdC) (a : Addr), l.a = some a ∧ NdAt S w d x.1 ∧
    w.cell? (a.add ((i : Int).toNat * 6)) = some (.int .i64 d.k) ∧ w.cell? ((a.add ((i : Int).toNat * 6)).add 1) = some (.int .i64 d.m) ∧ w.cell? ((a.add ((i : Int).toNat * 6)).add 2) = some (.string d.t) ∧
    w.cell? ((a.add ((i : Int).toNat * 6)).add 3) = some (.slice d.sn.a d.sn.len d.sn.cap) ∧ w.cell? ((a.add ((i : Int).toNat * 6)).add 4) = some (.slice d.sk.a d.sk.len d.sk.cap) ∧ w.cell? ((a.add ((i : Int).toNat * 6)).add 5) = some (.string x.2) := by
  obtain ⟨⟨cs, h1, h2, h3⟩, h4, h5⟩ := h
  have hi := (List.getElem?_eq_some_iff.1 hx).1
  obtain ⟨d, hd⟩ : ∃ d, cs[i]? = some d := ⟨cs[i]'(by omega), List.getElem?_eq_getElem (by omega)⟩
  obtain ⟨hn, hs⟩ := h3 i d x hd hx
  obtain ⟨a, ha, c0⟩ := h1.cell cE_len hd (j := 0) rfl
  obtain ⟨a1, ha1, c1⟩ := h1.cell cE_len hd (j := 1) rfl
  obtain ⟨a2, ha2, c2⟩ := h1.cell cE_len hd (j := 2) rfl
  obtain ⟨a3, ha3, c3⟩ := h1.cell cE_len hd (j := 3) rfl
  obtain ⟨a4, ha4, c4⟩ := h1.cell cE_len hd (j := 4) rfl
  obtain ⟨a5, ha5, c5⟩ := h1.cell cE_len hd (j := 5) rfl
  rw [ha] at ha1 ha2 ha3 ha4 ha5
  obtain rfl := Option.some.inj ha1
  obtain rfl := Option.some.inj ha2
  obtain rfl := Option.some.inj ha3
  obtain rfl := Option.some.inj ha4
  obtain rfl := Option.some.inj ha5
  rw [add_nought] at c0
  exact ⟨d.1, a, ha, hn, c0, c1, c2, c3, c4, by rw [← hs]; exact c5⟩

/-- A row of six cells of an entry. -/
theorem Row.en {w : World} {b : Nat} {d : NdC} {s : ByteArray} {T : TypeId} (r : Row w b (cE (d, s)) T) :
    w.cell? (⟨b, 0, none⟩ : Addr) = some (.int .i64 d.k) ∧ w.cell? ((⟨b, 0, none⟩ : Addr).add 1) = some (.int .i64 d.m) ∧ w.cell? ((⟨b, 0, none⟩ : Addr).add 2) = some (.string d.t) ∧
    w.cell? ((⟨b, 0, none⟩ : Addr).add 3) = some (.slice d.sn.a d.sn.len d.sn.cap) ∧ w.cell? ((⟨b, 0, none⟩ : Addr).add 4) = some (.slice d.sk.a d.sk.len d.sk.cap) ∧ w.cell? ((⟨b, 0, none⟩ : Addr).add 5) = some (.string s) := by
  have c0 := r.cell (k := 0) (v := .int .i64 d.k) rfl
  rw [add_nought] at c0
  exact ⟨c0, r.cell (k := 1) rfl, r.cell (k := 2) rfl, r.cell (k := 3) rfl, r.cell (k := 4) rfl, r.cell (k := 5) rfl⟩

theorem enBox {w : World} {d : NdC} {s : ByteArray} {T : TypeId} {K : World → Prop} (hk : ∀ w1, Ext w w1 → Row w1 w.heap.size (cE (d, s)) T → K w1) :
    letW (w.alloc (.cells #[.int .i64 d.k, .int .i64 d.m, .string d.t, .slice d.sn.a d.sn.len d.sn.cap, .slice d.sk.a d.sk.len d.sk.cap, .string s] T)) K :=
  letW_i fun w1 hw1 => hk w1 (by rw [hw1]; exact (Ext.refl w).alloc _) (by rw [hw1]; exact Row.new w (cE (d, s)) T)

section
variable {H : Type} {enc : TypeId × Value → H} {w : World} {base : Nat} {spare : Nat → Bool} {held : Bool}

theorem read_entries {v : Value} {a : Option Addr} {len cap : Nat} {d : DataW H} {ps : List MemPlace} (hv : v = .slice a len cap) (h : DataW.Trod enc Try.prog w base spare held 38 v d ps) :
    ∃ (s : Sl) (xs : List En), v = .slice s.a s.len s.cap ∧ EnsAt (fun _ => True) w s xs ∧ s.cap ≤ maxLen ∧ True := by
  obtain ⟨fuel, hf⟩ := h
  obtain ⟨s, cs, hs, h1, h2, h3⟩ := read_slice (c := cE) (Q := fun d => (∃ n, NdAt (fun _ => True) w d.1 n) ∧ d.2.size ≤ maxLen) (k := 6) Try.underlying38 (by kernel_rfl) hf (fun m cs y _ hl hy => by
    obtain ⟨ys, n, hfuel, _, _, hys, hfd⟩ := DataW.trod_struct Try.underlying64 hy
    have g0 : DataW.trod enc Try.prog w base spare held n 62 ((cs.drop 0).take (Program.cellsOf Try.prog 62)) = ys[0]? := hfd 0 _ rfl
    have g1 : DataW.trod enc Try.prog w base spare held n 9 ((cs.drop 5).take (Program.cellsOf Try.prog 9)) = ys[1]? := hfd 1 _ rfl
    have k5 : Program.cellsOf Try.prog 62 = 5 := by kernel_rfl
    have k1 : Program.cellsOf Try.prog 9 = 1 := by kernel_rfl
    rw [k5] at g0
    rw [k1] at g1
    match cs, hl with
    | [u0, u1, u2, u3, u4, u5], _ =>
      have l0 : ∃ y0, ys[0]? = some y0 := ⟨ys[0]'(by rw [hys]; decide), List.getElem?_eq_getElem _⟩
      have l1 : ∃ y1, ys[1]? = some y1 := ⟨ys[1]'(by rw [hys]; decide), List.getElem?_eq_getElem _⟩
      obtain ⟨y0, e0⟩ := l0
      obtain ⟨y1, e1⟩ := l1
      rw [e0] at g0
      rw [e1] at g1
      obtain ⟨c, nd, hc, hnd⟩ := read_node_aux n _ y0 rfl g0
      obtain ⟨t1, f1, _, hw1⟩ := DataW.trod_string Try.underlying9 g1
      simp at hc f1
      refine ⟨(c, t1), ?_, ⟨nd, hnd⟩, hw1⟩
      rw [cE, ← hc, f1]; rfl)
  obtain ⟨ks, hkl, hk⟩ := trees_of (R := fun (d : NdC) n => NdAt (fun _ => True) w d n) (cs.map (·.1)) (fun d hd => by
    obtain ⟨x, hx, rfl⟩ := List.mem_map.1 hd
    exact (h3 x hx).1)
  have hln : ks.length = cs.length := by rw [hkl]; simp
  have hcap := h1.cap
  have hlen := h1.len
  refine ⟨s, ks.zip (cs.map (·.2)), sl_arg hv hs, ⟨⟨cs, h1, by simp [hln], fun i d x hd hx => ?_⟩, by simp [hln]; omega, fun x hx => ?_⟩, h2, trivial⟩
  · rw [List.getElem?_zip_eq_some] at hx
    obtain ⟨hx1, hx2⟩ := hx
    refine ⟨hk i d.1 x.1 (by simp [hd]) hx1, ?_⟩
    rw [List.getElem?_map, hd] at hx2
    exact Option.some.inj hx2
  · have := (List.of_mem_zip hx).2
    obtain ⟨y, hy, hyx⟩ := List.mem_map.1 this
    rw [← hyx]; exact (h3 y hy).2
end

/-! ### Sizes -/

def mzE (x : En) : Nat := mz x.1 + x.2.size
def mzEs : List En → Nat
  | [] => 0
  | x :: r => mzE x + mzEs r
theorem mzEs_append : ∀ (a b : List En), mzEs (a ++ b) = mzEs a + mzEs b
  | [], b => by simp [mzEs]
  | x :: r, b => by simp only [List.cons_append, mzEs, mzEs_append r b]; omega
theorem mzE_le {xs : List En} {x : En} (h : x ∈ xs) : mzE x ≤ mzEs xs := by
  obtain ⟨a, b, rfl⟩ := List.append_of_mem h
  rw [mzEs_append]; simp only [mzEs]; omega

theorem c_laws_szEntry {S : Nat → Prop} {w : World} {d : NdC} {x : En} (left : Int) (h : NdAt S w d x.1) (hs : x.2.size ≤ maxLen) (h0 : 0 ≤ left) (h1 : left ≤ 1048576) :
    CallR Try.prog 28 [evE d x.2, .int .i64 left] w (fun v w' => (v = .int .i64 (-1) ∨ (v = .int .i64 (left - mzE x) ∧ 0 ≤ left - mzE x)) ∧ Ext w w') := by
  refine fn_laws_szEntry _ _ _ _ _ _ _ _ _ ?_
  unfold g_laws_szEntry
  refine enBox fun w1 e1 r1 => ?_
  obtain ⟨k0, k1, k2, k3, k4, k5⟩ := Row.en r1
  unfold maxLen at hs
  simp only [add_nought, exI k0, exI k1, exS k2, exL k3, exL k4]
  refine (c_laws_szNode _ w1 d x.1 left (Nat.le_refl _) (h.ext e1) h0 h1).mono ?_
  rintro _ w2 ⟨hv, e2⟩
  rcases hv with rfl | ⟨rfl, hpos⟩
  · exact ⟨_, rfl, br_dt (by omega) ⟨.inl (by simp), e1.trans e2⟩⟩
  refine ⟨_, rfl, br_df (by omega) ?_⟩
  simp only [exS (e2.get k5)]
  refine ⟨inR_i64 (by omega) (by omega), br_d (fun _ => ⟨.inl (by simp), e1.trans e2⟩) (fun h2 => ⟨.inr ⟨?_, ?_⟩, e1.trans e2⟩)⟩
  · congr 1; unfold mzE; omega
  · unfold mzE; omega

theorem c_laws_szEntryS {S : Nat → Prop} {w : World} {l : Sl} {xs : List En} (left : Int) (h : EnsAt S w l xs) (h0 : 0 ≤ left) (h1 : left ≤ 1048576) :
    CallR Try.prog 15 [.slice l.a l.len l.cap, .int .i64 left] w (fun v w' => (v = .int .i64 (-1) ∨ (v = .int .i64 (left - xs.length - mzEs xs) ∧ 0 ≤ left - xs.length - mzEs xs)) ∧ Ext w w') := by
  refine fn_laws_szEntryS _ _ _ _ ?_
  unfold g_laws_szEntryS
  have hl := h.len
  have hk := h.slen
  unfold maxLen at hl
  refine ⟨inR_i64 (by omega) (by omega), br_d (fun h2 => ⟨.inl rfl, Ext.refl _⟩) (fun h2 => ?_)⟩
  refine sLoop_list xs (fun pre t w' => Ext w w' ∧ t.1 = left - xs.length - mzEs pre ∧ 0 ≤ t.1) ⟨Ext.refl _, by simp [mzEs, hk.1], by simp; omega⟩ ?_ ?_
  · rintro K pre post x ⟨t, u⟩ w1 hx ⟨he, ht, hp⟩ hK _
    have hm := mid_len hx
    obtain ⟨d, a, ha, hn, g0, g1, g2, g3, g4, g5⟩ := (h.ext he).at_ (mid_get hx)
    simp only at ht hp
    dsimp only
    refine br_dt (by omega) (onSome_i ha ⟨⟨by omega, by omega⟩, ?_⟩)
    simp only [add_nought, exI g0, exI g1, exS g2, exL g3, exL g4, exS g5]
    refine (c_laws_szEntry t hn (h.sz x (by rw [hx]; simp)) hp (by omega)).mono ?_
    rintro _ w2 ⟨hv, e2⟩
    rcases hv with rfl | ⟨rfl, hpos⟩
    · exact ⟨_, rfl, br_dt (by omega) ⟨.inl (by simp), he.trans e2⟩⟩
    · refine ⟨_, rfl, br_df (by omega) ⟨inR_i64 (by omega) (by omega), hK _ _ ⟨he.trans e2, ?_, hpos⟩⟩⟩
      rw [mzEs_append]; simp only [mzEs]; omega
  · rintro K ⟨t, u⟩ w1 ⟨he, ht, hp⟩ _
    simp only at ht hp
    dsimp only
    exact br_df (by omega) ⟨.inr ⟨by rw [ht], by omega⟩, he⟩

theorem c_laws_eqEntry {S S' : Nat → Prop} {w : World} {c d : NdC} {x : En} (h : NdAt S w c x.1) (h' : NdAt S' w d x.1) :
    CallR Try.prog 37 [evE c x.2, evE d x.2] w (fun v w' => v = .bool true ∧ Ext w w') := by
  refine fn_laws_eqEntry _ _ _ _ _ _ _ _ _ _ _ _ _ _ ?_
  unfold g_laws_eqEntry
  refine enBox fun w1 e1 r1 => enBox fun w2 e2 r2 => ?_
  obtain ⟨k0, k1, k2, k3, k4, k5⟩ := Row.en (r1.ext e2)
  obtain ⟨m0, m1, m2, m3, m4, m5⟩ := Row.en r2
  simp only [add_nought, exI k0, exI k1, exS k2, exL k3, exL k4, exI m0, exI m1, exS m2, exL m3, exL m4]
  refine (c_laws_eqNode _ w2 c d x.1 (Nat.le_refl _) (h.ext (e1.trans e2)) (h'.ext (e1.trans e2))).go fun w3 e3 => ⟨_, rfl, br_f (by simp) ?_⟩
  simp only [exS (e3.get k5), exS (e3.get m5)]
  exact br_f (by simp [seqB_eq]) ⟨by simp, (e1.trans e2).trans e3⟩

theorem c_laws_eqEntryS {S S' : Nat → Prop} {w : World} {l l' : Sl} {xs : List En} (h : EnsAt S w l xs) (h' : EnsAt S' w l' xs) :
    CallR Try.prog 19 [.slice l.a l.len l.cap, .slice l'.a l'.len l'.cap] w (fun v w' => v = .bool true ∧ Ext w w') := by
  refine fn_laws_eqEntryS _ _ _ _ ?_
  unfold g_laws_eqEntryS
  have hl := h.len
  have hk := h.slen
  have hk' := h'.slen
  unfold maxLen at hl
  refine br_f (by rw [hk.1, hk'.1]; simp) ?_
  refine sLoop_list xs (fun pre t w' => Ext w w') (Ext.refl _) ?_ ?_
  · rintro K pre post x u w1 hx he hK _
    have hm := mid_len hx
    refine br_dt (by omega) fun w2 e2 => ?_
    have he2 := he.trans e2
    obtain ⟨d, a, ha, hn, g0, g1, g2, g3, g4, g5⟩ := (h.ext he2).at_ (mid_get hx)
    obtain ⟨d', a', ha', hn', p0, p1, p2, p3, p4, p5⟩ := (h'.ext he2).at_ (mid_get hx)
    refine onSome_i ha ⟨⟨by omega, by omega⟩, ?_⟩
    simp only [add_nought, exI g0, exI g1, exS g2, exL g3, exL g4, exS g5]
    refine onSome_i ha' ⟨⟨by omega, by omega⟩, ?_⟩
    simp only [add_nought, exI p0, exI p1, exS p2, exL p3, exL p4, exS p5]
    exact (c_laws_eqEntry hn hn').go fun w3 e3 => ⟨_, rfl, br_f (by simp) ⟨inR_i64 (by omega) (by omega), hK _ _ (he2.trans e3)⟩⟩
  · rintro K u w1 he _
    exact br_df (by omega) ⟨rfl, he⟩
end Go.Proofs
