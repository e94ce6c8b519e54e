/-
  What functions of this seat compute, part 'Lease4': contracts over their readable predicates. Conditions: each theorem's own hypotheses.
-/
import Derived.Test.YtcgmjkokkclciaaBase
import Derived.Test.YtcgmjkokkclciaaOpen
import Derived.Test.YtcgmjkokkclciaaGen
import Derived.Test.YtcgmjkokkclciaaCLease
import Derived.Test.YtcgmjkokkclciaaCLease2
import Derived.Lib.Overlaps
namespace Go.Proofs
open Go Go.Vc Go.RowKit
set_option maxRecDepth 100000
set_option linter.unusedVariables false
--! C:Lease C:Lease2 M:Derived.Lib.Overlaps
/-! ## Leases: slices copied, cut, widened -/

theorem cL_one (x : Lz) : ∀ u ∈ cL x, u.oneCell' = true := by
  intro u hu
  simp only [cL, List.mem_cons, List.not_mem_nil, or_false] at hu
  rcases hu with rfl | rfl | rfl <;> rfl

theorem cL_ones (xs : List Lz) : ∀ u ∈ xs.flatMap cL, u.oneCell' = true := by
  intro u hu
  obtain ⟨x, _, hx⟩ := List.mem_flatMap.1 hu
  exact cL_one x u hx

theorem c_slices_Clone {w : World} {s : Sl} {xs : List Lz} (h : Leases w s xs) (hl : xs.length ≤ 1000000000) :
    CallR Try.prog 57 [.slice s.a s.len s.cap] w (fun v w' => ∃ l : Sl, v = .slice l.a l.len l.cap ∧ Own w.heap.size 40 3 w' l (xs.flatMap cL) ∧ Ext w w') := by
  refine fn_slices_Clone _ _ _ ?_
  unfold g_slices_Clone
  have hl0 := h.len
  refine br_i (fun g => ?_) (fun g => letW_i fun w1 hw1 => ?_)
  · have hn : s.a = none := by simpa using g
    have : xs = [] := h.none_nil cL_len (by decide) hn
    exact ⟨⟨none, 0, 0⟩, rfl, by rw [this]; exact Own.nil _ _ _ _, Ext.refl _⟩
  · have e1 : Ext w w1 := by rw [hw1]; exact (Ext.refl w).alloc _
    have o1 : Own w.heap.size 40 3 w1 ⟨some ⟨w.heap.size, 0, none⟩, 0, 0⟩ [] := by rw [hw1]; exact Own.fresh w _ 3 _ (Nat.le_refl _)
    refine sAppend_i o1 (Src.of (h.ext e1) cL_len cL_one (fun hn => by rw [hn] at g; simp at g)) (by first | omega | (simp only; omega)) (by first | omega | (simp only; omega)) e1.size (fun s' w' hl' o' hg' => ⟨s', rfl, by simpa using o', e1.own o1 hg' (Nat.le_refl _)⟩)

theorem c_slices_Delete {w : World} {l : Sl} {A B : List Lz} {x : Lz} {base : Nat} (o : Own base 40 3 w l ((A ++ x :: B).flatMap cL)) :
    CallR Try.prog 56 [.slice l.a l.len l.cap, .int .i64 A.length, .int .i64 ((A.length : Int) + 1)] w
      (fun v w' => ∃ l' : Sl, v = .slice l'.a l'.len l'.cap ∧ Own base 40 3 w' l' ((A ++ B).flatMap cL) ∧ ∀ a, Ext a w → a.heap.size ≤ base → Ext a w') := by
  obtain ⟨g, cur, hs, hb, hr, hnc, hcm, hcl, htk⟩ := o.row cL_len (by decide) (by simp)
  generalize hcap : l.cap = cap at *
  generalize hn : (A ++ x :: B).length = n at *
  have hn' : n = A.length + 1 + B.length := by rw [← hn]; simp; omega
  rw [hs]
  refine fn_slices_Delete _ _ _ _ _ ?_
  unfold g_slices_Delete
  have fA : (A.flatMap cL).length = A.length * 3 := flatMap_len cL_len A
  have fB : (B.flatMap cL).length = B.length * 3 := flatMap_len cL_len B
  have hvs : (A ++ x :: B).flatMap cL = A.flatMap cL ++ (cL x ++ B.flatMap cL) := by simp
  refine ⟨⟨by omega, by omega, by first | omega | (simp only; omega), by first | omega | (simp only; omega)⟩, br_f (by simp; omega) (fun w1 e1 => ⟨⟨by omega, by omega, by first | omega | (simp only; omega)⟩, ⟨by omega, by first | omega | (simp only; omega), by first | omega | (simp only; omega)⟩, ?_⟩)⟩
  have hr1 := hr.ext e1
  have tA : ((A.length : Int) + 1).toNat = A.length + 1 := by omega
  simp only [Int.toNat_natCast, Int.toNat_zero, Nat.sub_zero, resl_zero, tA]
  obtain ⟨ad, had, hadd⟩ := resl_some ⟨g, 0, none⟩ cap (A.length + 1) 3
  have tkA : cur.take (A.length * 3) = A.flatMap cL := by
    rw [hvs] at htk
    have := take_pre htk
    rwa [fA] at this
  have hcells : ∀ j u, (B.flatMap cL)[j]? = some u → w1.cell? (ad.add j) = some u := by
    intro j u hj
    have hj' := (List.getElem?_eq_some_iff.1 hj).1
    rw [hadd (by omega), add_add']
    refine hr1.cell (tk_get htk ?_)
    rw [hvs, List.getElem?_append_right (by omega), List.getElem?_append_right (by rw [fA, cL_len]; omega), fA, cL_len]
    rw [show (A.length + 1) * 3 + j - A.length * 3 - 3 = j by omega]
    exact hj
  refine .inr ⟨g, cur, B.flatMap cL, ad, rfl, hr1, by first | omega | (simp only; omega), cL_ones B, had, hcells, by first | omega | (simp only; omega), by first | omega | (simp only; omega), ?_⟩
  have hfit : A.length * 3 + (B.flatMap cL).length ≤ cur.length := by omega
  have r2 := Row.put hr1 (cur.take (A.length * 3) ++ B.flatMap cL ++ cur.drop (A.length * 3 + (B.flatMap cL).length))
  have l2 := seg_len hfit
  have k2 := seg_take hfit
  have ch2 : Chg g w1 (w1.setRow g (cur.take (A.length * 3) ++ B.flatMap cL ++ cur.drop (A.length * 3 + (B.flatMap cL).length)).toArray) := (Chg.refl g w1).row _
  simp only
  generalize (cur.take (A.length * 3) ++ B.flatMap cL ++ cur.drop (A.length * 3 + (B.flatMap cL).length)) = cur2 at *
  generalize hw2 : w1.setRow g cur2.toArray = w2 at *
  rw [tkA, fB] at k2
  have hm : A.length + (n - (A.length + 1)) = n - 1 := by omega
  refine ⟨⟨by omega, by omega, by omega⟩, ?_⟩
  rw [hm]
  try simp only [Int.toNat_natCast]
  rw [resl_lt (show n - 1 < cap by omega), add_b]
  have hz : (zeroCs #[Value.string (⟨#[]⟩ : ByteArray), .int .i64 (0 : Int), .int .i64 (0 : Int)] (n - (n - 1))).size = 3 := by
    unfold zeroCs
    rw [size_zeroCells, show n - (n - 1) = 1 by omega]
    rfl
  refine .inr ⟨g, (n - 1) * 3, cur2, 40, by first | omega | (simp only; omega), rfl, r2, by simp only [hz]; omega, ?_⟩
  simp only
  generalize hzs : (zeroCs #[Value.string (⟨#[]⟩ : ByteArray), .int .i64 (0 : Int), .int .i64 (0 : Int)] (n - (n - 1))) = zs at *
  rw [← Array.length_toList] at hz ⊢
  have hfit3 : (n - 1) * 3 + zs.toList.length ≤ cur2.length := by omega
  have r3 := Row.put r2 (cur2.take ((n - 1) * 3) ++ zs.toList ++ cur2.drop ((n - 1) * 3 + zs.toList.length))
  have l3 := seg_len hfit3
  have k3 := seg_take0 hfit3
  have ch3 := ch2.row (cur2.take ((n - 1) * 3) ++ zs.toList ++ cur2.drop ((n - 1) * 3 + zs.toList.length)).toArray
  refine ⟨⟨some ⟨g, 0, none⟩, n - 1, cap⟩, rfl, Own.ofRowTake r3 hb (by omega) hcm (by omega) ?_ ?_, fun a ha hle => (ha.trans e1).chg ch3 (by omega)⟩
  · rw [flatMap_len cL_len]; simp; omega
  · rw [k3, show (n - 1) * 3 = A.length * 3 + B.length * 3 by omega, k2, List.flatMap_append]

theorem run_sizeOf {P : Program} {t : TypeId} {n : Nat} (h : (P.info? t).map (·.size) = some n) (w : World) : (Go.sizeOf t).run P w = .ok n w := by
  cases hi : P.info? t with
  | none => rw [hi] at h; cases h
  | some i =>
    rw [hi] at h
    obtain rfl : i.size = n := by simpa using h
    simp [Go.sizeOf, typeInfo, hi]

theorem ext_drew (w : World) : Ext w w.drew := ⟨rfl, rfl, rfl, Nat.le_refl _, fun _ _ => rfl⟩

theorem c_slices_overlaps {w : World} {vb g : Nat} {vs cur : List Value} (ad : Addr) (l c l' c' : Nat) (hv : Row w vb vs 40) (hg : Row w g cur 40) (had : ad.block = g) (hne : vb ≠ g) (hc : cur ≠ []) :
    CallR Try.prog 65 [.slice (some ⟨vb, 0, none⟩) l c, .slice (some ad) l' c'] w (fun v w' => v = .bool false ∧ w' = w) := by
  refine .inr ⟨.bool false, w, ?_, rfl, rfl⟩
  unfold Row at hv hg
  rw [run_callFunc_extern Try.func65 (by kernel_rfl) (by kernel_rfl) (by kernel_rfl) (e := Extern.SlicesOverlaps.overlaps #[25, 25] #[4]) (by kernel_rfl),
    Lib.run_overlaps_apart w 25 4 40 Try.underlying25 3 (run_sizeOf (by kernel_rfl)) ⟨vb, 0, none⟩ ad l c l' c' (by rw [had]; exact hne) 40 40 vs.toArray.size cur.toArray.size
      (by simp [World.shape?, hv]) (by simp [World.shape?, had, hg]) (by simpa using hc) (by simp [World.frozen?, hv]) (by simp [World.frozen?, hv])]
  rfl

set_option maxHeartbeats 1000000 in
theorem c_slices_Insert {w : World} {l : Sl} {A B : List Lz} {x : Lz} {base vb : Nat} (o : Own base 40 3 w l ((A ++ B).flatMap cL)) (rv : Row w vb (cL x) 40) (hvb : l.v.ownBlock ≠ some vb) (hbase : base ≤ w.heap.size) (hmax : (A ++ B).length ≤ 1000000000) :
    CallR Try.prog 58 [.slice l.a l.len l.cap, .int .i64 A.length, .slice (some ⟨vb, 0, none⟩) 1 1] w
      (fun v w' => ∃ l' : Sl, v = .slice l'.a l'.len l'.cap ∧ Own base 40 3 w' l' ((A ++ x :: B).flatMap cL) ∧ ∀ a, Ext a w → a.heap.size ≤ base → Ext a w') := by
  have hll := o.len cL_len (by decide)
  refine fn_slices_Insert _ _ ⟨some ⟨vb, 0, none⟩, 1, 1⟩ _ _ ?_
  unfold g_slices_Insert
  have fA : (A.flatMap cL).length = A.length * 3 := flatMap_len cL_len A
  have fB : (B.flatMap cL).length = B.length * 3 := flatMap_len cL_len B
  have hcap : l.len ≤ l.cap := (o.slOf cL_len (by decide)).cap
  have hlAB : l.len = A.length + B.length := by rw [hll]; simp
  refine ⟨⟨by omega, by omega, by omega⟩, br_f (by simp) (br_i (fun g1 => ?_) (fun g1 => ?_))⟩
  · have hB : B = [] := List.eq_nil_of_length_eq_zero (by simp at g1; omega)
    subst hB
    refine sAppend_i o (Src.row rv (by simp [cL]) (cL_one x)) (by first | omega | (simp only; omega)) (by first | omega | (simp only; omega)) hbase (fun s' w' hl' o' hg' => ⟨s', rfl, by simpa using o', fun a ha hle => ha.own o hg' hle⟩)
  have hBne : B ≠ [] := fun e => by subst e; simp at g1; simp at hlAB; omega
  have hBpos := List.length_pos_iff.2 hBne
  obtain ⟨g, cur, hs, hb, hr, hnc, hcm, hcl, htk⟩ := o.row cL_len (by decide) (by simp [hBne])
  generalize hcap' : l.cap = cap at *
  generalize hn : (A ++ B).length = n at *
  have hn' : n = A.length + B.length := by omega
  have hgv : vb ≠ g := fun e => hvb (by rw [hs, e]; rfl)
  have hglt := hr.lt
  rw [hs]
  have hvs : (A ++ B).flatMap cL = A.flatMap cL ++ B.flatMap cL := by simp
  rw [hvs] at htk
  have tkA : cur.take (A.length * 3) = A.flatMap cL := by
    have := take_pre htk
    rwa [fA] at this
  have getB : ∀ j u, (B.flatMap cL)[j]? = some u → cur[A.length * 3 + j]? = some u := fun j u hj => by
    refine tk_get htk ?_
    rw [List.getElem?_append_right (by omega), fA, show A.length * 3 + j - A.length * 3 = j by omega]
    exact hj
  have tA : ((A.length : Int) + ((1 : Nat) : Int)).toNat = A.length + 1 := by omega
  have tn : ((n : Int) + ((1 : Nat) : Int)).toNat = n + 1 := by omega
  have hmx : 1000000002 ≤ maxLen := by unfold maxLen; omega
  have finv : (A ++ x :: B).flatMap cL = A.flatMap cL ++ cL x ++ B.flatMap cL := by simp
  refine ⟨inR_i64 (by first | omega | (simp only; omega)) (by first | omega | (simp only; omega)), br_d (fun g2 => ?_) (fun g2 => ?_)⟩
  · simp only at g2
    refine ⟨⟨by omega, by omega, by first | omega | (simp only; omega)⟩, inR_i64 (by first | omega | (simp only; omega)) (by first | omega | (simp only; omega)), inR_i64 (by first | omega | (simp only; omega)) (by first | omega | (simp only; omega)), ?_⟩
    have hk : ((n : Int) + ((1 : Nat) : Int) - (A.length : Int)) = ((B.length + 1 : Nat) : Int) := by omega
    simp only [Int.toNat_natCast, Int.toNat_zero, Nat.sub_zero, resl_zero, tA, tn, hk]
    refine ⟨A.flatMap cL, ⟨fA, .inr ⟨_, rfl, fun j u hj => hr.cell (tk_get (m := A.length * 3) tkA hj)⟩⟩, ⟨by omega, by first | omega | (simp only; omega), by first | omega | (simp only; omega), by first | omega | (simp only; omega)⟩, fun c hc hcx => ?_⟩
    try simp only [Int.toNat_natCast] at hc
    try simp only [Int.toNat_natCast] at hcx
    try simp only [Int.toNat_natCast]
    have hcn : n + 1 ≤ c := by omega
    have hcmx : c ≤ maxLen := hcx (by omega)
    rw [show A.length + (B.length + 1) = n + 1 by omega] at hc ⊢
    generalize hz1 : zeroCs #[Value.string (⟨#[]⟩ : ByteArray), .int .i64 (0 : Int), .int .i64 (0 : Int)] (B.length + 1) = z1
    generalize hz2 : zeroCs #[Value.string (⟨#[]⟩ : ByteArray), .int .i64 (0 : Int), .int .i64 (0 : Int)] (c - (n + 1)) = z2
    have sz1 : z1.toList.length = (B.length + 1) * 3 := by rw [Array.length_toList, ← hz1]; unfold zeroCs; rw [size_zeroCells]; rfl
    have sz2 : z2.toList.length = (c - (n + 1)) * 3 := by rw [Array.length_toList, ← hz2]; unfold zeroCs; rw [size_zeroCells]; rfl
    have harr : (A.flatMap cL).toArray ++ z1 ++ z2 = (A.flatMap cL ++ z1.toList ++ z2.toList).toArray := by simp
    rw [harr]
    generalize hcur0 : A.flatMap cL ++ z1.toList ++ z2.toList = cur0
    have len0 : cur0.length = c * 3 := by rw [← hcur0]; simp only [List.length_append, fA, sz1, sz2]; omega
    have tk0 : cur0.take (A.length * 3) = A.flatMap cL := by
      rw [← hcur0, List.append_assoc, List.take_append_of_le_length (by omega), List.take_of_length_le (by omega)]
    have r4 : Row (w.drew.alloc (.cells cur0.toArray 40)) w.heap.size cur0 40 := Row.new w.drew cur0 _
    have e4 : Ext w (w.drew.alloc (.cells cur0.toArray 40)) := (ext_drew w).alloc _
    generalize hw4 : w.drew.alloc (.cells cur0.toArray 40) = w4 at *
    refine ⟨⟨by omega, by omega, by omega⟩, ?_⟩
    rw [resl_lt (show A.length < c by omega), add_b]
    have hm1 : Nat.min 1 (n + 1 - A.length) = 1 := Nat.min_eq_left (by omega)
    refine ⟨w.heap.size, A.length * 3, cur0, 40, cL x, rfl, r4, by simp only [hm1]; rfl, cL_one x, .inr ⟨_, rfl, fun j u hj => (rv.ext e4).cell hj⟩, by rw [cL_len]; omega, ?_⟩
    have fit1 : A.length * 3 + (cL x).length ≤ cur0.length := by rw [cL_len]; omega
    have r6 := Row.put r4 (cur0.take (A.length * 3) ++ cL x ++ cur0.drop (A.length * 3 + (cL x).length))
    have len6 := seg_len fit1
    have tk6 := seg_take fit1
    have ch6 : Chg w.heap.size w4 _ := (Chg.refl w.heap.size w4).row (cur0.take (A.length * 3) ++ cL x ++ cur0.drop (A.length * 3 + (cL x).length)).toArray
    generalize (cur0.take (A.length * 3) ++ cL x ++ cur0.drop (A.length * 3 + (cL x).length)) = cur6 at *
    generalize hw6 : w4.setRow w.heap.size cur6.toArray = w6 at *
    rw [tk0, cL_len] at tk6
    intro w7 (e7 : Ext w6 w7)
    have r7 := r6.ext e7
    have hr7 : Row w7 g cur 40 := ((hr.ext e4).chg ch6 (by omega)).ext e7
    refine ⟨inR_i64 (by omega) (by omega), ⟨by omega, by omega, by omega⟩, ⟨by omega, by omega, by omega⟩, ?_⟩
    rw [resl_lt (show A.length + 1 < c by omega), add_b, resl_lt (show A.length < cap by omega), add_b]
    have hm2 : Nat.min (n - A.length) (n + 1 - (A.length + 1)) = B.length := by
      rw [show n - A.length = B.length by omega, show n + 1 - (A.length + 1) = B.length by omega]; exact Nat.min_self _
    refine ⟨w.heap.size, (A.length + 1) * 3, cur6, 40, B.flatMap cL, rfl, r7, by simp only [hm2]; omega, cL_ones B, .inr ⟨_, rfl, fun j u hj => ?_⟩, by rw [fB]; omega, ?_⟩
    · have := hr7.cell (getB j u hj)
      rw [← add_add', add_b g (A.length * 3)] at this
      exact this
    have fit2 : (A.length + 1) * 3 + (B.flatMap cL).length ≤ cur6.length := by omega
    have r9 := Row.put r7 (cur6.take ((A.length + 1) * 3) ++ B.flatMap cL ++ cur6.drop ((A.length + 1) * 3 + (B.flatMap cL).length))
    have len9 := seg_len fit2
    have tk9 := seg_take fit2
    have ch9 : Chg w.heap.size w7 _ := (Chg.refl w.heap.size w7).row (cur6.take ((A.length + 1) * 3) ++ B.flatMap cL ++ cur6.drop ((A.length + 1) * 3 + (B.flatMap cL).length)).toArray
    rw [fB, show (A.length + 1) * 3 = A.length * 3 + 3 by omega, tk6, show A.length * 3 + 3 + B.length * 3 = (n + 1) * 3 by omega] at tk9
    refine ⟨⟨some ⟨w.heap.size, 0, none⟩, n + 1, c⟩, rfl, Own.ofRowTake r9 hbase hcn hcmx (by omega) ?_ ?_, fun a ha hle => ?_⟩
    · rw [flatMap_len cL_len]; simp; omega
    · rw [finv, fB, show (A.length + 1) * 3 = A.length * 3 + 3 by omega, tk6, show A.length * 3 + 3 + B.length * 3 = (n + 1) * 3 by omega]; exact tk9
    · exact (((ha.trans e4).chg ch6 ha.size).trans e7).chg ch9 ha.size
  · simp only at g2
    refine ⟨inR_i64 (by first | omega | (simp only; omega)) (by first | omega | (simp only; omega)), ⟨by omega, by first | omega | (simp only; omega), by first | omega | (simp only; omega)⟩, inR_i64 (by first | omega | (simp only; omega)) (by first | omega | (simp only; omega)), ?_⟩
    have tz : (((n + 1 : Nat) : Int) - ((0 : Nat) : Int)).toNat = n + 1 := by omega
    simp only [Int.toNat_natCast, Int.toNat_zero, Nat.sub_zero, resl_zero, tA, tn, tz]
    refine ⟨⟨by omega, by omega, by omega⟩, ?_⟩
    rw [resl_lt (show A.length + 1 < cap by omega), add_b]
    refine (c_slices_overlaps ⟨g, (A.length + 1) * 3, none⟩ _ _ _ _ rv hr rfl hgv (fun e => by subst e; simp at hcl; omega)).mono ?_
    rintro _ _ ⟨rfl, rfl⟩
    refine ⟨_, rfl, br_t rfl (fun w13 e13 => ?_)⟩
    have hr13 := hr.ext e13
    have hrv13 := rv.ext e13
    refine ⟨inR_i64 (by omega) (by omega), ⟨by omega, by omega, by omega⟩, ⟨by omega, by omega, by omega⟩, ?_⟩
    rw [resl_lt (show A.length < cap by omega), add_b]
    have hm2 : Nat.min (n + 1 - A.length) (n + 1 - (A.length + 1)) = B.length := by
      rw [show n + 1 - (A.length + 1) = B.length by omega]; exact Nat.min_eq_right (by omega)
    refine ⟨g, (A.length + 1) * 3, cur, 40, B.flatMap cL, rfl, hr13, by simp only [hm2]; omega, cL_ones B, .inr ⟨_, rfl, fun j u hj => ?_⟩, by rw [fB]; omega, ?_⟩
    · have := hr13.cell (getB j u hj)
      rw [← add_add', add_b g (A.length * 3)] at this
      exact this
    have fit1 : (A.length + 1) * 3 + (B.flatMap cL).length ≤ cur.length := by omega
    have r15 := Row.put hr13 (cur.take ((A.length + 1) * 3) ++ B.flatMap cL ++ cur.drop ((A.length + 1) * 3 + (B.flatMap cL).length))
    have len15 := seg_len fit1
    have tk15 := seg_take fit1
    have tk15b := seg_take0 fit1
    have ch15 : Chg g w13 _ := (Chg.refl g w13).row (cur.take ((A.length + 1) * 3) ++ B.flatMap cL ++ cur.drop ((A.length + 1) * 3 + (B.flatMap cL).length)).toArray
    generalize (cur.take ((A.length + 1) * 3) ++ B.flatMap cL ++ cur.drop ((A.length + 1) * 3 + (B.flatMap cL).length)) = cur15 at *
    rw [fB] at tk15
    generalize hw15 : w13.setRow g cur15.toArray = w15 at *
    have rv15 := hrv13.chg ch15 hgv
    refine ⟨⟨by omega, by omega, by omega⟩, ?_⟩
    have hm1 : Nat.min 1 (n + 1 - A.length) = 1 := Nat.min_eq_left (by omega)
    refine ⟨g, A.length * 3, cur15, 40, cL x, rfl, r15, by simp only [hm1]; rfl, cL_one x, .inr ⟨_, rfl, fun j u hj => rv15.cell hj⟩, by rw [cL_len]; omega, ?_⟩
    have fit2 : A.length * 3 + (cL x).length ≤ cur15.length := by rw [cL_len]; omega
    have r17 := Row.put r15 (cur15.take (A.length * 3) ++ cL x ++ cur15.drop (A.length * 3 + (cL x).length))
    have len17 := seg_len fit2
    have ch17 := ch15.row (cur15.take (A.length * 3) ++ cL x ++ cur15.drop (A.length * 3 + (cL x).length)).toArray
    refine ⟨⟨some ⟨g, 0, none⟩, n + 1, cap⟩, rfl, Own.ofRowTake (by rw [← hw15] at r17 ⊢; exact r17) hb (by omega) hcm (by omega) ?_ ?_, fun a ha hle => ?_⟩
    · rw [flatMap_len cL_len]; simp; omega
    · have ka : cur15.take (A.length * 3) = A.flatMap cL := by
        have := congrArg (List.take (A.length * 3)) tk15b
        rw [List.take_take, List.take_take, Nat.min_eq_left (by omega)] at this
        rw [this, tkA]
      have kb : (cur15.drop (A.length * 3 + 3)).take (B.length * 3) = B.flatMap cL := by
        rw [List.take_drop]
        have h1 : cur15.take (A.length * 3 + 3 + B.length * 3) = cur.take ((A.length + 1) * 3) ++ B.flatMap cL := by
          rw [← tk15]; congr 1; omega
        rw [h1, List.drop_append_of_le_length (by simp only [List.length_take]; omega), List.drop_of_length_le (by simp only [List.length_take]; omega)]
        rfl
      rw [ka, cL_len, finv, show (n + 1) * 3 = (A.flatMap cL ++ cL x).length + B.length * 3 by simp only [List.length_append, fA, cL_len]; omega, List.take_length_add_append, kb]
    · have : w15.setRow g (cur15.take (A.length * 3) ++ cL x ++ cur15.drop (A.length * 3 + (cL x).length)).toArray = w15.setRow g (cur15.take (A.length * 3) ++ cL x ++ cur15.drop (A.length * 3 + (cL x).length)).toArray := rfl
      exact (ha.trans e13).chg (by rw [← hw15]; rw [← hw15] at ch17; exact ch17) (by omega)
end Go.Proofs
