/-
  What functions of this seat compute, part 'EntryLaws': contracts over their readable predicates. Conditions: each theorem's own hypotheses.
-/
import Derived.Test.YtiohmpihadcpaaaBase
import Derived.Test.YtiohmpihadcpaaaOpen
import Derived.Test.YtiohmpihadcpaaaGen
import Derived.Test.YtiohmpihadcpaaaCSmall
import Derived.Test.YtiohmpihadcpaaaCOrder
import Derived.Test.YtiohmpihadcpaaaCNode
import Derived.Test.YtiohmpihadcpaaaCNodeText
import Derived.Test.YtiohmpihadcpaaaCNodeValid
import Derived.Test.YtiohmpihadcpaaaCNodeSpec
import Derived.Test.YtiohmpihadcpaaaCHelpS
import Derived.Test.YtiohmpihadcpaaaCNodeHelp
import Derived.Test.YtiohmpihadcpaaaCNodeHelp2
import Derived.Test.YtiohmpihadcpaaaCNodeTop
import Derived.Test.YtiohmpihadcpaaaCNodeCmp
import Derived.Test.YtiohmpihadcpaaaCCells
import Derived.Test.YtiohmpihadcpaaaCEntry
import Derived.Test.YtiohmpihadcpaaaCEntry2
namespace Go.Proofs
open Go Go.Vc Go.RowKit
set_option maxRecDepth 100000
set_option linter.unusedVariables false
--! C:Small C:Order C:Node C:NodeText C:NodeValid C:NodeSpec C:HelpS C:NodeHelp C:NodeHelp2 C:NodeTop C:NodeCmp C:Cells C:Entry C:Entry2
/-! ## Keys are counted: the law -/

def okEns (xs : List En) : Bool := xs.all (fun x => vNd x.1) && decide (xs.length ≤ 10)
def sameK (a b : En) : Bool := decide (cmpN 5 a.1 b.1 = 0)
def one0 : Bool → Nat
  | true => 0
  | false => 1
def kcGo : List En → List En → Nat
  | _, [] => 0
  | pre, x :: r => one0 (pre.any fun y => sameK y x) + kcGo (pre ++ [x]) r
def kc (xs : List En) : Int := if okEns xs = true then (kcGo [] xs : Int) else -1

theorem kcGo_snoc : ∀ (l p : List En) (x : En), kcGo p (l ++ [x]) = kcGo p l + one0 ((p ++ l).any fun y => sameK y x)
  | [], p, x => by rw [List.append_nil]; simp [kcGo]
  | y :: l, p, x => by
    simp only [List.cons_append, kcGo]
    rw [kcGo_snoc l (p ++ [y]) x]
    simp only [List.append_assoc, List.cons_append, List.nil_append]
    omega
theorem kcGo_le : ∀ (l p : List En), kcGo p l ≤ l.length
  | [], p => by simp [kcGo]
  | y :: l, p => by
    have := kcGo_le l (p ++ [y])
    simp only [kcGo, List.length_cons]
    cases (p.any fun z => sameK z y) <;> simp only [one0] <;> omega

theorem okEns_all {xs : List En} (h : okEns xs = true) : (∀ x ∈ xs, shp 5 x.1 = true) ∧ xs.length ≤ 10 := by
  simp only [okEns, Bool.and_eq_true, List.all_eq_true, decide_eq_true_eq] at h
  exact ⟨fun x hx => vNd_shp (h.1 x hx), h.2⟩

theorem c_impl_areEntries {S : Nat → Prop} {w : World} {l : Sl} {xs : List En} (h : EnsAt S w l xs) :
    CallR Try.prog 33 [.slice l.a l.len l.cap] w (fun v w' => v = .bool (okEns xs) ∧ Ext w w') := by
  refine fn_impl_areEntries _ _ _ ?_
  unfold g_impl_areEntries
  have hk := h.slen
  refine br_d (fun h0 => ⟨?_, Ext.refl _⟩) (fun h0 => ?_)
  · have : decide (xs.length ≤ 10) = false := decide_eq_false (by omega)
    simp [okEns, this]
  refine sLoop_list xs (fun pre t w' => Ext w w' ∧ pre.all (fun x => vNd x.1) = true) ⟨Ext.refl _, rfl⟩ ?_ ?_
  · rintro K pre post x u w1 hx ⟨he, hp⟩ hK _
    have hm := mid_len hx
    obtain ⟨d, a, ha, hn, g0, g1, g2, g3, g4, g5⟩ := (h.ext he).at_ (mid_get hx)
    refine br_dt (by omega) (onSome_i ha ⟨⟨by omega, by omega⟩, ?_⟩)
    simp only [add_nought, exI g0, exI g1, exS g2, exL g3, exL g4, exS g5]
    refine local6c fun w2 r2 e2 => ?_
    have r2' : Row w2 w1.heap.size (cE (d, x.2)) 68 := r2
    obtain ⟨k0, k1, k2, k3, k4, k5⟩ := Row.en r2'
    simp only [exI k0, exI k1, exS k2, exL k3, exL k4]
    refine (c_impl_ValidNode (hn.ext e2)).go fun w3 e3 => ⟨_, rfl, br_i (fun g => ⟨?_, (he.trans e2).trans e3⟩) (fun g => ⟨inR_i64 (by omega) (by omega), hK _ _ ⟨(he.trans e2).trans e3, ?_⟩⟩)⟩
    · have g' : vNd x.1 = false := by simpa using g
      simp [okEns, hx, g']
    · have g' : vNd x.1 = true := by simpa using g
      rw [List.all_append, hp]; simp [g']
  · rintro K u w1 ⟨he, hp⟩ _
    have : decide (xs.length ≤ 10) = true := decide_eq_true (by omega)
    exact br_df (by omega) ⟨by simp only [okEns, hp, this]; rfl, he⟩

theorem c_spec_validEntries {S : Nat → Prop} {w : World} {l : Sl} {xs : List En} (h : EnsAt S w l xs) :
    CallR Try.prog 29 [.slice l.a l.len l.cap] w (fun v w' => v = .bool (okEns xs) ∧ Ext w w') := by
  refine fn_spec_validEntries _ _ _ ?_
  unfold g_spec_validEntries
  have hk := h.slen
  have hl := h.len
  unfold maxLen at hl
  refine sLoop_list xs (fun pre t w' => Ext w w' ∧ pre.all (fun x => vNd x.1) = true) ⟨Ext.refl _, rfl⟩ ?_ ?_
  · rintro K pre post x u w1 hx ⟨he, hp⟩ hK _
    have hm := mid_len hx
    obtain ⟨d, a, ha, hn, g0, g1, g2, g3, g4, g5⟩ := (h.ext he).at_ (mid_get hx)
    refine br_dt (by omega) (onSome_i ha ⟨⟨by omega, by omega⟩, ?_⟩)
    simp only [add_nought, exI g0, exI g1, exS g2, exL g3, exL g4, exS g5]
    refine (c_spec_validNode hn).go fun w3 e3 => ⟨_, rfl, br_i (fun g => ⟨?_, he.trans e3⟩) (fun g => ⟨inR_i64 (by omega) (by omega), hK _ _ ⟨he.trans e3, ?_⟩⟩)⟩
    · have g' : vNd x.1 = false := by simpa using g
      simp [okEns, hx, g']
    · have g' : vNd x.1 = true := by simpa using g
      rw [List.all_append, hp]; simp [g']
  · rintro K u w1 ⟨he, hp⟩ _
    refine br_df (by omega) ⟨?_, he⟩
    simp only [okEns, hp, Bool.true_and]
    congr 1
    rw [Bool.eq_iff_iff]; simp; omega

theorem c_impl_sameNode {S S' : Nat → Prop} {w : World} {ca cb : NdC} {a b : Nd} (ha : shp 5 a = true) (hb : shp 5 b = true) (h : NdAt S w ca a) (h' : NdAt S' w cb b) :
    CallR Try.prog 36 [ca.v, cb.v] w (fun v w' => v = .bool (decide (cmpN 5 a b = 0)) ∧ Ext w w') := by
  refine fn_impl_sameNode _ _ _ _ _ _ _ _ _ _ _ _ ?_
  unfold g_impl_sameNode
  refine ndStart fun w1 e1 r1 => ndStart fun w2 e2 r2 => ?_
  obtain ⟨k0, k1, k2, k3, k4⟩ := Row.nd (r1.ext e2)
  obtain ⟨m0, m1, m2, m3, m4⟩ := Row.nd r2
  simp only [exI k0, exI k1, exS k2, exL k3, exL k4, exI m0, exI m1, exS m2, exL m3, exL m4]
  exact (c_impl_compareValid 5 w2 ca cb a b ha hb (h.ext (e1.trans e2)) (h'.ext (e1.trans e2))).go fun w3 e3 => ⟨_, rfl, by congr 1, (e1.trans e2).trans e3⟩

theorem c_spec_same {S S' : Nat → Prop} {w : World} {ca cb : NdC} {a b : Nd} (ha : shp 5 a = true) (hb : shp 5 b = true) (h : NdAt S w ca a) (h' : NdAt S' w cb b) :
    CallR Try.prog 30 [ca.v, cb.v] w (fun v w' => v = .bool (decide (cmpN 5 a b = 0)) ∧ Ext w w') := by
  refine fn_spec_same _ _ _ _ _ _ _ _ _ _ _ _ ?_
  unfold g_spec_same
  refine ndStart fun w1 e1 r1 => ndStart fun w2 e2 r2 => ?_
  obtain ⟨k0, k1, k2, k3, k4⟩ := Row.nd (r1.ext e2)
  obtain ⟨m0, m1, m2, m3, m4⟩ := Row.nd r2
  simp only [exI k0, exI k1, exS k2, exL k3, exL k4, exI m0, exI m1, exS m2, exL m3, exL m4]
  exact (c_spec_compare 5 w2 ca cb a b ha hb (h.ext (e1.trans e2)) (h'.ext (e1.trans e2))).go fun w3 e3 => ⟨_, rfl, by congr 1, (e1.trans e2).trans e3⟩

theorem c_impl_KeyCount_1 {S S' : Nat → Prop} {w : World} {ca cb : NdC} {a b : En} {g : Nat} {T : TypeId} (ha : shp 5 a.1 = true) (hb : shp 5 b.1 = true) (h : NdAt S w ca a.1) (hr : Row w g (cE (cb, b.2)) T) (h' : NdAt S' w cb b.1) :
    CallR Try.prog 35 [evE ca a.2, .pointer (some ⟨g, 0, none⟩)] w (fun v w' => v = .bool (sameK a b) ∧ Ext w w') := by
  refine fn_impl_KeyCount_1 _ _ _ _ _ _ _ _ _ ?_
  unfold g_impl_KeyCount_1
  refine enBox fun w1 e1 r1 => ?_
  obtain ⟨k0, k1, k2, k3, k4, k5⟩ := Row.en r1
  obtain ⟨m0, m1, m2, m3, m4, m5⟩ := Row.en (hr.ext e1)
  simp only [add_nought, exI k0, exI k1, exS k2, exL k3, exL k4, exI m0, exI m1, exS m2, exL m3, exL m4]
  exact (c_impl_sameNode ha hb (h.ext e1) (h'.ext e1)).go fun w2 e2 => ⟨_, rfl, rfl, e1.trans e2⟩

theorem c_slices_ContainsFunc {S S' : Nat → Prop} {w : World} {l : Sl} {xs : List En} {cb : NdC} {b : En} {g : Nat} {T : TypeId} (h : EnsAt S w l xs) (hx5 : ∀ x ∈ xs, shp 5 x.1 = true) (hb : shp 5 b.1 = true) (hr : Row w g (cE (cb, b.2)) T) (h' : NdAt S' w cb b.1) :
    CallR Try.prog 34 [.slice l.a l.len l.cap, .func (.func 35) #[] #[.pointer (some ⟨g, 0, none⟩)]] w (fun v w' => v = .bool (xs.any fun y => sameK y b) ∧ Ext w w') := by
  refine fn_slices_ContainsFunc _ _ _ _ _ ?_
  unfold g_slices_ContainsFunc
  have hk := h.slen
  have hl := h.len
  unfold maxLen at hl
  suffices H : CallR Try.prog 53 [.slice l.a l.len l.cap, .func (.func 35) #[] #[.pointer (some ⟨g, 0, none⟩)]] w (fun v w' => (∃ n : Int, v = .int .i64 n ∧ (decide (n ≥ 0) = xs.any fun y => sameK y b)) ∧ Ext w w') by
    refine H.mono ?_
    rintro v w1 ⟨⟨n, rfl, hn⟩, e⟩
    exact ⟨n, rfl, by rw [hn], e⟩
  refine fn_slices_IndexFunc _ _ _ _ _ ?_
  unfold g_slices_IndexFunc
  refine sLoop_list xs (fun pre t w' => Ext w w' ∧ pre.any (fun y => sameK y b) = false) ⟨Ext.refl _, rfl⟩ ?_ ?_
  · rintro K pre post x u w1 hx ⟨he, hp⟩ hK _
    have hm := mid_len hx
    obtain ⟨d, a, ha, hn, g0, g1, g2, g3, g4, g5⟩ := (h.ext he).at_ (mid_get hx)
    refine br_dt (by omega) (onSome_i ha ⟨⟨by omega, by omega⟩, ?_⟩)
    simp only [add_nought, exI g0, exI g1, exS g2, exL g3, exL g4, exS g5]
    refine (c_impl_KeyCount_1 (a := x) (b := b) (hx5 x (by rw [hx]; simp)) hb hn (hr.ext he) (h'.ext he)).go fun w2 e2 => ⟨_, rfl, br_i (fun gg => ⟨⟨_, rfl, ?_⟩, he.trans e2⟩) (fun gg => ⟨inR_i64 (by omega) (by omega), hK _ _ ⟨he.trans e2, ?_⟩⟩)⟩
    · rw [hx, List.any_append, List.any_cons, gg]; simp
    · rw [List.any_append, hp]; simp [gg]
  · rintro K u w1 ⟨he, hp⟩ _
    exact br_df (by omega) ⟨⟨_, rfl, by rw [hp]; rfl⟩, he⟩

theorem EnsAt.take {S : Nat → Prop} {w : World} {l : Sl} {xs : List En} (h : EnsAt S w l xs) {k : Nat} (hk : k ≤ l.len) : EnsAt S w ⟨l.a, k, l.cap⟩ (xs.take k) := by
  obtain ⟨⟨cs, h1, h2, h3⟩, h4, h5⟩ := h
  refine ⟨⟨cs.take k, h1.front hk, by simp [h2], fun i d x hd hx => ?_⟩, by simp; omega, fun x hx => h5 x (List.mem_of_mem_take hx)⟩
  rw [List.getElem?_take] at hd hx
  split at hd
  · rename_i hi
    rw [if_pos hi] at hx
    exact h3 i d x hd hx
  · cases hd

theorem c_impl_KeyCount {S : Nat → Prop} {w : World} {l : Sl} {xs : List En} (h : EnsAt S w l xs) :
    CallR Try.prog 18 [.slice l.a l.len l.cap] w (fun v w' => v = .int .i64 (kc xs) ∧ Ext w w') := by
  refine fn_impl_KeyCount _ _ _ ?_
  unfold g_impl_KeyCount
  have hk := h.slen
  refine (c_impl_areEntries h).go fun w1 e1 => ⟨_, rfl, br_i (fun g => ⟨?_, e1⟩) (fun g => ?_)⟩
  · have g' : okEns xs = false := by simpa using g
    simp [kc, g']
  have hok : okEns xs = true := by simpa using g
  obtain ⟨h5, h10⟩ := okEns_all hok
  refine sLoop_list xs (fun pre t w' => Ext w1 w' ∧ t.1 = (kcGo [] pre : Int)) ⟨Ext.refl _, rfl⟩ ?_ ?_
  · rintro K pre post x ⟨t, u⟩ w2 hx ⟨he, ht⟩ hK _
    simp only at ht
    subst ht
    dsimp only
    have hm := mid_len hx
    have hkl := kcGo_le pre []
    obtain ⟨d, a, ha, hn, g0, g1, g2, g3, g4, g5⟩ := (h.ext (e1.trans he)).at_ (mid_get hx)
    refine br_dt (by omega) (onSome_i ha ⟨⟨by omega, by omega⟩, ?_⟩)
    simp only [add_nought, exI g0, exI g1, exS g2, exL g3, exL g4, exS g5]
    refine local6c fun w3 r3 e3 => ⟨⟨by omega, by omega, by omega⟩, ?_⟩
    have r3' : Row w3 w2.heap.size (cE (d, x.2)) 68 := r3
    have er : resl l.a l.cap (0 : Int).toNat 6 = l.a := resl_zero _ _ _
    rw [er]
    have hpre : EnsAt S w3 ⟨l.a, pre.length, l.cap⟩ pre := by
      have := ((h.ext (e1.trans he)).ext e3).take (k := pre.length) (by omega)
      rwa [hx, List.take_left] at this
    have hsub : ((pre.length : Int).toNat - (0 : Int).toNat) = pre.length := by simp
    have hsub2 : l.cap - (0 : Int).toNat = l.cap := by simp
    rw [hsub, hsub2]
    refine (c_slices_ContainsFunc (b := x) hpre (fun y hy => h5 y (by rw [hx]; simp [hy])) (h5 x (by rw [hx]; simp)) r3' (hn.ext e3)).go fun w4 e4 => ⟨_, rfl, ?_⟩
    have hsn := kcGo_snoc pre [] x
    simp only [List.nil_append] at hsn
    have e24 := (he.trans e3).trans e4
    refine br_i (fun hb => ⟨inR_i64 (by omega) (by omega), inR_i64 (by omega) (by omega), hK _ _ ⟨e24, ?_⟩⟩) (fun hb => ⟨inR_i64 (by omega) (by omega), hK _ _ ⟨e24, ?_⟩⟩)
    · have : (pre.any fun y => sameK y x) = false := by simpa using hb
      rw [this] at hsn
      simp only [hsn]; simp [one0]
    · have : (pre.any fun y => sameK y x) = true := by simpa using hb
      rw [this] at hsn
      simp only [hsn]; simp [one0]
  · rintro K ⟨t, u⟩ w2 ⟨he, ht⟩ _
    simp only at ht
    subst ht
    exact br_df (by omega) ⟨by simp [kc, hok], e1.trans he⟩

theorem c_spec_KeyCount {S : Nat → Prop} {w : World} {l : Sl} {xs : List En} (h : EnsAt S w l xs) :
    CallR Try.prog 16 [.slice l.a l.len l.cap] w (fun v w' => v = .int .i64 (kc xs) ∧ Ext w w') := by
  refine fn_spec_KeyCount _ _ _ ?_
  unfold g_spec_KeyCount
  have hk := h.slen
  refine (c_spec_validEntries h).go fun w1 e1 => ⟨_, rfl, br_i (fun g => ⟨?_, e1⟩) (fun g => ?_)⟩
  · have g' : okEns xs = false := by simpa using g
    simp [kc, g']
  have hok : okEns xs = true := by simpa using g
  obtain ⟨h5, h10⟩ := okEns_all hok
  refine sLoop_list xs (fun pre t w' => Ext w1 w' ∧ t.1 = (kcGo [] pre : Int)) ⟨Ext.refl _, rfl⟩ ?_ ?_
  · rintro K pre post x ⟨t, u⟩ w2 hx ⟨he, ht⟩ hK _
    simp only at ht
    subst ht
    dsimp only
    have hm := mid_len hx
    have hkl := kcGo_le pre []
    refine br_dt (by omega) ?_
    refine sLoop_list pre (fun p t w' => Ext w2 w' ∧ t.1 = !(p.any fun y => sameK y x)) ⟨Ext.refl _, rfl⟩ ?_ ?_
    · rintro K' p q y ⟨t', u'⟩ w3 hy ⟨he3, ht'⟩ hK' _
      simp only at ht'
      subst ht'
      dsimp only
      have hm' := mid_len hy
      refine br_dt (by omega) fun w4 e4 => ?_
      have e14 := (e1.trans he).trans (he3.trans e4)
      refine br_i (fun hb => ?_) (fun hb => ⟨inR_i64 (by omega) (by omega), hK' _ _ ⟨he3.trans e4, ?_⟩⟩)
      · obtain ⟨d, a, ha, hn, g0, g1, g2, g3, g4, g5⟩ := (h.ext e14).at_ (i := p.length) (x := y) (by rw [hx, hy]; simp)
        obtain ⟨d', a', ha', hn', q0, q1, q2, q3, q4, q5⟩ := (h.ext e14).at_ (mid_get hx)
        refine onSome_i ha ⟨⟨by omega, by omega⟩, ?_⟩
        simp only [add_nought, exI g0, exI g1, exS g2, exL g3, exL g4]
        refine onSome_i ha' ⟨⟨by omega, by omega⟩, ?_⟩
        simp only [add_nought, exI q0, exI q1, exS q2, exL q3, exL q4]
        refine (c_spec_same (h5 y (by rw [hx, hy]; simp)) (h5 x (by rw [hx]; simp)) hn hn').go fun w5 e5 => ⟨_, rfl, inR_i64 (by omega) (by omega), hK' _ _ ⟨(he3.trans e4).trans e5, ?_⟩⟩
        have : (p.any fun y => sameK y x) = false := by simpa using hb
        rw [List.any_append, this]; simp [sameK]
      · have : (p.any fun y => sameK y x) = true := by simpa using hb
        rw [List.any_append, this]; rfl
    · rintro K' ⟨t', u'⟩ w3 ⟨he3, ht'⟩ _
      simp only at ht'
      subst ht'
      dsimp only
      refine br_df (by omega) ((c_spec_toInt _ w3).go fun w4 e4 => ⟨_, rfl, ?_⟩)
      have hsn := kcGo_snoc pre [] x
      simp only [List.nil_append] at hsn
      refine ⟨?_, inR_i64 (by omega) (by omega), hK _ _ ⟨(he.trans he3).trans e4, ?_⟩⟩
      · cases (pre.any fun y => sameK y x) <;> exact inR_i64 (by simp <;> omega) (by simp <;> omega)
      · simp only [hsn]
        cases (pre.any fun y => sameK y x) <;> simp [one0]
  · rintro K ⟨t, u⟩ w2 ⟨he, ht⟩ _
    simp only at ht
    subst ht
    exact br_df (by omega) ⟨by simp [kc, hok], e1.trans he⟩

theorem c_laws_FnExactKeyCount {w : World} {s : Sl} {xs : List En} (h : EnsAt (fun _ => True) w s xs) (_ : s.cap ≤ maxLen) (_ : True) :
    CallR Try.prog 6 [.slice s.a s.len s.cap] w (fun v w' => v = .bool true ∧ Ext w w') := by
  refine fn_laws_FnExactKeyCount _ _ _ ?_
  unfold g_laws_FnExactKeyCount
  refine (c_laws_szEntryS _ h (by omega) (by omega)).mono ?_
  rintro _ w1 ⟨hv, e1⟩
  rcases hv with rfl | ⟨rfl, hpos⟩
  · exact ⟨_, rfl, br_dt (by omega) ⟨rfl, e1⟩⟩
  refine ⟨_, rfl, br_df (by omega) ?_⟩
  have hz : xs.length + mzEs xs ≤ 1048576 := by omega
  refine c_laws_toEntryS (h.ext e1) hz fun x0 w2 h2 e2 => ⟨x0, rfl, ?_⟩
  have e02 := e1.trans e2
  refine (c_spec_KeyCount h2).go fun w3 e3 => ⟨_, rfl, ?_⟩
  have e03 := e02.trans e3
  refine c_laws_toEntryS (h.ext e03) hz fun x1 w4 h4 e4 => ⟨x1, rfl, ?_⟩
  have e04 := e03.trans e4
  refine (c_impl_KeyCount h4).go fun w5 e5 => ⟨_, rfl, br_f (by simp) ?_⟩
  have e05 := e04.trans e5
  refine c_laws_toEntryS (h.ext e05) hz fun x2 w6 h6 e6 => ⟨x2, rfl, ?_⟩
  have e06 := e05.trans e6
  exact (c_laws_eqEntryS ((h4.ext e5).ext e6) h6).go fun w7 e7 => ⟨_, rfl, br_f (by simp) ⟨rfl, e06.trans e7⟩⟩
end Go.Proofs
