/-
  What functions of this seat compute, part 'NodeCmp': contracts over their readable predicates. Conditions: each theorem's own hypotheses.
-/
import Derived.Test.YtiohmpihadcpaaaBase
import Derived.Test.YtiohmpihadcpaaaOpen
import Derived.Test.YtiohmpihadcpaaaGen
import Derived.Test.YtiohmpihadcpaaaCSmall
import Derived.Test.YtiohmpihadcpaaaCOrder
import Derived.Test.YtiohmpihadcpaaaCNode
import Derived.Test.YtiohmpihadcpaaaCNodeText
import Derived.Test.YtiohmpihadcpaaaCNodeValid
import Derived.Test.YtiohmpihadcpaaaCNodeSpec
import Derived.Test.YtiohmpihadcpaaaCNodeTop
import Derived.Test.YtiohmpihadcpaaaShelf
namespace Go.Proofs
open Go Go.Vc Go.RowKit
set_option maxRecDepth 100000
set_option linter.unusedVariables false
--! C:Small C:Order C:Node C:NodeText C:NodeValid C:NodeSpec C:NodeTop S
/-! ## Nodes compared -/

theorem cmp_val : ∀ a b : List UInt8, Lib.compareBytes a b = if Op.bytesLess a b = true then -1 else if Op.bytesLess b a = true then 1 else 0
  | [], [] => by simp [Lib.compareBytes, Op.bytesLess]
  | [], _ :: _ => by simp [Lib.compareBytes, Op.bytesLess]
  | _ :: _, [] => by simp [Lib.compareBytes, Op.bytesLess]
  | a :: x, b :: y => by
    simp only [Lib.compareBytes, Op.bytesLess]
    by_cases h : a < b
    · simp [h]
    · by_cases k : b < a
      · have hne : ¬ a = b := fun e => by subst e; exact UInt8.lt_irrefl _ k
        simp [h, k, hne]
      · have he : a = b := UInt8.le_antisymm (UInt8.not_lt.1 k) (UInt8.not_lt.1 h)
        subst he
        simp only [UInt8.lt_irrefl, if_false, decide_false, Bool.false_or, beq_self_eq_true, Bool.true_and]
        exact cmp_val x y

theorem sltB_data (a b : ByteArray) : sltB a b = Op.bytesLess a.data.toList b.data.toList := by
  show Op.bytesLess a.toList b.toList = _
  rw [toList_eq, toList_eq]

def sgnI (p q : Int) : Int := if p < q then -1 else if p > q then 1 else 0
def sgnB (a b : ByteArray) : Int := Lib.compareBytes a.data.toList b.data.toList

theorem sgnB_val (a b : ByteArray) : sgnB a b = if sltB a b = true then -1 else if sltB b a = true then 1 else 0 := by
  rw [sgnB, cmp_val, sltB_data, sltB_data]
theorem sgnI_ne {p q : Int} : sgnI p q ≠ 0 ↔ p ≠ q := by
  unfold sgnI; split
  · constructor <;> intro _ <;> omega
  · split
    · constructor <;> intro _ <;> omega
    · constructor
      · intro h; exact absurd rfl h
      · intro h; omega
theorem sgnB_ne {a b : ByteArray} : sgnB a b ≠ 0 ↔ a ≠ b := by
  rw [sgnB_val]
  constructor
  · rintro h rfl
    simp [slt_irrefl] at h
  · intro h
    cases h1 : sltB a b with
    | true => simp
    | false =>
      cases h2 : sltB b a with
      | true => simp
      | false => exact absurd (slt_total h1 h2) h

theorem c_spec_toInt (b : Bool) (w : World) : CallR Try.prog 31 [.bool b] w (fun v w' => v = .int .i64 (if b = true then 1 else 0) ∧ Ext w w') := by
  refine fn_spec_toInt _ _ _ ?_
  unfold g_spec_toInt
  exact br_i (fun g => ⟨by rw [g]; rfl, Ext.refl _⟩) (fun g => ⟨by rw [g]; rfl, Ext.refl _⟩)

theorem c_spec_order (p q : Int) (w : World) : CallR Try.prog 67 [.int .i64 p, .int .i64 q] w (fun v w' => v = .int .i64 (sgnI p q) ∧ Ext w w') := by
  refine fn_spec_order _ _ _ _ ?_
  unfold g_spec_order
  refine (c_spec_toInt _ w).go fun w1 e1 => ⟨_, rfl, (c_spec_toInt _ w1).go fun w2 e2 => ⟨_, rfl, ?_, ?_, e1.trans e2⟩⟩
  · refine inR_i64 ?_ ?_ <;> (split <;> split <;> omega)
  · congr 1
    unfold sgnI
    simp only [decide_eq_true_eq]
    split <;> split <;> (try split) <;> omega

theorem c_spec_orderText (a b : ByteArray) (w : World) : CallR Try.prog 68 [.string a, .string b] w (fun v w' => v = .int .i64 (sgnB a b) ∧ Ext w w') := by
  refine fn_spec_orderText _ _ _ _ ?_
  unfold g_spec_orderText
  rw [sle_not, Bool.not_not]
  refine (c_spec_toInt _ w).go fun w1 e1 => ⟨_, rfl, (c_spec_toInt _ w1).go fun w2 e2 => ⟨_, rfl, ?_, ?_, e1.trans e2⟩⟩
  · refine inR_i64 ?_ ?_ <;> (split <;> split <;> omega)
  · congr 1
    rw [sgnB_val]
    cases h1 : sltB a b with
    | true => rw [slt_asymm h1]; simp
    | false => cases h2 : sltB b a <;> simp

theorem c_cmp_isNaN (p : Int) (w : World) : CallR Try.prog 85 [.int .i64 p] w (fun v w' => v = .bool false ∧ Ext w w') := by
  refine fn_cmp_isNaN _ _ _ ?_
  unfold g_cmp_isNaN
  exact ⟨by simp, Ext.refl _⟩

theorem c_cmp_Compare (p q : Int) (w : World) : CallR Try.prog 71 [.int .i64 p, .int .i64 q] w (fun v w' => v = .int .i64 (sgnI p q) ∧ Ext w w') := by
  refine fn_cmp_Compare _ _ _ _ ?_
  unfold g_cmp_Compare
  refine (c_cmp_isNaN _ w).go fun w1 e1 => ⟨_, rfl, (c_cmp_isNaN _ w1).go fun w2 e2 => ⟨_, rfl, ?_⟩⟩
  rw [brF, brF]
  have e := e1.trans e2
  unfold sgnI
  refine br_d (fun h => ⟨by rw [if_pos h], e⟩) (fun h => br_d (fun h' => ⟨by rw [if_neg h, if_pos h'], e⟩) (fun h' => ⟨by rw [if_neg h, if_neg h'], e⟩))

theorem c_strings_Compare (a b : ByteArray) (w : World) : CallR Try.prog 72 [.string a, .string b] w (fun v w' => v = .int .i64 (sgnB a b) ∧ Ext w w') :=
  .inl ⟨by kernel_rfl, (Try.strings_Compare a b w).mono fun e w' ⟨h1, h2⟩ => ⟨_, h1, rfl, by rw [h2]; exact Ext.refl _⟩⟩

def cmpL (f : Nd → Nd → Int) (g : Nat → Int) (r : Int) : Nat → List Nd → List Nd → Int
  | i, p :: ps, q :: qs => if g i ≠ 0 then g i else if f p q ≠ 0 then f p q else cmpL f g r (i + 1) ps qs
  | _, _, _ => r

theorem cmpL_nil (f : Nd → Nd → Int) (g : Nat → Int) (r : Int) (i : Nat) (ps : List Nd) : cmpL f g r i ps [] = r := by
  cases ps <;> rfl

def nmB (a b : Nd) (i : Nat) : Int := if a.k = 4 then sgnB ((a.ns[i]?).getD ⟨#[]⟩) ((b.ns[i]?).getD ⟨#[]⟩) else 0

def cmpN : Nat → Nd → Nd → Int
  | 0, _, _ => 0
  | d + 1, a, b => if sgnI a.k b.k ≠ 0 then sgnI a.k b.k else if sgnI a.m b.m ≠ 0 then sgnI a.m b.m else if sgnB a.t b.t ≠ 0 then sgnB a.t b.t else cmpL (cmpN d) (nmB a b) (sgnI a.ks.length b.ks.length) 0 a.ks b.ks

theorem parts_map {n : Nd} (h : parts n = true) (h4 : n.k = 4) : n.ks.length = n.ns.length := by
  simp only [parts, partsC, Bool.and_eq_true] at h
  have h2 := h.2
  rw [if_neg (by omega), if_neg (by omega), if_neg (by omega), if_neg (by omega), if_pos h4] at h2
  simp only [Bool.and_eq_true, decide_eq_true_eq] at h2
  exact h2.2

theorem shp_parts {d : Nat} {n : Nd} (h : shp (d + 1) n = true) : parts n = true ∧ ∀ x ∈ n.ks, shp d x = true := by
  simp only [shp, Bool.and_eq_true, List.all_eq_true] at h; exact h

set_option maxHeartbeats 2000000 in
theorem c_impl_compareValid {S S' : Nat → Prop} : ∀ (d : Nat) (w : World) (ca cb : NdC) (a b : Nd), shp d a = true → shp d b = true → NdAt S w ca a → NdAt S' w cb b →
    CallR Try.prog 54 [ca.v, cb.v] w (fun v w' => v = .int .i64 (cmpN d a b) ∧ Ext w w') := by
  intro d
  induction d with
  | zero => intro w ca cb a b h; cases h
  | succ d ih =>
    intro w ca cb a b hsa' hsb' ha hb
    refine fn_impl_compareValid _ _ _ _ _ _ _ _ _ _ _ _ ?_
    unfold g_impl_compareValid
    refine ndStart fun w1 e1 r1 => ndStart fun w2 e2 r2 => ?_
    obtain ⟨k0, k1, k2, k3, k4⟩ := Row.nd (r1.ext e2)
    obtain ⟨m0, m1, m2, m3, m4⟩ := Row.nd r2
    have e02 := e1.trans e2
    obtain ⟨oka, oma, ota, _⟩ := ha.out
    obtain ⟨okb, omb, otb, _⟩ := hb.out
    rw [exI k0, exI m0]
    refine (c_cmp_Compare _ _ w2).go fun w6 e6 => ⟨_, rfl, br_i (fun g => ⟨?_, e02.trans e6⟩) (fun hk0 => ?_)⟩
    · rw [cmpN, ← oka, ← okb, if_pos (by simpa using g)]
    have hk1 : sgnI a.k b.k = 0 := by rw [← oka, ← okb]; simpa using hk0
    rw [exI (e6.get k1), exI (e6.get m1)]
    refine (c_cmp_Compare _ _ w6).go fun w11 e11 => ⟨_, rfl, br_i (fun g => ⟨?_, (e02.trans e6).trans e11⟩) (fun hm0 => ?_)⟩
    · rw [cmpN, if_neg (by simpa using hk1), ← oma, ← omb, if_pos (by simpa using g)]
    have hm1 : sgnI a.m b.m = 0 := by rw [← oma, ← omb]; simpa using hm0
    have e211 := e6.trans e11
    rw [exS (e211.get k2), exS (e211.get m2)]
    refine (c_strings_Compare _ _ w11).go fun w16 e16 => ⟨_, rfl, br_i (fun g => ⟨?_, (e02.trans e211).trans e16⟩) (fun ht0 => ?_)⟩
    · rw [cmpN, if_neg (by simpa using hk1), if_neg (by simpa using hm1), ← ota, ← otb, if_pos (by simpa using g)]
    have ht1 : sgnB a.t b.t = 0 := by rw [← ota, ← otb]; simpa using ht0
    have hkk : a.k = b.k := Classical.not_not.1 fun h => sgnI_ne.2 h hk1
    have hmm : a.m = b.m := Classical.not_not.1 fun h => sgnI_ne.2 h hm1
    have htt : a.t = b.t := Classical.not_not.1 fun h => sgnB_ne.2 h ht1
    clear hk0 hm0 ht0
    have hk0 := hkk
    have hm0 := hmm
    have ht0 := htt
    have e216 := e211.trans e16
    have hda := shp_parts hsa'
    have hdb := shp_parts hsb'
    have hka := ha.klen
    have hkb := hb.klen
    have hma := ha.out.2.2.2.2.2.2.1
    have hmb := hb.out.2.2.2.2.2.2.1
    unfold maxLen at hma hmb
    have hT : cmpN (d + 1) a b = cmpL (cmpN d) (nmB a b) (sgnI a.ks.length b.ks.length) 0 a.ks b.ks := by
      rw [cmpN, if_neg (by rw [sgnI_ne]; simpa using hk0), if_neg (by rw [sgnI_ne]; simpa using hm0), if_neg (by rw [sgnB_ne]; simpa using ht0)]
    rw [hT]
    have fin : ∀ w9, Ext w2 w9 → ∀ R : Int, R = sgnI a.ks.length b.ks.length → CallR Try.prog 71 [.int .i64 (ca.sk.len : Int), .int .i64 (cb.sk.len : Int)] w9 (fun r w' => ∃ n : Int, r = .int .i64 n ∧ (Value.int .i64 n = .int .i64 R ∧ Ext w w')) := fun w9 e9 R hR =>
      (c_cmp_Compare _ _ w9).go fun w10 e10 => ⟨_, rfl, by rw [hR, hka.1, hkb.1], (e02.trans e9).trans e10⟩
    refine sLoop_list a.ks (fun pre _ w' => Ext w2 w' ∧ cmpL (cmpN d) (nmB a b) (sgnI a.ks.length b.ks.length) 0 a.ks b.ks = cmpL (cmpN d) (nmB a b) (sgnI a.ks.length b.ks.length) pre.length (a.ks.drop pre.length) (b.ks.drop pre.length)) ⟨e216, by simp⟩ ?_ ?_
    · intro K pre post x t w3 hx ⟨he, hc⟩ hK _
      have hl := mid_len hx
      have hd1 : a.ks.drop pre.length = x :: post := by rw [hx]; simp
      have hda1 : post = a.ks.drop (pre ++ [x]).length := by rw [hx]; simp
      have hsx := hda.2 x (by rw [hx]; simp)
      simp only [exL (he.get k4), exL (he.get m4), exI (he.get k0)]
      refine br_dt (by first | omega | (simp only; omega)) (br_d (fun hib => ?_) (fun hib => ?_))
      · have hib' : pre.length < b.ks.length := by first | omega | (simp only at hib; omega)
        obtain ⟨y, hy⟩ : ∃ y, b.ks[pre.length]? = some y := ⟨_, List.getElem?_eq_getElem hib'⟩
        have hsy := hdb.2 y (List.mem_of_getElem? hy)
        have hd2 : b.ks.drop pre.length = y :: b.ks.drop (pre.length + 1) := by
          rw [List.drop_eq_getElem_cons hib']
          congr 1
          rw [List.getElem?_eq_getElem hib'] at hy
          exact Option.some.inj hy
        have hdb1 : b.ks.drop (pre.length + 1) = b.ks.drop (pre ++ [x]).length := by simp
        have hR := hc
        rw [hd1, hd2, cmpL] at hR
        have hlen : pre.length + 1 = (pre ++ [x]).length := by simp
        rw [show cmpL (cmpN d) (nmB a b) (sgnI a.ks.length b.ks.length) (pre.length + 1) post (b.ks.drop (pre.length + 1)) = cmpL (cmpN d) (nmB a b) (sgnI a.ks.length b.ks.length) (pre ++ [x]).length post (b.ks.drop (pre.length + 1)) by rw [hlen]] at hR
        simp only [beqI]
        refine br_d (fun h4 => ?_) (fun h4 => fun w5 (e5 : Ext w3 w5) => ?_)
        · refine fun w5 (e5 : Ext w3 w5) => ?_
          have e25 := he.trans e5
          have h4a : a.k = 4 := by rw [← ha.out.1]; exact h4
          have h4b : b.k = 4 := by rw [← hkk]; exact h4a
          have la := parts_map hda.1 h4a
          have lb := parts_map hdb.1 h4b
          have na : a.ns[pre.length]? = some (a.ns[pre.length]'(by omega)) := List.getElem?_eq_getElem (by omega)
          have nb : b.ns[pre.length]? = some (b.ns[pre.length]'(by omega)) := List.getElem?_eq_getElem (by omega)
          have hgi : nmB a b pre.length = sgnB (a.ns[pre.length]'(by omega)) (b.ns[pre.length]'(by omega)) := by rw [nmB, if_pos h4a, na, nb]; rfl
          obtain ⟨pa, hpa, ua⟩ := SlOf.cell1 (ha.out.2.2.2.1.ext (e02.trans e25)) cS_len na rfl
          obtain ⟨pb, hpb, ub⟩ := SlOf.cell1 (hb.out.2.2.2.1.ext (e02.trans e25)) cS_len nb rfl
          rw [exL (e25.get k3)]
          refine onSome_i hpa ⟨⟨by first | omega | (simp only; omega), by first | omega | (simp only; omega)⟩, ?_⟩
          simp only [exS ua]
          rw [exL (e25.get m3)]
          refine onSome_i hpb ⟨⟨by first | omega | (simp only; omega), by first | omega | (simp only; omega)⟩, ?_⟩
          simp only [exS ub]
          refine (c_strings_Compare _ _ w5).go fun w6 e6 => ⟨_, rfl, br_i (fun g => ⟨?_, (e02.trans e25).trans e6⟩) (fun g => fun w8 (e8 : Ext w6 w8) => ?_)⟩
          · have g' : nmB a b pre.length ≠ 0 := by rw [hgi]; simpa using g
            rw [hR, if_pos g', hgi]
          have hg0 : nmB a b pre.length = 0 := by rw [hgi]; simpa using g
          have e28 := (e25.trans e6).trans e8
          obtain ⟨_, dx, ax, hsa, hdx, g0, g1, g2, g3, g4⟩ := (ha.ext (e02.trans e28)).kid (i := pre.length) (mid_get hx)
          obtain ⟨_, dy, ay, hsb, hdy, f0, f1, f2, f3, f4⟩ := (hb.ext (e02.trans e28)).kid (i := pre.length) hy
          rw [exL (e28.get k4)]
          refine onSome_i hsa ⟨⟨by first | omega | (simp only; omega), by first | omega | (simp only; omega)⟩, ?_⟩
          simp only [exI g0, exI g1, exS g2, exL g3, exL g4]
          rw [exL (e28.get m4)]
          refine onSome_i hsb ⟨⟨by first | omega | (simp only; omega), by first | omega | (simp only; omega)⟩, ?_⟩
          simp only [exI f0, exI f1, exS f2, exL f3, exL f4]
          refine (ih w8 dx dy x y hsx hsy hdx hdy).go fun w7 e7 => ⟨_, rfl, br_i (fun g => ⟨?_, (e02.trans e28).trans e7⟩) (fun g => ⟨inR_i64 (by omega) (by omega), hK _ _ ⟨e28.trans e7, ?_⟩⟩)⟩
          · have g' : cmpN d x y ≠ 0 := by simpa using g
            rw [hR, if_neg (by simpa using hg0), if_pos g']
          · have g' : cmpN d x y = 0 := by simpa using g
            rw [hR, if_neg (by simpa using hg0), if_neg (by simpa using g')]
            rw [hda1, hdb1]
        · have hg0 : nmB a b pre.length = 0 := by rw [nmB, if_neg (by rw [← ha.out.1]; exact h4)]
          have e25 := he.trans e5
          obtain ⟨_, dx, ax, hsa, hdx, g0, g1, g2, g3, g4⟩ := (ha.ext (e02.trans e25)).kid (i := pre.length) (mid_get hx)
          obtain ⟨_, dy, ay, hsb, hdy, f0, f1, f2, f3, f4⟩ := (hb.ext (e02.trans e25)).kid (i := pre.length) hy
          rw [exL (e25.get k4)]
          refine onSome_i hsa ⟨⟨by first | omega | (simp only; omega), by first | omega | (simp only; omega)⟩, ?_⟩
          simp only [exI g0, exI g1, exS g2, exL g3, exL g4]
          rw [exL (e25.get m4)]
          refine onSome_i hsb ⟨⟨by first | omega | (simp only; omega), by first | omega | (simp only; omega)⟩, ?_⟩
          simp only [exI f0, exI f1, exS f2, exL f3, exL f4]
          refine (ih w5 dx dy x y hsx hsy hdx hdy).go fun w7 e7 => ⟨_, rfl, br_i (fun g => ⟨?_, (e02.trans e25).trans e7⟩) (fun g => ⟨inR_i64 (by omega) (by omega), hK _ _ ⟨e25.trans e7, ?_⟩⟩)⟩
          · have g' : cmpN d x y ≠ 0 := by simpa using g
            rw [hR, if_neg (by simpa using hg0), if_pos g']
          · have g' : cmpN d x y = 0 := by simpa using g
            rw [hR, if_neg (by simpa using hg0), if_neg (by simpa using g')]
            rw [hda1, hdb1]
      · have hd2 : b.ks.drop pre.length = [] := List.drop_eq_nil_of_le (by first | omega | (simp only at hib; omega))
        rw [hd2, cmpL_nil] at hc
        exact fin w3 he _ hc
    · intro K t w3 ⟨he, hc⟩ _
      simp only [exL (he.get k4), exL (he.get m4), exI (he.get k0)]
      refine br_df (by first | omega | (simp only; omega)) ?_
      have hd2 : a.ks.drop a.ks.length = [] := List.drop_length
      rw [hd2] at hc
      exact fin w3 he _ hc

set_option maxHeartbeats 2000000 in
theorem c_spec_compare {S S' : Nat → Prop} : ∀ (d : Nat) (w : World) (ca cb : NdC) (a b : Nd), shp d a = true → shp d b = true → NdAt S w ca a → NdAt S' w cb b →
    CallR Try.prog 51 [ca.v, cb.v] w (fun v w' => v = .int .i64 (cmpN d a b) ∧ Ext w w') := by
  intro d
  induction d with
  | zero => intro w ca cb a b h; cases h
  | succ d ih =>
    intro w ca cb a b hsa' hsb' ha hb
    refine fn_spec_compare _ _ _ _ _ _ _ _ _ _ _ _ ?_
    unfold g_spec_compare
    refine ndStart fun w1 e1 r1 => ndStart fun w2 e2 r2 => ?_
    obtain ⟨k0, k1, k2, k3, k4⟩ := Row.nd (r1.ext e2)
    obtain ⟨m0, m1, m2, m3, m4⟩ := Row.nd r2
    have e02 := e1.trans e2
    obtain ⟨oka, oma, ota, _⟩ := ha.out
    obtain ⟨okb, omb, otb, _⟩ := hb.out
    rw [exI k0, exI m0]
    refine br_i (fun g => ?_) (fun hk0 => ?_)
    · rw [exI k0, exI m0]
      refine (c_spec_order _ _ w2).go fun w3 e3 => ⟨_, rfl, ?_, e02.trans e3⟩
      have : sgnI a.k b.k ≠ 0 := by rw [sgnI_ne, ← oka, ← okb]; simpa using g
      rw [cmpN, if_pos this, oka, okb]
    have hkk : a.k = b.k := by rw [← oka, ← okb]; simpa using hk0
    have hk1 : ¬ (sgnI a.k b.k ≠ 0) := fun h => sgnI_ne.1 h hkk
    rw [exI k1, exI m1]
    refine br_i (fun g => ?_) (fun hm0 => ?_)
    · rw [exI k1, exI m1]
      refine (c_spec_order _ _ w2).go fun w3 e3 => ⟨_, rfl, ?_, e02.trans e3⟩
      have : sgnI a.m b.m ≠ 0 := by rw [sgnI_ne, ← oma, ← omb]; simpa using g
      rw [cmpN, if_neg hk1, if_pos this, oma, omb]
    have hmm : a.m = b.m := by rw [← oma, ← omb]; simpa using hm0
    have hm1 : ¬ (sgnI a.m b.m ≠ 0) := fun h => sgnI_ne.1 h hmm
    rw [exS k2, exS m2, seqB_eq]
    refine br_i (fun g => ?_) (fun ht0 => ?_)
    · rw [exS k2, exS m2]
      refine (c_spec_orderText _ _ w2).go fun w3 e3 => ⟨_, rfl, ?_, e02.trans e3⟩
      have : sgnB a.t b.t ≠ 0 := by rw [sgnB_ne, ← ota, ← otb]; simpa using g
      rw [cmpN, if_neg hk1, if_neg hm1, if_pos this, ota, otb]
    have htt : a.t = b.t := by rw [← ota, ← otb]; simpa using ht0
    clear hk0 hm0 ht0
    have hk0 := hkk
    have hm0 := hmm
    have ht0 := htt
    have hda := shp_parts hsa'
    have hdb := shp_parts hsb'
    have hka := ha.klen
    have hkb := hb.klen
    have hma := ha.out.2.2.2.2.2.2.1
    have hmb := hb.out.2.2.2.2.2.2.1
    unfold maxLen at hma hmb
    have hT : cmpN (d + 1) a b = cmpL (cmpN d) (nmB a b) (sgnI a.ks.length b.ks.length) 0 a.ks b.ks := by
      rw [cmpN, if_neg (by rw [sgnI_ne]; simpa using hk0), if_neg (by rw [sgnI_ne]; simpa using hm0), if_neg (by rw [sgnB_ne]; simpa using ht0)]
    rw [hT]
    have fin : ∀ w9, Ext w2 w9 → ∀ R : Int, R = sgnI a.ks.length b.ks.length → CallR Try.prog 67 [.int .i64 (ca.sk.len : Int), .int .i64 (cb.sk.len : Int)] w9 (fun r w' => ∃ n : Int, r = .int .i64 n ∧ (Value.int .i64 n = .int .i64 R ∧ Ext w w')) := fun w9 e9 R hR =>
      (c_spec_order _ _ w9).go fun w10 e10 => ⟨_, rfl, by rw [hR, hka.1, hkb.1], (e02.trans e9).trans e10⟩
    refine sLoop_list a.ks (fun pre _ w' => Ext w2 w' ∧ cmpL (cmpN d) (nmB a b) (sgnI a.ks.length b.ks.length) 0 a.ks b.ks = cmpL (cmpN d) (nmB a b) (sgnI a.ks.length b.ks.length) pre.length (a.ks.drop pre.length) (b.ks.drop pre.length)) ⟨Ext.refl _, by simp⟩ ?_ ?_
    · intro K pre post x t w3 hx ⟨he, hc⟩ hK _
      have hl := mid_len hx
      have hd1 : a.ks.drop pre.length = x :: post := by rw [hx]; simp
      have hda1 : post = a.ks.drop (pre ++ [x]).length := by rw [hx]; simp
      have hsx := hda.2 x (by rw [hx]; simp)
      simp only [exL (he.get k4), exL (he.get m4), exI (he.get k0)]
      refine br_dt (by first | omega | (simp only; omega)) (br_d (fun hib => ?_) (fun hib => ?_))
      · have hib' : pre.length < b.ks.length := by first | omega | (simp only at hib; omega)
        obtain ⟨y, hy⟩ : ∃ y, b.ks[pre.length]? = some y := ⟨_, List.getElem?_eq_getElem hib'⟩
        have hsy := hdb.2 y (List.mem_of_getElem? hy)
        have hd2 : b.ks.drop pre.length = y :: b.ks.drop (pre.length + 1) := by
          rw [List.drop_eq_getElem_cons hib']
          congr 1
          rw [List.getElem?_eq_getElem hib'] at hy
          exact Option.some.inj hy
        have hdb1 : b.ks.drop (pre.length + 1) = b.ks.drop (pre ++ [x]).length := by simp
        have hR := hc
        rw [hd1, hd2, cmpL] at hR
        have hlen : pre.length + 1 = (pre ++ [x]).length := by simp
        rw [show cmpL (cmpN d) (nmB a b) (sgnI a.ks.length b.ks.length) (pre.length + 1) post (b.ks.drop (pre.length + 1)) = cmpL (cmpN d) (nmB a b) (sgnI a.ks.length b.ks.length) (pre ++ [x]).length post (b.ks.drop (pre.length + 1)) by rw [hlen]] at hR
        refine fun w5 (e5 : Ext w3 w5) => ?_
        have e25 := he.trans e5
        rw [exI (e25.get k0), beqI]
        refine br_d (fun h4 => ?_) (fun h4 => ?_)
        · have h4a : a.k = 4 := by rw [← ha.out.1]; exact h4
          have h4b : b.k = 4 := by rw [← hkk]; exact h4a
          have la := parts_map hda.1 h4a
          have lb := parts_map hdb.1 h4b
          have na : a.ns[pre.length]? = some (a.ns[pre.length]'(by omega)) := List.getElem?_eq_getElem (by omega)
          have nb : b.ns[pre.length]? = some (b.ns[pre.length]'(by omega)) := List.getElem?_eq_getElem (by omega)
          have hgi : nmB a b pre.length = sgnB (a.ns[pre.length]'(by omega)) (b.ns[pre.length]'(by omega)) := by rw [nmB, if_pos h4a, na, nb]; rfl
          obtain ⟨pa, hpa, ua⟩ := SlOf.cell1 (ha.out.2.2.2.1.ext (e02.trans e25)) cS_len na rfl
          obtain ⟨pb, hpb, ub⟩ := SlOf.cell1 (hb.out.2.2.2.1.ext (e02.trans e25)) cS_len nb rfl
          rw [exL (e25.get k3)]
          refine onSome_i hpa ⟨⟨by first | omega | (simp only; omega), by first | omega | (simp only; omega)⟩, ?_⟩
          simp only [exS ua]
          rw [exL (e25.get m3)]
          refine onSome_i hpb ⟨⟨by first | omega | (simp only; omega), by first | omega | (simp only; omega)⟩, ?_⟩
          simp only [exS ub, seqB_eq]
          refine br_i (fun g => fun w6 (e6 : Ext w5 w6) => ?_) (fun g => fun w6 (e6 : Ext w5 w6) => ?_)
          · have g' : nmB a b pre.length ≠ 0 := by rw [hgi, sgnB_ne]; simpa using g
            have e26 := e25.trans e6
            obtain ⟨pa', hpa', ua'⟩ := SlOf.cell1 (ha.out.2.2.2.1.ext (e02.trans e26)) cS_len na rfl
            obtain ⟨pb', hpb', ub'⟩ := SlOf.cell1 (hb.out.2.2.2.1.ext (e02.trans e26)) cS_len nb rfl
            rw [exL (e26.get k3)]
            refine onSome_i hpa' ⟨⟨by first | omega | (simp only; omega), by first | omega | (simp only; omega)⟩, ?_⟩
            simp only [exS ua']
            rw [exL (e26.get m3)]
            refine onSome_i hpb' ⟨⟨by first | omega | (simp only; omega), by first | omega | (simp only; omega)⟩, ?_⟩
            simp only [exS ub']
            exact (c_spec_orderText _ _ w6).go fun w7 e7 => ⟨_, rfl, by rw [hR, if_pos g', hgi], (e02.trans e26).trans e7⟩
          have hg0 : nmB a b pre.length = 0 := by
            rw [hgi]
            have g' : ¬ (sgnB (a.ns[pre.length]'(by omega)) (b.ns[pre.length]'(by omega)) ≠ 0) := by rw [sgnB_ne]; simpa using g
            exact Classical.not_not.1 g'
          have e28 := e25.trans e6
          obtain ⟨_, dx, ax, hsa, hdx, g0, g1, g2, g3, g4⟩ := (ha.ext (e02.trans e28)).kid (i := pre.length) (mid_get hx)
          obtain ⟨_, dy, ay, hsb, hdy, f0, f1, f2, f3, f4⟩ := (hb.ext (e02.trans e28)).kid (i := pre.length) hy
          rw [exL (e28.get k4)]
          refine onSome_i hsa ⟨⟨by first | omega | (simp only; omega), by first | omega | (simp only; omega)⟩, ?_⟩
          simp only [exI g0, exI g1, exS g2, exL g3, exL g4]
          rw [exL (e28.get m4)]
          refine onSome_i hsb ⟨⟨by first | omega | (simp only; omega), by first | omega | (simp only; omega)⟩, ?_⟩
          simp only [exI f0, exI f1, exS f2, exL f3, exL f4]
          refine (ih w6 dx dy x y hsx hsy hdx hdy).go fun w7 e7 => ⟨_, rfl, br_i (fun g => ⟨?_, (e02.trans e28).trans e7⟩) (fun g => ⟨inR_i64 (by omega) (by omega), hK _ _ ⟨e28.trans e7, ?_⟩⟩)⟩
          · have g' : cmpN d x y ≠ 0 := by simpa using g
            rw [hR, if_neg (by simpa using hg0), if_pos g']
          · have g' : cmpN d x y = 0 := by simpa using g
            rw [hR, if_neg (by simpa using hg0), if_neg (by simpa using g')]
            rw [hda1, hdb1]
        · have hg0 : nmB a b pre.length = 0 := by rw [nmB, if_neg (by rw [← ha.out.1]; exact h4)]
          refine fun w6 (e6 : Ext w5 w6) => ?_
          have e28 := e25.trans e6
          obtain ⟨_, dx, ax, hsa, hdx, g0, g1, g2, g3, g4⟩ := (ha.ext (e02.trans e28)).kid (i := pre.length) (mid_get hx)
          obtain ⟨_, dy, ay, hsb, hdy, f0, f1, f2, f3, f4⟩ := (hb.ext (e02.trans e28)).kid (i := pre.length) hy
          rw [exL (e28.get k4)]
          refine onSome_i hsa ⟨⟨by first | omega | (simp only; omega), by first | omega | (simp only; omega)⟩, ?_⟩
          simp only [exI g0, exI g1, exS g2, exL g3, exL g4]
          rw [exL (e28.get m4)]
          refine onSome_i hsb ⟨⟨by first | omega | (simp only; omega), by first | omega | (simp only; omega)⟩, ?_⟩
          simp only [exI f0, exI f1, exS f2, exL f3, exL f4]
          refine (ih w6 dx dy x y hsx hsy hdx hdy).go fun w7 e7 => ⟨_, rfl, br_i (fun g => ⟨?_, (e02.trans e28).trans e7⟩) (fun g => ⟨inR_i64 (by omega) (by omega), hK _ _ ⟨e28.trans e7, ?_⟩⟩)⟩
          · have g' : cmpN d x y ≠ 0 := by simpa using g
            rw [hR, if_neg (by simpa using hg0), if_pos g']
          · have g' : cmpN d x y = 0 := by simpa using g
            rw [hR, if_neg (by simpa using hg0), if_neg (by simpa using g')]
            rw [hda1, hdb1]
      · have hd2 : b.ks.drop pre.length = [] := List.drop_eq_nil_of_le (by first | omega | (simp only at hib; omega))
        rw [hd2, cmpL_nil] at hc
        exact fin w3 he _ hc
    · intro K t w3 ⟨he, hc⟩ _
      simp only [exL (he.get k4), exL (he.get m4), exI (he.get k0)]
      refine br_df (by first | omega | (simp only; omega)) ?_
      have hd2 : a.ks.drop a.ks.length = [] := List.drop_length
      rw [hd2] at hc
      exact fin w3 he _ hc
end Go.Proofs
