/-
  Words and small laws for contracts over 'Vc': what stays as it was, slices that read as lists, loops over lists, tests. Conditions: none of its own.
-/
import Derived.Test.YtpofoikpmafnbaaDoorVc
import Derived.ProofKit
namespace Go.Vc
open Go Go.RowKit

/-! ## What was there stays as it was -/

abbrev Ext (w w' : World) : Prop := Below w.heap.size w w'

theorem Ext.refl (w : World) : Ext w w := Below.refl _ _
theorem Ext.trans {a b c : World} (h : Ext a b) (k : Ext b c) : Ext a c := Below.trans h (k.mono h.size)
theorem Ext.alloc {a w : World} (h : Ext a w) (o : Obj) : Ext a (w.alloc o) := Below.alloc h h.size o
theorem Ext.set {a w : World} (h : Ext a w) {p : Addr} (hp : a.heap.size ≤ p.block) (v : Value) : Ext a (w.setCell p v) := Below.setCell h hp v
theorem Ext.grown {a w w' : World} {row : Option Nat} (h : Ext a w) (hg : w.grownBy w' row) (hr : ∀ k, row = some k → a.heap.size ≤ k) : Ext a w' := Below.grown h hg h.size hr
theorem Ext.get {w w' : World} {p : Addr} {v : Value} (h : Ext w w') (hc : w.cell? p = some v) : w'.cell? p = some v := cell_below h hc
theorem Ext.below {a w w' : World} {B : Nat} (h : Ext a w) (hb : Below B w w') (hB : a.heap.size ≤ B) : Ext a w' := Below.trans h (hb.mono hB)

/-! ## Tests -/

theorem br_t {b : Bool} {A B : Prop} (h : b = true) (hA : A) : br b A B := by rw [h]; exact hA
theorem br_f {b : Bool} {A B : Prop} (h : b = false) (hB : B) : br b A B := by rw [h]; exact hB
theorem br_i {b : Bool} {A B : Prop} (hA : b = true → A) (hB : b = false → B) : br b A B := by
  cases b with
  | true => exact hA rfl
  | false => exact hB rfl
theorem br_dt {p : Prop} [Decidable p] {A B : Prop} (h : p) (hA : A) : br (decide p) A B := br_t (decide_eq_true h) hA
theorem br_df {p : Prop} [Decidable p] {A B : Prop} (h : ¬ p) (hB : B) : br (decide p) A B := br_f (decide_eq_false h) hB
theorem br_d {p : Prop} [Decidable p] {A B : Prop} (hA : p → A) (hB : ¬ p → B) : br (decide p) A B := br_i (fun h => hA (of_decide_eq_true h)) (fun h => hB (of_decide_eq_false h))

theorem nott {b : Bool} (h : (!b) = true) : b = false := by simpa using h
theorem notf {b : Bool} (h : (!b) = false) : b = true := by simpa using h

theorem letW_i {w : World} {K : World → Prop} (h : ∀ w', w' = w → K w') : letW w K := h w rfl

theorem onSome_i {α : Type} {o : Option α} {a : α} {K : α → Prop} (h : o = some a) (hK : K a) : onSome o K := by rw [h]; exact hK

/-! ## Strings -/

theorem toList_eq (s : ByteArray) : s.toList = s.data.toList := ByteArray.toList_eq s

theorem seqB_iff {a b : ByteArray} : seqB a b = true ↔ a = b := by
  unfold seqB
  rw [toList_eq, toList_eq, beq_iff_eq]
  constructor
  · intro h
    cases a; cases b
    simp only at h
    congr
    exact Array.ext' h
  · rintro rfl; rfl

theorem seqB_eq (a b : ByteArray) : seqB a b = decide (a = b) := by
  rw [Bool.eq_iff_iff, seqB_iff, decide_eq_true_iff]

theorem byteAt_mid {s : ByteArray} {pre post : List UInt8} {c : UInt8} (h : s.data.toList = pre ++ c :: post) : byteAt s (pre.length : Int) = (c.toNat : Int) := by
  have h1 : s.data[pre.length]? = some c := by
    rw [← Array.getElem?_toList, h]; simp
  have h2 : s[pre.length]? = some c := by
    have hlt : pre.length < s.data.size := by
      rw [← Array.length_toList, h]; simp
    have : s[pre.length]? = some (s[pre.length]'hlt) := getElem?_pos s pre.length hlt
    rw [this]
    have e : s[pre.length]'hlt = s.data[pre.length]'hlt := rfl
    rw [e, ← h1, Array.getElem?_eq_getElem hlt]
  unfold byteAt
  rw [Int.toNat_natCast, h2]
  rfl

theorem size_eq (s : ByteArray) : s.size = s.data.toList.length := (Array.length_toList (xs := s.data)).symm

theorem byteAt_bounds (s : ByteArray) (n : Int) : 0 ≤ byteAt s n ∧ byteAt s n ≤ 255 := by
  unfold byteAt
  cases h : s[n.toNat]? with
  | none => exact ⟨Int.le_refl _, by decide⟩
  | some c =>
    have h1 := c.toNat_lt
    show 0 ≤ ((c.toNat : Nat) : Int) ∧ ((c.toNat : Nat) : Int) ≤ 255
    omega

/-! ## Slices that read as lists -/

/-- From the address on stand these cells. -/
def At (w : World) (o : Option Addr) (vs : List Value) : Prop := ∀ k v, vs[k]? = some v → ∃ a, o = some a ∧ w.cell? (a.add k) = some v

theorem At.ext {w w' : World} {o : Option Addr} {vs : List Value} (h : At w o vs) (he : Ext w w') : At w' o vs := fun k v hv =>
  let ⟨a, ha, hc⟩ := h k v hv
  ⟨a, ha, he.get hc⟩

theorem At.nil (w : World) (o : Option Addr) : At w o [] := fun _ _ h => by simp at h

/-- A slice that reads as a list, each element of 'n' cells. -/
structure SlOf {α : Type} (c : α → List Value) (w : World) (s : Sl) (xs : List α) : Prop where
  len : s.len = xs.length
  cap : s.len ≤ s.cap
  at_ : At w s.a (xs.flatMap c)

theorem SlOf.ext {α : Type} {c : α → List Value} {w w' : World} {s : Sl} {xs : List α} (h : SlOf c w s xs) (he : Ext w w') : SlOf c w' s xs := ⟨h.len, h.cap, h.at_.ext he⟩

theorem SlOf.nil {α : Type} (c : α → List Value) (w : World) : SlOf c w ⟨none, 0, 0⟩ [] := ⟨rfl, Nat.le_refl _, At.nil _ _⟩

theorem add_add' (a : Addr) (i j : Nat) : (a.add i).add j = a.add (i + j) := by
  unfold Addr.add
  by_cases hi : i = 0 <;> by_cases hj : j = 0 <;> simp [hi, hj, Nat.add_assoc]

theorem flatMap_len {α : Type} {c : α → List Value} {n : Nat} (hc : ∀ x, (c x).length = n) (xs : List α) : (xs.flatMap c).length = xs.length * n := by
  induction xs with
  | nil => simp
  | cons x xs ih => simp [List.flatMap_cons, ih, hc, Nat.add_mul, Nat.add_comm]

theorem flatMap_get {α : Type} {c : α → List Value} {n : Nat} (hc : ∀ x, (c x).length = n) {xs : List α} {i : Nat} {x : α} (hx : xs[i]? = some x) {j : Nat} {v : Value} (hv : (c x)[j]? = some v) :
    (xs.flatMap c)[i * n + j]? = some v := by
  induction xs generalizing i with
  | nil => simp at hx
  | cons y ys ih =>
    have hj : j < n := by
      rw [← hc x]
      exact (List.getElem?_eq_some_iff.1 hv).1
    cases i with
    | zero =>
      simp at hx; subst hx
      rw [List.flatMap_cons, List.getElem?_append_left (by rw [hc]; omega)]
      simpa using hv
    | succ i =>
      simp at hx
      rw [List.flatMap_cons, List.getElem?_append_right (by rw [hc, Nat.add_mul]; omega), hc]
      have : (i + 1) * n + j - n = i * n + j := by rw [Nat.add_mul]; omega
      rw [this]
      exact ih hx

theorem SlOf.cell {α : Type} {c : α → List Value} {n : Nat} {w : World} {s : Sl} {xs : List α} (h : SlOf c w s xs) (hc : ∀ x, (c x).length = n) {i : Nat} {x : α} (hx : xs[i]? = some x) {j : Nat} {v : Value} (hv : (c x)[j]? = some v) :
    ∃ a, s.a = some a ∧ w.cell? ((a.add ((i : Int).toNat * n)).add j) = some v := by
  obtain ⟨a, ha, hcell⟩ := h.at_ _ _ (flatMap_get hc hx hv)
  exact ⟨a, ha, by rw [add_add', Int.toNat_natCast]; exact hcell⟩

/-- One cell an element. -/
theorem SlOf.cell1 {α : Type} {c : α → List Value} {w : World} {s : Sl} {xs : List α} (h : SlOf c w s xs) (hc : ∀ x, (c x).length = 1) {i : Nat} {x : α} (hx : xs[i]? = some x) {v : Value} (hv : c x = [v]) :
    ∃ a, s.a = some a ∧ w.cell? (a.add ((i : Int).toNat * 1)) = some v := by
  obtain ⟨a, ha, hcell⟩ := h.cell hc hx (j := 0) (v := v) (by rw [hv]; rfl)
  refine ⟨a, ha, ?_⟩
  rw [add_add', Nat.add_zero] at hcell
  exact hcell

def cS (s : ByteArray) : List Value := [.string s]
def cI (n : Int) : List Value := [.int .i64 n]
def cB (b : Bool) : List Value := [.bool b]
def cU (n : UInt8) : List Value := [.int .u8 n.toNat]

theorem cS_len (x : ByteArray) : (cS x).length = 1 := rfl
theorem cI_len (x : Int) : (cI x).length = 1 := rfl
theorem cB_len (x : Bool) : (cB x).length = 1 := rfl
theorem cU_len (x : UInt8) : (cU x).length = 1 := rfl

abbrev Strs := SlOf cS
abbrev Ints := SlOf cI
abbrev Bools := SlOf cB
abbrev Bytes := SlOf cU

theorem mid_get {α : Type} {xs pre post : List α} {x : α} (h : xs = pre ++ x :: post) : xs[pre.length]? = some x := by rw [h]; simp

theorem SlOf.sm {w : World} {s : Sl} {xs pre post : List ByteArray} {x : ByteArray} (h : Strs w s xs) (hx : xs = pre ++ x :: post) : ∃ a, s.a = some a ∧ w.cell? (a.add ((pre.length : Int).toNat * 1)) = some (.string x) :=
  SlOf.cell1 h cS_len (mid_get hx) rfl
theorem SlOf.im {w : World} {s : Sl} {xs pre post : List Int} {x : Int} (h : Ints w s xs) (hx : xs = pre ++ x :: post) : ∃ a, s.a = some a ∧ w.cell? (a.add ((pre.length : Int).toNat * 1)) = some (.int .i64 x) :=
  SlOf.cell1 h cI_len (mid_get hx) rfl
theorem SlOf.bm {w : World} {s : Sl} {xs pre post : List Bool} {x : Bool} (h : Bools w s xs) (hx : xs = pre ++ x :: post) : ∃ a, s.a = some a ∧ w.cell? (a.add ((pre.length : Int).toNat * 1)) = some (.bool x) :=
  SlOf.cell1 h cB_len (mid_get hx) rfl

theorem SlOf.um {w : World} {s : Sl} {xs : List UInt8} {i : Nat} (h : Bytes w s xs) (hi : i < xs.length) : ∃ a, s.a = some a ∧ w.cell? (a.add ((i : Int).toNat * 1)) = some (.int .u8 (xs[i].toNat : Int)) :=
  SlOf.cell1 h cU_len (List.getElem?_eq_getElem hi) rfl

theorem resl_zero (a : Option Addr) (c n : Nat) : resl a c 0 n = a := by
  unfold resl
  split
  · rfl
  · cases a with
    | none => rfl
    | some a => simp [Addr.add]

theorem mid_len {α : Type} {xs pre post : List α} {x : α} (h : xs = pre ++ x :: post) : xs.length = pre.length + 1 + post.length := by rw [h]; simp; omega

/-! ## Blocks known whole -/

/-- The block holds these cells, and may be written. -/
def Row (w : World) (b : Nat) (vs : List Value) (e : TypeId) : Prop := w.heap[b]? = some (.cells vs.toArray e (0, 0))

theorem Row.lt {w : World} {b : Nat} {vs : List Value} {e : TypeId} (h : Row w b vs e) : b < w.heap.size := (Array.getElem?_eq_some_iff.1 h).1

theorem Row.new (w : World) (vs : List Value) (e : TypeId) : Row (w.alloc (.cells vs.toArray e)) w.heap.size vs e := heap_alloc_new w _

theorem Row.of_same {w w' : World} {b : Nat} {vs : List Value} {e : TypeId} (h : Row w b vs e) (hs : w'.heap[b]? = w.heap[b]?) : Row w' b vs e := hs.trans h

theorem Row.ext {w w' : World} {b : Nat} {vs : List Value} {e : TypeId} (h : Row w b vs e) (he : Ext w w') : Row w' b vs e := h.of_same (he.block b h.lt)

theorem Row.set_other {w : World} {b : Nat} {vs : List Value} {e : TypeId} (h : Row w b vs e) {p : Addr} (hp : b ≠ p.block) (v : Value) : Row (w.setCell p v) b vs e :=
  h.of_same (Below.heap_setCell w p v b hp)

theorem add_b (b k : Nat) : (⟨b, 0, none⟩ : Addr).add k = ⟨b, k, none⟩ := by
  unfold Addr.add
  split
  · rename_i h; rw [h]
  · simp

theorem Row.cell {w : World} {b : Nat} {vs : List Value} {e : TypeId} (h : Row w b vs e) {k : Nat} {v : Value} (hv : vs[k]? = some v) : w.cell? ((⟨b, 0, none⟩ : Addr).add k) = some v := by
  rw [add_b]
  unfold Row at h
  simp [World.cell?, h, hv]

theorem Row.wr {w : World} {b : Nat} {vs : List Value} {e : TypeId} (h : Row w b vs e) {k : Nat} (hk : k < vs.length) : Wr w ((⟨b, 0, none⟩ : Addr).add k) := by
  refine ⟨?_, ?_⟩
  · rw [h.cell (List.getElem?_eq_getElem hk)]; rfl
  · rw [add_b]
    unfold Row at h
    simp [World.frozen?, h]

theorem Row.set {w : World} {b : Nat} {vs : List Value} {e : TypeId} (h : Row w b vs e) (k : Nat) (v : Value) : Row (w.setCell ((⟨b, 0, none⟩ : Addr).add k) v) b (vs.set k v) e := by
  rw [add_b]
  unfold Row at *
  have := heap_setCell_same w b k vs.toArray e v h
  rw [this, List.setIfInBounds_toArray]

theorem Row.setMid {w : World} {b : Nat} {A B : List Value} {o : Value} {e : TypeId} (h : Row w b (A ++ o :: B) e) {p : Addr} (hp : p = (⟨b, 0, none⟩ : Addr).add A.length) (v : Value) :
    Wr w p ∧ Row (w.setCell p v) b (A ++ v :: B) e := by
  subst hp
  refine ⟨h.wr (by simp), ?_⟩
  have := h.set A.length v
  rwa [List.set_append_right _ _ (Nat.le_refl _), Nat.sub_self, List.set_cons_zero] at this

theorem Row.at_ {w : World} {b : Nat} {vs : List Value} {e : TypeId} (h : Row w b vs e) : At w (some ⟨b, 0, none⟩) vs := fun _ _ hv => ⟨_, rfl, h.cell hv⟩

theorem Row.slOf {α : Type} {c : α → List Value} {w : World} {b cap : Nat} {xs : List α} {e : TypeId} (h : Row w b (xs.flatMap c) e) (hc : xs.length ≤ cap) : SlOf c w ⟨some ⟨b, 0, none⟩, xs.length, cap⟩ xs :=
  ⟨rfl, hc, h.at_⟩

theorem at_idx (b : Nat) (k n j : Nat) : ((⟨b, 0, none⟩ : Addr).add ((k : Int).toNat * n)).add j = (⟨b, 0, none⟩ : Addr).add (k * n + j) := by
  rw [add_add', Int.toNat_natCast]
theorem at_idx1 (b : Nat) (k : Nat) : (⟨b, 0, none⟩ : Addr).add ((k : Int).toNat * 1) = (⟨b, 0, none⟩ : Addr).add k := by
  rw [Int.toNat_natCast, Nat.mul_one]

theorem madeCells_eq (z : Value) (n : Nat) : madeCells #[z] n = (List.replicate n z).toArray := by
  apply Array.ext'
  apply List.ext_getElem?
  intro i
  simp only [madeCells]
  by_cases hi : i < n
  · simp [hi, List.getElem?_replicate, Nat.mod_one]
  · simp [hi, List.getElem?_replicate]

/-- The cells of a slice of structs, made anew. -/
theorem madeCells_agg (zs : List Value) (hz : zs ≠ []) (n : Nat) : madeCells zs.toArray (n * zs.length) = ((List.replicate n zs).flatten).toArray := by
  apply Array.ext'
  apply List.ext_getElem?
  intro i
  have hpos : 0 < zs.length := List.length_pos_iff.2 hz
  have hl : ((List.replicate n zs).flatten).length = n * zs.length := by simp
  by_cases hi : i < n * zs.length
  · have hm : i % zs.length < zs.length := Nat.mod_lt _ hpos
    have hr : ((List.replicate n zs).flatten)[i]? = zs[i % zs.length]? := by
      clear hl
      induction n generalizing i with
      | zero => simp at hi
      | succ n ih =>
        rw [List.replicate_succ, List.flatten_cons]
        by_cases hlt : i < zs.length
        · rw [List.getElem?_append_left hlt, Nat.mod_eq_of_lt hlt]
        · rw [List.getElem?_append_right (by omega)]
          rw [ih (i - zs.length) (by rw [Nat.succ_mul] at hi; omega) (Nat.mod_lt _ hpos)]
          congr 1
          rw [← Nat.mod_eq_sub_mod (by omega)]
    simp only [List.toList_toArray, hr]
    simp [madeCells, hi, List.getElem?_eq_getElem hm, hm]
  · rw [List.getElem?_eq_none (by simp [madeCells]; omega), List.getElem?_eq_none (by simp; omega)]

/-! ## Loops -/

/-- A loop whose counter goes through a list. -/
theorem sLoop_list {α τ : Type} {t0 : τ} {w0 : World} {round : (Int × τ → World → Prop) → Int × τ → World → Prop} (xs : List α) (J : List α → τ → World → Prop) (h0 : J [] t0 w0)
    (step : ∀ (K : Int × τ → World → Prop) (pre post : List α) (x : α) (t : τ) (w : World), xs = pre ++ x :: post → J pre t w →
      (∀ t' w', J (pre ++ [x]) t' w' → K ((pre.length : Int) + 1, t') w') → round K ((pre.length : Int), t) w)
    (done : ∀ (K : Int × τ → World → Prop) (t : τ) (w : World), J xs t w → round K ((xs.length : Int), t) w) : sLoop ((0 : Int), t0) w0 round := by
  refine sLoop.intro (fun s w => ∃ k, s.1 = (k : Nat) ∧ k ≤ xs.length ∧ J (xs.take k) s.2 w) (fun s _ => xs.length - s.1.toNat) ⟨0, rfl, Nat.zero_le _, by simpa using h0⟩ ?_
  rintro ⟨i, t⟩ w K ⟨k, hk, hle, hJ⟩ hK
  simp only at hk hJ
  subst hk
  by_cases hlt : k < xs.length
  · have hx : xs = xs.take k ++ xs[k] :: xs.drop (k + 1) := by simp
    have hl : (xs.take k).length = k := by simp; omega
    have := step K (xs.take k) (xs.drop (k + 1)) xs[k] t w hx hJ
    rw [hl] at this
    refine this fun t' w' hJ' => hK _ _ ⟨k + 1, rfl, hlt, ?_⟩ ?_
    · rw [List.take_succ_eq_append_getElem hlt]; exact hJ'
    · simp; omega
  · have hk : k = xs.length := by omega
    subst hk
    refine done K t w ?_
    simpa using hJ

/-- A loop with a counter that goes up to a number. -/
theorem sLoop_up {τ : Type} {t0 : τ} {w0 : World} {round : (Int × τ → World → Prop) → Int × τ → World → Prop} (n : Nat) (J : Nat → τ → World → Prop) (h0 : J 0 t0 w0)
    (step : ∀ (K : Int × τ → World → Prop) (k : Nat) (t : τ) (w : World), k < n → J k t w → (∀ t' w', J (k + 1) t' w' → K ((k : Int) + 1, t') w') → round K ((k : Int), t) w)
    (done : ∀ (K : Int × τ → World → Prop) (t : τ) (w : World), J n t w → round K ((n : Int), t) w) : sLoop ((0 : Int), t0) w0 round := by
  refine sLoop.intro (fun s w => ∃ k, s.1 = (k : Nat) ∧ k ≤ n ∧ J k s.2 w) (fun s _ => n - s.1.toNat) ⟨0, rfl, Nat.zero_le _, h0⟩ ?_
  rintro ⟨i, t⟩ w K ⟨k, hk, hle, hJ⟩ hK
  simp only at hk hJ
  subst hk
  by_cases hlt : k < n
  · exact step K k t w hlt hJ fun t' w' hJ' => hK _ _ ⟨k + 1, rfl, hlt, hJ'⟩ (by simp; omega)
  · have hk : k = n := by omega
    subst hk
    exact done K t w hJ

/-- A loop with a counter that goes down to nought. -/
theorem sLoop_down {τ : Type} {t0 : τ} {w0 : World} {round : (Int × τ → World → Prop) → Int × τ → World → Prop} (n : Nat) (J : Nat → τ → World → Prop) (h0 : J n t0 w0)
    (step : ∀ (K : Int × τ → World → Prop) (k : Nat) (t : τ) (w : World), k < n → J (k + 1) t w → (∀ t' w', J k t' w' → K (((k + 1 : Nat) : Int) - 1, t') w') → round K (((k + 1 : Nat) : Int), t) w)
    (done : ∀ (K : Int × τ → World → Prop) (t : τ) (w : World), J 0 t w → round K ((0 : Int), t) w) : sLoop ((n : Int), t0) w0 round := by
  refine sLoop.intro (fun s w => ∃ k, s.1 = (k : Nat) ∧ k ≤ n ∧ J k s.2 w) (fun s _ => s.1.toNat) ⟨n, rfl, Nat.le_refl _, h0⟩ ?_
  rintro ⟨i, t⟩ w K ⟨k, hk, hle, hJ⟩ hK
  simp only at hk hJ
  subst hk
  cases k with
  | zero => exact done K t w hJ
  | succ k => exact step K k t w hle hJ fun t' w' hJ' => hK _ _ ⟨k, by simp, by omega, hJ'⟩ (by simp)

/-! ## One block changes -/

abbrev Chg (b : Nat) (w w' : World) : Prop := w.grownBy w' (some b)

theorem Chg.refl (b : Nat) (w : World) : Chg b w w := ⟨rfl, rfl, rfl, Nat.le_refl _, fun _ _ _ => rfl⟩
theorem Chg.trans {b : Nat} {x y z : World} (h : Chg b x y) (k : Chg b y z) : Chg b x z :=
  ⟨k.os.trans h.os, k.tape.trans h.tape, k.output.trans h.output, Nat.le_trans h.size k.size, fun i hi hn => (k.block i (Nat.lt_of_lt_of_le hi h.size) hn).trans (h.block i hi hn)⟩
theorem Chg.of_ext {b : Nat} {w w' : World} (h : Ext w w') : Chg b w w' := ⟨h.os, h.tape, h.output, h.size, fun k hk _ => h.block k hk⟩
theorem Chg.set {b : Nat} {a w : World} (h : Chg b a w) {p : Addr} (hp : p.block = b) (v : Value) : Chg b a (w.setCell p v) :=
  h.trans ⟨rfl, rfl, rfl, by simp [World.setCell], fun k _ hn => Below.heap_setCell w p v k (by rw [hp]; exact fun e => hn (by rw [e]))⟩
theorem Chg.alloc {b : Nat} {a w : World} (h : Chg b a w) (o : Obj) : Chg b a (w.alloc o) := h.trans (Chg.of_ext ((Ext.refl w).alloc o))
theorem Ext.chg {a w w' : World} {b : Nat} (h : Ext a w) (hc : Chg b w w') (hb : a.heap.size ≤ b) : Ext a w' := h.grown hc fun k hk => by
  have : b = k := by simpa using hk
  rw [← this]; exact hb
theorem Row.chg {w w' : World} {b b' : Nat} {vs : List Value} {e : TypeId} (h : Row w b' vs e) (hc : Chg b w w') (hne : b' ≠ b) : Row w' b' vs e :=
  h.of_same (hc.block b' h.lt (fun e => hne (by simpa using e)))

/-- The slice lies apart from the block. -/
def Apart (s : Sl) (b : Nat) : Prop := ∀ a, s.a = some a → a.block ≠ b

theorem apart_new {n b l c : Nat} (h : b < n) : ∀ a, (⟨some ⟨n, 0, none⟩, l, c⟩ : Sl).a = some a → a.block ≠ b := by
  intro a ha
  have : a.block = n := by rw [← Option.some.inj ha]
  omega

theorem cell_chg {w w' : World} {b : Nat} {p : Addr} {v : Value} (h : w.cell? p = some v) (hc : Chg b w w') (hne : p.block ≠ b) : w'.cell? p = some v :=
  (World.cell?_of_block (hc.block p.block (World.block_lt_of_cell? w p h) (fun e => hne (by simpa using e)))).trans h

theorem add_block (a : Addr) (k : Nat) : (a.add k).block = a.block := by unfold Addr.add; split <;> rfl

theorem SlOf.chg {α : Type} {c : α → List Value} {w w' : World} {s : Sl} {xs : List α} {b : Nat} (h : SlOf c w s xs) (hc : Chg b w w') (hap : Apart s b) : SlOf c w' s xs :=
  ⟨h.len, h.cap, fun k v hv => let ⟨a, ha, hcell⟩ := h.at_ k v hv; ⟨a, ha, cell_chg hcell hc (by rw [add_block]; exact hap a ha)⟩⟩

/-! ## Slices that the call appends to -/

/-- The slice is nil or lies at the head of a block from 'base' on, which nobody shares. -/
abbrev Own (base : Nat) (e : TypeId) (size : Nat) (w : World) (s : Sl) (vs : List Value) : Prop := w.ownsRow base e size s.v s.len vs

theorem Own.slOf {α : Type} {c : α → List Value} {base : Nat} {e : TypeId} {size : Nat} {w : World} {s : Sl} {xs : List α} (h : Own base e size w s (xs.flatMap c)) (hc : ∀ x, (c x).length = size) (hs : 0 < size) : SlOf c w s xs := by
  have hl : s.len = xs.length := by
    have := h.1
    rw [flatMap_len hc] at this
    exact (Nat.eq_of_mul_eq_mul_right hs this).symm
  rcases h.2 with ⟨hv, hn⟩ | ⟨g, cap, cur, hv, _, hg, hnc, _, hcs, htake⟩
  · obtain ⟨a, l, k⟩ := s
    simp only [Sl.v, Value.slice.injEq] at hv
    obtain ⟨rfl, rfl, rfl⟩ := hv
    refine ⟨hl, Nat.le_refl _, ?_⟩
    have : xs = [] := List.eq_nil_of_length_eq_zero hl.symm
    subst this
    exact At.nil _ _
  · obtain ⟨a, l, k⟩ := s
    simp only [Sl.v, Value.slice.injEq] at hv
    obtain ⟨rfl, _, rfl⟩ := hv
    refine ⟨hl, hnc, fun i v hi => ⟨_, rfl, ?_⟩⟩
    rw [add_b, cell_of_row w g i cur e (0, 0) hg]
    rw [← htake, List.getElem?_take] at hi
    split at hi
    · simpa using hi
    · cases hi

theorem Own.chg {base : Nat} {e : TypeId} {size : Nat} {w w' : World} {s : Sl} {vs : List Value} {b : Nat} (h : Own base e size w s vs) (hc : Chg b w w') (hb : b < base) : Own base e size w' s vs :=
  h.kept hc (by
    cases hv : s.v.ownBlock with
    | none => exact .inl rfl
    | some k =>
      right
      have := (h.lt k hv).1
      simp only [ne_eq, Option.some.injEq]
      omega)

theorem Own.ext {base : Nat} {e : TypeId} {size : Nat} {w w' : World} {s : Sl} {vs : List Value} (h : Own base e size w s vs) (he : Ext w w') : Own base e size w' s vs :=
  h.kept (row := none) ⟨he.os, he.tape, he.output, he.size, fun k hk _ => he.block k hk⟩ (by cases s.v.ownBlock <;> simp)

theorem Own.apart {base : Nat} {e : TypeId} {size : Nat} {w : World} {s : Sl} {vs : List Value} {b : Nat} (h : Own base e size w s vs) (hb : b < base) : Apart s b := by
  intro a ha
  have : s.v.ownBlock = some a.block := by simp [Sl.v, Value.ownBlock, ha]
  have := (h.lt _ this).1
  omega

theorem Own.fresh (w : World) (e : TypeId) (size base : Nat) (hb : base ≤ w.heap.size) : Own base e size (w.alloc (.cells #[] e)) ⟨some ⟨w.heap.size, 0, none⟩, 0, 0⟩ [] :=
  World.ownsRow_made w #[] 0 hb (Nat.zero_le _) (by simp)

theorem Own.nil (w : World) (e : TypeId) (size base : Nat) : Own base e size w ⟨none, 0, 0⟩ [] := World.ownsRow_nil w base e size

/-- A whole new block as an owned slice. -/
theorem Own.ofRow {w : World} {b : Nat} {vs : List Value} {e : TypeId} {size base n : Nat} (h : Row w b vs e) (hl : vs.length = n * size) (hb : base ≤ b) (hn : n ≤ maxLen) : Own base e size w ⟨some ⟨b, 0, none⟩, n, n⟩ vs := by
  refine ⟨hl, .inr ⟨b, n, vs.toArray, rfl, hb, h, Nat.le_refl _, hn, by simp [hl], ?_⟩⟩
  rw [List.toList_toArray, ← hl, List.take_length]

theorem Src.of {α : Type} {c : α → List Value} {size : Nat} {w : World} {s : Sl} {xs : List α} (h : SlOf c w s xs) (hc : ∀ x, (c x).length = size) (h1 : ∀ x, ∀ u ∈ c x, u.oneCell' = true)
    (hn : s.a = none → s.cap = 0) : Src w s size (xs.flatMap c) := by
  refine ⟨by rw [flatMap_len hc, h.len], fun u hu => ?_, ?_⟩
  · obtain ⟨x, _, hx⟩ := List.mem_flatMap.1 hu
    exact h1 x u hx
  · cases ha : s.a with
    | none =>
      left
      have := hn ha
      have h2 := h.cap
      exact ⟨rfl, by omega, this⟩
    | some a =>
      right
      refine ⟨a, rfl, fun j u hj => ?_⟩
      obtain ⟨a', ha', hcell⟩ := h.at_ j u hj
      rw [ha] at ha'
      obtain rfl := Option.some.inj ha'
      exact hcell

/-- The one-element literal of 'append(out, x)'. -/
theorem Src.row {w : World} {b : Nat} {vs : List Value} {e : TypeId} {size n k : Nat} (h : Row w b vs e) (hl : vs.length = n * size) (h1 : ∀ u ∈ vs, u.oneCell' = true) : Src w ⟨some ⟨b, 0, none⟩, n, k⟩ size vs :=
  ⟨hl, h1, .inr ⟨_, rfl, fun _ _ hj => h.cell hj⟩⟩

/-- AN APPEND to an owned slice. -/
theorem sAppend_i {e : TypeId} {size bytes base : Nat} {s x : Sl} {w : World} {K : Sl → World → Prop} {vs ys : List Value} (h : Own base e size w s vs) (hx : Src w x size ys)
    (hb : (s.len + x.len) * bytes ≤ 140737488355328) (hl : s.len + x.len ≤ 140737488355328) (hbase : base ≤ w.heap.size)
    (hK : ∀ s' w', s'.len = s.len + x.len → Own base e size w' s' (vs ++ ys) → w.grownBy w' s.v.ownBlock → K s' w') : sAppend e size bytes s x w K :=
  .inl ⟨base, vs, ys, h, hx, by unfold maxLen; omega, hb, hbase, fun s' w' h1 h2 h3 _ _ => hK s' w' h1 h2 h3⟩

theorem Ext.own {a w w' : World} {base : Nat} {e : TypeId} {size : Nat} {s : Sl} {vs : List Value} (h : Ext a w) (ho : Own base e size w s vs) (hg : w.grownBy w' s.v.ownBlock) (hb : a.heap.size ≤ base) : Ext a w' :=
  h.grown hg fun k hk => Nat.le_trans hb (ho.lt k hk).1

theorem Row.grown {w w' : World} {b : Nat} {vs : List Value} {e : TypeId} {row : Option Nat} (h : Row w b vs e) (hg : w.grownBy w' row) (hne : row ≠ some b) : Row w' b vs e :=
  h.of_same (hg.block b h.lt (Ne.symm hne))

theorem Own.row_ne {base : Nat} {e : TypeId} {size : Nat} {w : World} {s : Sl} {vs : List Value} (h : Own base e size w s vs) {b : Nat} (hb : b < base) : s.v.ownBlock ≠ some b := by
  intro hv
  have := (h.lt b hv).1
  omega

/-! ## Bits -/

theorem xor_nonneg (x y : Nat) (hx : x < 4611686018427387904) (hy : y < 4611686018427387904) : bits .xor .i64 (x : Int) (y : Int) = ((x ^^^ y : Nat) : Int) ∧ x ^^^ y < 4611686018427387904 := by
  have h := Nat.xor_lt_two_pow (n := 62) hx hy
  refine ⟨?_, h⟩
  have e : ∀ z : Nat, z < 4611686018427387904 → (BitVec.ofInt 64 (z : Int)).toNat = z := by
    intro z hz
    simp only [BitVec.ofInt_natCast, BitVec.toNat_ofNat]
    exact Nat.mod_eq_of_lt (by omega)
  unfold bits
  show IntKind.i64.wrap (((BitVec.ofInt 64 (x : Int)) ^^^ (BitVec.ofInt 64 (y : Int))).toNat : Int) = _
  rw [BitVec.toNat_xor, e x hx, e y hy]
  exact IntWalk.i64_in _ ⟨by omega, by omega⟩

theorem CallR.go {P : Program} {f : FuncId} {args : List Value} {w : World} {x : Value} {K : Value → World → Prop} (h : CallR P f args w (fun v w' => v = x ∧ Ext w w')) (hk : ∀ w', Ext w w' → K x w') : CallR P f args w K :=
  h.mono fun v w' ⟨e, he⟩ => by rw [e]; exact hk w' he

/-! ## Local copies of structs -/

theorem local3 {w : World} {z0 z1 z2 v0 v1 v2 : Value} {e : TypeId} {K : World → Prop} (hk : ∀ w', Row w' w.heap.size [v0, v1, v2] e → Ext w w' → K w') :
    letW (w.alloc (.cells #[z0, z1, z2] e)) (fun w1 => Wr w1 (⟨w.heap.size, 0, none⟩ : Addr) ∧ letW (w1.setCell (⟨w.heap.size, 0, none⟩ : Addr) v0) (fun w2 => Wr w2 ((⟨w.heap.size, 0, none⟩ : Addr).add 1) ∧
      letW (w2.setCell ((⟨w.heap.size, 0, none⟩ : Addr).add 1) v1) (fun w3 => Wr w3 ((⟨w.heap.size, 0, none⟩ : Addr).add 2) ∧ letW (w3.setCell ((⟨w.heap.size, 0, none⟩ : Addr).add 2) v2) K))) := by
  have r0 : Row (w.alloc (.cells #[z0, z1, z2] e)) w.heap.size [z0, z1, z2] e := Row.new w [z0, z1, z2] e
  have e0 : Ext w (w.alloc (.cells #[z0, z1, z2] e)) := (Ext.refl w).alloc _
  obtain ⟨h1, r1⟩ := r0.setMid (A := []) (B := [z1, z2]) (p := ⟨w.heap.size, 0, none⟩) rfl v0
  obtain ⟨h2, r2⟩ := r1.setMid (A := [v0]) (B := [z2]) (p := (⟨w.heap.size, 0, none⟩ : Addr).add 1) rfl v1
  obtain ⟨h3, r3⟩ := r2.setMid (A := [v0, v1]) (B := []) (p := (⟨w.heap.size, 0, none⟩ : Addr).add 2) rfl v2
  exact ⟨h1, h2, h3, hk _ r3 (((e0.set (Nat.le_refl _) _).set (by rw [add_b]; exact Nat.le_refl _) _).set (by rw [add_b]; exact Nat.le_refl _) _)⟩

theorem local4 {w : World} {z0 z1 z2 z3 v0 v1 v2 v3 : Value} {e : TypeId} {K : World → Prop} (hk : ∀ w', Row w' w.heap.size [v0, v1, v2, v3] e → Ext w w' → K w') :
    letW (w.alloc (.cells #[z0, z1, z2, z3] e)) (fun w1 => Wr w1 (⟨w.heap.size, 0, none⟩ : Addr) ∧ letW (w1.setCell (⟨w.heap.size, 0, none⟩ : Addr) v0) (fun w2 => Wr w2 ((⟨w.heap.size, 0, none⟩ : Addr).add 1) ∧
      letW (w2.setCell ((⟨w.heap.size, 0, none⟩ : Addr).add 1) v1) (fun w3 => Wr w3 ((⟨w.heap.size, 0, none⟩ : Addr).add 2) ∧ letW (w3.setCell ((⟨w.heap.size, 0, none⟩ : Addr).add 2) v2)
        (fun w4 => Wr w4 ((⟨w.heap.size, 0, none⟩ : Addr).add 3) ∧ letW (w4.setCell ((⟨w.heap.size, 0, none⟩ : Addr).add 3) v3) K)))) := by
  have r0 : Row (w.alloc (.cells #[z0, z1, z2, z3] e)) w.heap.size [z0, z1, z2, z3] e := Row.new w [z0, z1, z2, z3] e
  have e0 : Ext w (w.alloc (.cells #[z0, z1, z2, z3] e)) := (Ext.refl w).alloc _
  obtain ⟨h1, r1⟩ := r0.setMid (A := []) (B := [z1, z2, z3]) (p := ⟨w.heap.size, 0, none⟩) rfl v0
  obtain ⟨h2, r2⟩ := r1.setMid (A := [v0]) (B := [z2, z3]) (p := (⟨w.heap.size, 0, none⟩ : Addr).add 1) rfl v1
  obtain ⟨h3, r3⟩ := r2.setMid (A := [v0, v1]) (B := [z3]) (p := (⟨w.heap.size, 0, none⟩ : Addr).add 2) rfl v2
  obtain ⟨h4, r4⟩ := r3.setMid (A := [v0, v1, v2]) (B := []) (p := (⟨w.heap.size, 0, none⟩ : Addr).add 3) rfl v3
  exact ⟨h1, h2, h3, h4, hk _ r4 ((((e0.set (Nat.le_refl _) _).set (by rw [add_b]; exact Nat.le_refl _) _).set (by rw [add_b]; exact Nat.le_refl _) _).set (by rw [add_b]; exact Nat.le_refl _) _)⟩

theorem local5 {w : World} {z0 z1 z2 z3 z4 v0 v1 v2 v3 v4 : Value} {e : TypeId} {K : World → Prop} (hk : ∀ w', Row w' w.heap.size [v0, v1, v2, v3, v4] e → Ext w w' → K w') :
    letW (w.alloc (.cells #[z0, z1, z2, z3, z4] e)) (fun w1 => Wr w1 (⟨w.heap.size, 0, none⟩ : Addr) ∧ letW (w1.setCell (⟨w.heap.size, 0, none⟩ : Addr) v0) (fun w2 => Wr w2 ((⟨w.heap.size, 0, none⟩ : Addr).add 1) ∧
      letW (w2.setCell ((⟨w.heap.size, 0, none⟩ : Addr).add 1) v1) (fun w3 => Wr w3 ((⟨w.heap.size, 0, none⟩ : Addr).add 2) ∧ letW (w3.setCell ((⟨w.heap.size, 0, none⟩ : Addr).add 2) v2)
        (fun w4 => Wr w4 ((⟨w.heap.size, 0, none⟩ : Addr).add 3) ∧ letW (w4.setCell ((⟨w.heap.size, 0, none⟩ : Addr).add 3) v3)
          (fun w5 => Wr w5 ((⟨w.heap.size, 0, none⟩ : Addr).add 4) ∧ letW (w5.setCell ((⟨w.heap.size, 0, none⟩ : Addr).add 4) v4) K))))) := by
  have r0 : Row (w.alloc (.cells #[z0, z1, z2, z3, z4] e)) w.heap.size [z0, z1, z2, z3, z4] e := Row.new w [z0, z1, z2, z3, z4] e
  have e0 : Ext w (w.alloc (.cells #[z0, z1, z2, z3, z4] e)) := (Ext.refl w).alloc _
  obtain ⟨h1, r1⟩ := r0.setMid (A := []) (B := [z1, z2, z3, z4]) (p := ⟨w.heap.size, 0, none⟩) rfl v0
  obtain ⟨h2, r2⟩ := r1.setMid (A := [v0]) (B := [z2, z3, z4]) (p := (⟨w.heap.size, 0, none⟩ : Addr).add 1) rfl v1
  obtain ⟨h3, r3⟩ := r2.setMid (A := [v0, v1]) (B := [z3, z4]) (p := (⟨w.heap.size, 0, none⟩ : Addr).add 2) rfl v2
  obtain ⟨h4, r4⟩ := r3.setMid (A := [v0, v1, v2]) (B := [z4]) (p := (⟨w.heap.size, 0, none⟩ : Addr).add 3) rfl v3
  obtain ⟨h5, r5⟩ := r4.setMid (A := [v0, v1, v2, v3]) (B := []) (p := (⟨w.heap.size, 0, none⟩ : Addr).add 4) rfl v4
  exact ⟨h1, h2, h3, h4, h5, hk _ r5 (((((e0.set (Nat.le_refl _) _).set (by rw [add_b]; exact Nat.le_refl _) _).set (by rw [add_b]; exact Nat.le_refl _) _).set (by rw [add_b]; exact Nat.le_refl _) _).set (by rw [add_b]; exact Nat.le_refl _) _)⟩

/-! ## One element more -/

theorem Own.len {α : Type} {c : α → List Value} {n : Nat} {base : Nat} {T : TypeId} {w : World} {l : Sl} {ys : List α} (o : Own base T n w l (ys.flatMap c)) (hc : ∀ x, (c x).length = n) (hn : 1 ≤ n) : l.len = ys.length := by
  have := o.1
  rw [flatMap_len hc] at this
  exact (Nat.eq_of_mul_eq_mul_right (by omega) this).symm

theorem push1 {α : Type} {c : α → List Value} {n bytes base : Nat} {T : TypeId} {w : World} {l : Sl} {ys : List α} {x : α} {K : Sl → World → Prop} (hc : ∀ x, (c x).length = n) (hn : 1 ≤ n) (h1 : ∀ u ∈ c x, u.oneCell' = true)
    (o : Own base T n w l (ys.flatMap c)) (hb : base ≤ w.heap.size) (hlen : ys.length ≤ 1000000000) (hby : bytes ≤ 1024)
    (hk : ∀ s' wm w', s'.len = ys.length + 1 → Own base T n w' s' ((ys ++ [x]).flatMap c) → Ext w wm → Own base T n wm l (ys.flatMap c) → wm.grownBy w' l.v.ownBlock → K s' w') :
    letW (w.alloc (.cells (c x).toArray T)) (fun w5 => sAppend T n bytes ⟨l.a, l.len, l.cap⟩ ⟨some (⟨w.heap.size, 0, none⟩ : Addr), 1, 1⟩ w5 K) := by
  have r : Row (w.alloc (.cells (c x).toArray T)) w.heap.size (c x) T := Row.new w (c x) T
  have e5 : Ext w (w.alloc (.cells (c x).toArray T)) := (Ext.refl w).alloc _
  have o5 : Own base T n (w.alloc (.cells (c x).toArray T)) l (ys.flatMap c) := o.ext e5
  have hll := o.len hc hn
  refine sAppend_i o5 (Src.row r (by simp [hc]) h1) ?_ (by simp only [hll]; omega) (Nat.le_trans hb e5.size) (fun s' w' hl' o' hg' => hk s' _ w' (by rw [hl', hll]) ?_ e5 o5 hg')
  · have h2 : (l.len + 1) * bytes ≤ 1000000001 * 1024 := Nat.mul_le_mul (by omega) hby
    simp only; omega
  · simpa using o'

theorem Chg.own {a w w' : World} {b base : Nat} {e : TypeId} {size : Nat} {s : Sl} {vs : List Value} (h : Chg b a w) (ho : Own base e size w s vs) (hg : w.grownBy w' s.v.ownBlock) (hb : a.heap.size ≤ base) : Chg b a w' := by
  refine ⟨hg.os.trans h.os, hg.tape.trans h.tape, hg.output.trans h.output, Nat.le_trans h.size hg.size, fun i hi hn => ?_⟩
  refine (hg.block i (Nat.lt_of_lt_of_le hi h.size) (fun hr => ?_)).trans (h.block i hi hn)
  have := (ho.lt i hr.symm).1
  omega

/-! ## An element of a row written -/

theorem at_add (b k n j : Nat) : ((⟨b, 0, none⟩ : Addr).add ((k : Int).toNat * n)).add j = (⟨b, 0, none⟩ : Addr).add (k * n + j) := at_idx b k n j

theorem put3 {w : World} {b k : Nat} {A B : List Value} {z0 z1 z2 v0 v1 v2 : Value} {e : TypeId} {K : World → Prop} (h : Row w b (A ++ z0 :: z1 :: z2 :: B) e) (hA : A.length = k * 3)
    (hk : ∀ w', Row w' b (A ++ v0 :: v1 :: v2 :: B) e → (∀ a : World, Ext a w → a.heap.size ≤ b → Ext a w') → K w') :
    Wr w ((⟨b, 0, none⟩ : Addr).add ((k : Int).toNat * 3)) ∧ letW (w.setCell ((⟨b, 0, none⟩ : Addr).add ((k : Int).toNat * 3)) v0) (fun w1 => Wr w1 (((⟨b, 0, none⟩ : Addr).add ((k : Int).toNat * 3)).add 1) ∧
      letW (w1.setCell (((⟨b, 0, none⟩ : Addr).add ((k : Int).toNat * 3)).add 1) v1) (fun w2 => Wr w2 (((⟨b, 0, none⟩ : Addr).add ((k : Int).toNat * 3)).add 2) ∧ letW (w2.setCell (((⟨b, 0, none⟩ : Addr).add ((k : Int).toNat * 3)).add 2) v2) K)) := by
  obtain ⟨h1, r1⟩ := h.setMid (p := (⟨b, 0, none⟩ : Addr).add ((k : Int).toNat * 3)) (by rw [Int.toNat_natCast, hA]) v0
  obtain ⟨h2, r2⟩ := Row.setMid (A := A ++ [v0]) (B := z2 :: B) (o := z1) (p := ((⟨b, 0, none⟩ : Addr).add ((k : Int).toNat * 3)).add 1) (by simpa using r1) (by rw [at_add]; simp [hA]) v1
  obtain ⟨h3, r3⟩ := Row.setMid (A := A ++ [v0, v1]) (B := B) (o := z2) (p := ((⟨b, 0, none⟩ : Addr).add ((k : Int).toNat * 3)).add 2) (by simpa using r2) (by rw [at_add]; simp [hA]) v2
  refine ⟨h1, h2, h3, hk _ (by simpa using r3) fun a ha hb => ?_⟩
  exact ((ha.set (by rw [add_b]; exact hb) _).set (by rw [at_add, add_b]; exact hb) _).set (by rw [at_add, add_b]; exact hb) _

/-! ## Rows written whole -/

theorem Chg.row {b : Nat} {a w : World} (h : Chg b a w) (cs : Array Value) : Chg b a (w.setRow b cs) :=
  h.trans ⟨rfl, rfl, rfl, by simp [World.setRow], fun k _ hn => setRow_other w b k _ (fun e => hn (by rw [e]))⟩

theorem Row.put {w : World} {b : Nat} {vs : List Value} {e : TypeId} (h : Row w b vs e) (us : List Value) : Row (w.setRow b us.toArray) b us e := setRow_heap w b _ _ e _ h

theorem Row.putOther {w : World} {b g : Nat} {vs : List Value} {e : TypeId} (h : Row w b vs e) (hn : b ≠ g) (cs : Array Value) : Row (w.setRow g cs) b vs e :=
  h.of_same (setRow_other w g b _ hn)

theorem seg_len {l cs : List Value} {o : Nat} (h : o + cs.length ≤ l.length) : (l.take o ++ cs ++ l.drop (o + cs.length)).length = l.length := by
  simp only [List.length_append, List.length_take, List.length_drop]; omega

theorem seg_take {l cs : List Value} {o : Nat} (h : o + cs.length ≤ l.length) : (l.take o ++ cs ++ l.drop (o + cs.length)).take (o + cs.length) = l.take o ++ cs := by
  rw [List.take_append_of_le_length (by simp only [List.length_append, List.length_take]; omega)]
  exact List.take_of_length_le (by simp only [List.length_append, List.length_take]; omega)

theorem seg_take0 {l cs : List Value} {o : Nat} (h : o + cs.length ≤ l.length) : (l.take o ++ cs ++ l.drop (o + cs.length)).take o = l.take o := by
  rw [List.append_assoc, List.take_append_of_le_length (by simp only [List.length_take]; omega)]
  exact List.take_of_length_le (by simp only [List.length_take]; omega)

theorem tk_get {cur vs : List Value} {m : Nat} (h : cur.take m = vs) {k : Nat} {v : Value} (hv : vs[k]? = some v) : cur[k]? = some v := by
  rw [← h, List.getElem?_take] at hv
  split at hv
  · exact hv
  · cases hv

theorem take_pre {cur xs ys : List Value} {m : Nat} (h : cur.take m = xs ++ ys) : cur.take xs.length = xs := by
  have h1 : xs.length ≤ m := by
    have := congrArg List.length h
    simp only [List.length_take, List.length_append] at this
    omega
  have := congrArg (List.take xs.length) h
  rwa [List.take_take, Nat.min_eq_left h1, List.take_append_of_le_length (Nat.le_refl _), List.take_length] at this

theorem resl_some (a : Addr) (cap l size : Nat) : ∃ a', resl (some a) cap l size = some a' ∧ (l < cap → a' = a.add (l * size)) := by
  unfold resl
  split
  · exact ⟨a, rfl, fun h => by omega⟩
  · exact ⟨_, rfl, fun _ => rfl⟩

theorem resl_lt {a : Addr} {cap l size : Nat} (h : l < cap) : resl (some a) cap l size = some (a.add (l * size)) := by
  unfold resl
  rw [if_neg (by omega)]
  rfl

theorem SlOf.none_nil {α : Type} {c : α → List Value} {n : Nat} {w : World} {s : Sl} {xs : List α} (h : SlOf c w s xs) (hc : ∀ x, (c x).length = n) (hn : 0 < n) (ha : s.a = none) : xs = [] := by
  cases xs with
  | nil => rfl
  | cons x r =>
    have hl : 0 < (c x).length := by rw [hc]; exact hn
    obtain ⟨a, h1, _⟩ := h.cell hc (i := 0) (x := x) rfl (j := 0) (v := (c x)[0]) (List.getElem?_eq_getElem hl)
    rw [ha] at h1; cases h1

/-- An owned slice that is not empty: its block, whole. -/
theorem Own.row {α : Type} {c : α → List Value} {base : Nat} {e : TypeId} {size : Nat} {w : World} {s : Sl} {xs : List α} (h : Own base e size w s (xs.flatMap c)) (hc : ∀ x, (c x).length = size) (hs : 0 < size) (hne : xs ≠ []) :
    ∃ g cur, s = ⟨some ⟨g, 0, none⟩, xs.length, s.cap⟩ ∧ base ≤ g ∧ Row w g cur e ∧ xs.length ≤ s.cap ∧ s.cap ≤ maxLen ∧ cur.length = s.cap * size ∧ cur.take (xs.length * size) = xs.flatMap c := by
  have hl := h.len hc hs
  have hpos := List.length_pos_iff.2 hne
  obtain ⟨a, l, k⟩ := s
  simp only at hl
  subst hl
  rcases h.2 with ⟨hv, hn⟩ | ⟨g, cap, cur, hv, hb, hg, hnc, hcm, hcs, htake⟩
  · simp only at hn; omega
  · simp only [Sl.v, Value.slice.injEq] at hv
    obtain ⟨rfl, _, rfl⟩ := hv
    exact ⟨g, cur.toList, rfl, hb, by unfold Row; simpa using hg, hnc, hcm, by simpa using hcs, htake⟩

theorem Own.ofRowTake {base g n cap size : Nat} {e : TypeId} {w : World} {cur vs : List Value} (h : Row w g cur e) (hb : base ≤ g) (hn : n ≤ cap) (hm : cap ≤ maxLen) (hl : cur.length = cap * size) (hv : vs.length = n * size) (ht : cur.take (n * size) = vs) :
    Own base e size w ⟨some ⟨g, 0, none⟩, n, cap⟩ vs :=
  ⟨hv, .inr ⟨g, cap, cur.toArray, rfl, hb, h, hn, hm, by simp [hl], by simpa using ht⟩⟩

theorem Own.toNil {base : Nat} {e : TypeId} {size : Nat} {w : World} {s : Sl} (h : Own base e size w s []) (hs : 0 < size) : s.len = 0 := by
  have := h.1
  simp only [List.length_nil] at this
  rcases Nat.mul_eq_zero.1 this.symm with h | h <;> omega

theorem add_nought (a : Addr) : a.add 0 = a := by simp [Addr.add]

theorem Own.base_le {base b : Nat} {e : TypeId} {size : Nat} {w : World} {s : Sl} {vs : List Value} (h : Own base e size w s vs) (hb : b ≤ base) : Own b e size w s vs := by
  refine ⟨h.1, ?_⟩
  rcases h.2 with hn | ⟨g, cap, cur, hv, hg, rest⟩
  · exact .inl hn
  · exact .inr ⟨g, cap, cur, hv, Nat.le_trans hb hg, rest⟩

theorem SlOf.grown {α : Type} {c : α → List Value} {w w' : World} {s : Sl} {xs : List α} {row : Option Nat} (h : SlOf c w s xs) (hg : w.grownBy w' row) (hne : ∀ a, s.a = some a → some a.block ≠ row) : SlOf c w' s xs :=
  ⟨h.len, h.cap, fun k v hv => let ⟨a, ha, hcell⟩ := h.at_ k v hv; ⟨a, ha, hg.cell hcell (by rw [add_block]; exact hne a ha)⟩⟩

/-- Where a slice that reads as a list that is not empty lies. -/
theorem SlOf.block_lt {α : Type} {c : α → List Value} {n : Nat} {w : World} {s : Sl} {xs : List α} (h : SlOf c w s xs) (hc : ∀ x, (c x).length = n) (hn : 0 < n) (hne : xs ≠ []) {a : Addr} (ha : s.a = some a) : a.block < w.heap.size := by
  cases xs with
  | nil => exact absurd rfl hne
  | cons x r =>
    have hl : 0 < (c x).length := by rw [hc]; exact hn
    obtain ⟨a', h1, hcell⟩ := h.cell hc (i := 0) (x := x) rfl (j := 0) (v := (c x)[0]) (List.getElem?_eq_getElem hl)
    rw [ha] at h1
    obtain rfl := Option.some.inj h1
    have := World.block_lt_of_cell? w _ hcell
    rwa [add_block, add_block] at this

/-- What came ahead of an owned row's base stays, whatever changes in the row. -/
theorem SlOf.old {α : Type} {c : α → List Value} {n : Nat} {w0 w w' : World} {s : Sl} {xs : List α} {row : Option Nat} (h0 : SlOf c w0 s xs) (h : SlOf c w s xs) (hc : ∀ x, (c x).length = n) (hn : 0 < n) (hg : w.grownBy w' row) (hr : ∀ k, row = some k → w0.heap.size ≤ k) : SlOf c w' s xs := by
  by_cases hne : xs = []
  · subst hne
    exact ⟨h.len, h.cap, fun k v hv => by simp at hv⟩
  · exact h.grown hg fun a ha hk => by
      have := hr _ hk.symm
      have := h0.block_lt hc hn hne ha
      omega

/-- An element of three cells of an owned slice is written. -/
theorem Own.put3 {α : Type} {c : α → List Value} {base : Nat} {e : TypeId} {w : World} {l : Sl} {A B : List α} {x y : α} {v0 v1 v2 : Value} {K : World → Prop} (hc : ∀ x, (c x).length = 3) (o : Own base e 3 w l ((A ++ x :: B).flatMap c)) (hy : c y = [v0, v1, v2])
    (hk : ∀ w', Own base e 3 w' l ((A ++ y :: B).flatMap c) → w.grownBy w' l.v.ownBlock → K w') :
    ∃ a, l.a = some a ∧ A.length < l.len ∧ (Wr w (a.add ((A.length : Int).toNat * 3)) ∧ letW (w.setCell (a.add ((A.length : Int).toNat * 3)) v0) (fun w1 => Wr w1 ((a.add ((A.length : Int).toNat * 3)).add 1) ∧
      letW (w1.setCell ((a.add ((A.length : Int).toNat * 3)).add 1) v1) (fun w2 => Wr w2 ((a.add ((A.length : Int).toNat * 3)).add 2) ∧ letW (w2.setCell ((a.add ((A.length : Int).toNat * 3)).add 2) v2) K))) := by
  obtain ⟨g, cur, hs, hb, hr, hnc, hcm, hcl, htk⟩ := o.row hc (by decide) (by simp)
  have fA : (A.flatMap c).length = A.length * 3 := flatMap_len hc A
  have fB : (B.flatMap c).length = B.length * 3 := flatMap_len hc B
  have hx3 := hc x
  obtain ⟨z0, z1, z2, hz⟩ : ∃ z0 z1 z2, c x = [z0, z1, z2] := by
    match hcx : c x, hx3 with
    | [z0, z1, z2], _ => exact ⟨z0, z1, z2, rfl⟩
  generalize hcap : l.cap = cap at *
  subst hs
  have hcur : cur = A.flatMap c ++ z0 :: z1 :: z2 :: (B.flatMap c ++ cur.drop ((A ++ x :: B).length * 3)) := by
    conv => lhs; rw [← List.take_append_drop ((A ++ x :: B).length * 3) cur, htk]
    simp [hz]
  generalize hD : cur.drop ((A ++ x :: B).length * 3) = D at hcur
  have hDl : D.length = (cap - (A ++ x :: B).length) * 3 := by
    rw [← hD, List.length_drop, hcl]; omega
  rw [hcur] at hr
  refine ⟨_, rfl, by simp, ?_⟩
  have hlenE : (A ++ y :: B).length = (A ++ x :: B).length := by simp
  have r0 := hr
  obtain ⟨h1, r1⟩ := hr.setMid (p := (⟨g, 0, none⟩ : Addr).add ((A.length : Int).toNat * 3)) (by rw [Int.toNat_natCast, fA]) v0
  obtain ⟨h2, r2⟩ := Row.setMid (A := A.flatMap c ++ [v0]) (B := z2 :: (B.flatMap c ++ D)) (o := z1) (p := ((⟨g, 0, none⟩ : Addr).add ((A.length : Int).toNat * 3)).add 1) (by simpa using r1) (by rw [at_add]; simp [fA]) v1
  obtain ⟨h3, r3⟩ := Row.setMid (A := A.flatMap c ++ [v0, v1]) (B := B.flatMap c ++ D) (o := z2) (p := ((⟨g, 0, none⟩ : Addr).add ((A.length : Int).toNat * 3)).add 2) (by simpa using r2) (by rw [at_add]; simp [fA]) v2
  refine ⟨h1, h2, h3, hk _ ?_ ?_⟩
  · refine Own.ofRowTake (cur := A.flatMap c ++ v0 :: v1 :: v2 :: (B.flatMap c ++ D)) (by have h' := r3; simp only [List.append_assoc, List.cons_append, List.nil_append] at h'; exact h') hb hnc hcm ?_ ?_ ?_
    · simp only [List.length_append, List.length_cons, fA, fB, hDl]; simp at hnc ⊢; omega
    · rw [flatMap_len hc, hlenE]
    · have e1 : (A ++ y :: B).flatMap c = A.flatMap c ++ v0 :: v1 :: v2 :: B.flatMap c := by simp [hy]
      rw [e1, show A.flatMap c ++ v0 :: v1 :: v2 :: (B.flatMap c ++ D) = (A.flatMap c ++ v0 :: v1 :: v2 :: B.flatMap c) ++ D by simp]
      rw [List.take_append_of_le_length (by simp [fA, fB]; omega), List.take_of_length_le (by simp [fA, fB]; omega)]
  · exact (((Chg.refl g w).set (by rw [add_block]) _).set (by rw [add_block, add_block]) _).set (by rw [add_block, add_block]) _

/-- A slice cut at its front. -/
theorem SlOf.drop {α : Type} {c : α → List Value} {n : Nat} {w : World} {s : Sl} {xs : List α} (h : SlOf c w s xs) (hc : ∀ x, (c x).length = n) {k : Nat} (hk : k ≤ s.len) : SlOf c w ⟨resl s.a s.cap k n, s.len - k, s.cap - k⟩ (xs.drop k) := by
  have hl := h.len
  have hcap := h.cap
  refine ⟨by simp [hl], by simp only; omega, fun i v hi => ?_⟩
  by_cases hkc : s.cap = k
  · have : xs.drop k = [] := List.drop_of_length_le (by omega)
    rw [this] at hi
    simp at hi
  have hx : (xs.flatMap c)[k * n + i]? = some v := by
    conv => lhs; rw [← List.take_append_drop k xs]
    have ht : ((xs.take k).flatMap c).length = k * n := by rw [flatMap_len hc, List.length_take, Nat.min_eq_left (by omega)]
    rw [List.flatMap_append, List.getElem?_append_right (by omega), ht, Nat.add_sub_cancel_left]
    exact hi
  obtain ⟨a, ha, hcell⟩ := h.at_ _ _ hx
  refine ⟨a.add (k * n), ?_, by rw [add_add']; exact hcell⟩
  simp only [resl, if_neg hkc, ha, Option.map_some]

/-- A slice cut at its end. -/
theorem SlOf.front {α : Type} {c : α → List Value} {w : World} {s : Sl} {xs : List α} (h : SlOf c w s xs) {k : Nat} (hk : k ≤ s.len) : SlOf c w ⟨s.a, k, s.cap⟩ (xs.take k) := by
  have hl := h.len
  refine ⟨by simp; omega, Nat.le_trans hk h.cap, fun i v hi => h.at_ i v ?_⟩
  conv => lhs; rw [← List.take_append_drop k xs]
  rw [List.flatMap_append, List.getElem?_append_left (List.getElem?_eq_some_iff.1 hi).1]
  exact hi

/-- A cell of an owned slice is written. -/
theorem Own.setAt {base n : Nat} {e : TypeId} {w : World} {l : Sl} {vs : List Value} {k : Nat} (o : Own base e n w l vs) (hk : k < vs.length) (v : Value) :
    ∃ g, l.a = some ⟨g, 0, none⟩ ∧ Wr w ((⟨g, 0, none⟩ : Addr).add k) ∧ Own base e n (w.setCell ((⟨g, 0, none⟩ : Addr).add k) v) l (vs.set k v) ∧ w.grownBy (w.setCell ((⟨g, 0, none⟩ : Addr).add k) v) l.v.ownBlock := by
  obtain ⟨a, ll, c⟩ := l
  rcases o.2 with ⟨hv, hn⟩ | ⟨g, cap, cur, hv, hb, hg, hnc, hcm, hcs, htk⟩
  · have h1 := o.1
    simp only at hn h1
    rw [hn, Nat.zero_mul] at h1
    omega
  · simp only [Sl.v, Value.slice.injEq] at hv
    obtain ⟨rfl, _, rfl⟩ := hv
    simp only at htk
    have hr : Row w g cur.toList e := by unfold Row; simpa using hg
    have hkc : k < cur.toList.length := by
      rw [← htk, List.length_take] at hk; omega
    refine ⟨g, rfl, hr.wr hkc, Own.ofRowTake (hr.set k v) hb hnc hcm (by rw [List.length_set]; simpa using hcs) ?_ ?_, ?_⟩
    · rw [List.length_set]; exact o.1
    · rw [List.take_set, htk]
    · exact (Chg.refl g w).set (by rw [add_block]) _

theorem set_mid {A B : List Value} {z v : Value} {k : Nat} (hk : k = A.length) : (A ++ z :: B).set k v = A ++ v :: B := by
  subst hk
  rw [List.set_append_right _ _ (Nat.le_refl _), Nat.sub_self, List.set_cons_zero]

/-- An element of four cells of an owned slice is written. -/
theorem Own.put4 {α : Type} {c : α → List Value} {base : Nat} {e : TypeId} {w : World} {l : Sl} {A B : List α} {x y : α} {v0 v1 v2 v3 : Value} {K : World → Prop} (hc : ∀ x, (c x).length = 4) (o : Own base e 4 w l ((A ++ x :: B).flatMap c)) (hy : c y = [v0, v1, v2, v3])
    (hk : ∀ w', Own base e 4 w' l ((A ++ y :: B).flatMap c) → w.grownBy w' l.v.ownBlock → K w') :
    ∃ a, l.a = some a ∧ A.length < l.len ∧ (Wr w (a.add ((A.length : Int).toNat * 4)) ∧ letW (w.setCell (a.add ((A.length : Int).toNat * 4)) v0) (fun w1 => Wr w1 ((a.add ((A.length : Int).toNat * 4)).add 1) ∧
      letW (w1.setCell ((a.add ((A.length : Int).toNat * 4)).add 1) v1) (fun w2 => Wr w2 ((a.add ((A.length : Int).toNat * 4)).add 2) ∧ letW (w2.setCell ((a.add ((A.length : Int).toNat * 4)).add 2) v2)
        (fun w3 => Wr w3 ((a.add ((A.length : Int).toNat * 4)).add 3) ∧ letW (w3.setCell ((a.add ((A.length : Int).toNat * 4)).add 3) v3) K)))) := by
  have hl := o.len hc (by decide)
  have fA : (A.flatMap c).length = A.length * 4 := flatMap_len hc A
  have hx4 := hc x
  obtain ⟨z0, z1, z2, z3, hz⟩ : ∃ z0 z1 z2 z3, c x = [z0, z1, z2, z3] := by
    match hcx : c x, hx4 with
    | [z0, z1, z2, z3], _ => exact ⟨z0, z1, z2, z3, rfl⟩
  have hvs : (A ++ x :: B).flatMap c = A.flatMap c ++ z0 :: z1 :: z2 :: z3 :: B.flatMap c := by simp [hz]
  rw [hvs] at o
  obtain ⟨g, hg, p1, o1, g1⟩ := o.setAt (k := A.length * 4) (by simp [fA]) v0
  rw [set_mid fA.symm] at o1
  obtain ⟨g', hg', p2, o2, g2⟩ := o1.setAt (k := A.length * 4 + 1) (by simp [fA]) v1
  rw [show A.flatMap c ++ v0 :: z1 :: z2 :: z3 :: B.flatMap c = (A.flatMap c ++ [v0]) ++ z1 :: z2 :: z3 :: B.flatMap c by simp, set_mid (by simp [fA])] at o2
  rw [hg] at hg'
  obtain rfl : g = g' := by simpa using hg'
  obtain ⟨g'', hg'', p3, o3, g3⟩ := o2.setAt (k := A.length * 4 + 2) (by simp [fA]) v2
  rw [show (A.flatMap c ++ [v0]) ++ v1 :: z2 :: z3 :: B.flatMap c = (A.flatMap c ++ [v0, v1]) ++ z2 :: z3 :: B.flatMap c by simp, set_mid (by simp [fA])] at o3
  rw [hg] at hg''
  obtain rfl : g = g'' := by simpa using hg''
  obtain ⟨g3', hg3, p4, o4, g4⟩ := o3.setAt (k := A.length * 4 + 3) (by simp [fA]) v3
  rw [show (A.flatMap c ++ [v0, v1]) ++ v2 :: z3 :: B.flatMap c = (A.flatMap c ++ [v0, v1, v2]) ++ z3 :: B.flatMap c by simp, set_mid (by simp [fA])] at o4
  rw [hg] at hg3
  obtain rfl : g = g3' := by simpa using hg3
  refine ⟨⟨g, 0, none⟩, hg, by rw [hl]; simp, ?_⟩
  simp only [Int.toNat_natCast, add_add']
  unfold letW
  refine ⟨p1, p2, p3, p4, hk _ ?_ ?_⟩
  · rw [show (A ++ y :: B).flatMap c = (A.flatMap c ++ [v0, v1, v2]) ++ v3 :: B.flatMap c by simp [hy]]
    exact o4
  · have tr : ∀ {a b d : World}, a.grownBy b l.v.ownBlock → b.grownBy d l.v.ownBlock → a.grownBy d l.v.ownBlock := fun h k =>
      ⟨k.os.trans h.os, k.tape.trans h.tape, k.output.trans h.output, Nat.le_trans h.size k.size, fun i hi hn => (k.block i (Nat.lt_of_lt_of_le hi h.size) hn).trans (h.block i hi hn)⟩
    exact tr (tr (tr g1 g2) g3) g4

/-- An element of one cell of an owned slice is written. -/
theorem Own.put1 {α : Type} {c : α → List Value} {base : Nat} {e : TypeId} {w : World} {l : Sl} {A B : List α} {x y : α} {v0 : Value} {K : World → Prop} (hc : ∀ x, (c x).length = 1) (o : Own base e 1 w l ((A ++ x :: B).flatMap c)) (hy : c y = [v0])
    (hk : ∀ w', Own base e 1 w' l ((A ++ y :: B).flatMap c) → w.grownBy w' l.v.ownBlock → K w') :
    ∃ a, l.a = some a ∧ A.length < l.len ∧ (Wr w (a.add ((A.length : Int).toNat * 1)) ∧ letW (w.setCell (a.add ((A.length : Int).toNat * 1)) v0) K) := by
  have hl := o.len hc (by decide)
  have fA : (A.flatMap c).length = A.length := by rw [flatMap_len hc, Nat.mul_one]
  have hx1 := hc x
  obtain ⟨z0, hz⟩ : ∃ z0, c x = [z0] := by
    match hcx : c x, hx1 with
    | [z0], _ => exact ⟨z0, rfl⟩
  have hvs : (A ++ x :: B).flatMap c = A.flatMap c ++ z0 :: B.flatMap c := by simp [hz]
  rw [hvs] at o
  obtain ⟨g, hg, p1, o1, g1⟩ := o.setAt (k := A.length) (by simp [fA]) v0
  rw [set_mid fA.symm] at o1
  refine ⟨⟨g, 0, none⟩, hg, by rw [hl]; simp, ?_⟩
  simp only [at_idx1]
  unfold letW
  refine ⟨p1, hk _ ?_ g1⟩
  rw [show (A ++ y :: B).flatMap c = A.flatMap c ++ v0 :: B.flatMap c by simp [hy]]
  exact o1

theorem grown_trans {a b d : World} {row : Option Nat} (h : a.grownBy b row) (k : b.grownBy d row) : a.grownBy d row :=
  ⟨k.os.trans h.os, k.tape.trans h.tape, k.output.trans h.output, Nat.le_trans h.size k.size, fun i hi hn => (k.block i (Nat.lt_of_lt_of_le hi h.size) hn).trans (h.block i hi hn)⟩
theorem grown_ext {a b : World} {row : Option Nat} (h : Ext a b) : a.grownBy b row := ⟨h.os, h.tape, h.output, h.size, fun i hi _ => h.block i hi⟩
theorem grown_refl (a : World) (row : Option Nat) : a.grownBy a row := ⟨rfl, rfl, rfl, Nat.le_refl _, fun _ _ _ => rfl⟩

/-- A whole new row of elements made anew, as an owned slice. -/
theorem Own.made {α : Type} {c : α → List Value} {n : Nat} (hc : ∀ x, (c x).length = n) (z : α) (w : World) (e : TypeId) (k : Nat) (hn : 0 < n) (hk : k ≤ maxLen) :
    Own w.heap.size e n (w.alloc (.cells (madeCells (c z).toArray (k * n)) e)) ⟨some ⟨w.heap.size, 0, none⟩, k, k⟩ ((List.replicate k z).flatMap c) := by
  have h0 : (c z) ≠ [] := fun h => by have := hc z; rw [h] at this; simp at this; omega
  have hm := madeCells_agg (c z) h0 k
  rw [hc z] at hm
  rw [hm]
  have hf : (List.replicate k (c z)).flatten = (List.replicate k z).flatMap c := by
    simp [List.flatMap_replicate]
  rw [hf]
  exact Own.ofRow (Row.new w _ _) (by rw [flatMap_len hc]; simp) (Nat.le_refl _) hk

/-! ## Where an appended slice lies -/

theorem sAppend_at {e : TypeId} {size bytes base : Nat} {s x : Sl} {w : World} {K : Sl → World → Prop} {vs ys : List Value} (h : Own base e size w s vs) (hx : Src w x size ys)
    (hb : (s.len + x.len) * bytes ≤ 140737488355328) (hl : s.len + x.len ≤ 140737488355328) (hbase : base ≤ w.heap.size)
    (hK : ∀ s' w', s'.len = s.len + x.len → Own base e size w' s' (vs ++ ys) → w.grownBy w' s.v.ownBlock → (s'.v.ownBlock = s.v.ownBlock ∨ s'.v.ownBlock = some w.heap.size) → K s' w') : sAppend e size bytes s x w K :=
  .inl ⟨base, vs, ys, h, hx, by unfold maxLen; omega, hb, hbase, fun s' w' h1 h2 h3 _ h5 => hK s' w' h1 h2 h3 h5⟩

/-- The slice is nil, or lies at the block 'b', or in memory from 'n' on. -/
def Late (b n : Nat) (s : Sl) : Prop := ∀ k, s.v.ownBlock = some k → k = b ∨ n ≤ k

/-- The slice lies elsewhere: not at 'b', and ahead of 'n'. -/
def Away (b n : Nat) (s : Sl) : Prop := ∀ a, s.a = some a → a.block ≠ b ∧ a.block < n

theorem Late.new (b n l c : Nat) : Late b n ⟨some ⟨b, 0, none⟩, l, c⟩ := fun k hk => .inl (by
  have : some b = some k := hk
  exact (Option.some.inj this).symm)

theorem Late.nil (b n : Nat) : Late b n ⟨none, 0, 0⟩ := fun k hk => by cases hk

theorem push1_at {α : Type} {c : α → List Value} {n bytes base b0 n0 : Nat} {T : TypeId} {w : World} {l : Sl} {ys : List α} {x : α} {K : Sl → World → Prop} (hc : ∀ x, (c x).length = n) (hn : 1 ≤ n) (h1 : ∀ u ∈ c x, u.oneCell' = true)
    (o : Own base T n w l (ys.flatMap c)) (hb : base ≤ w.heap.size) (hlen : ys.length ≤ 1000000000) (hby : bytes ≤ 1024) (hlate : Late b0 n0 l) (hn0 : n0 ≤ w.heap.size)
    (hk : ∀ s' wm w', s'.len = ys.length + 1 → Own base T n w' s' ((ys ++ [x]).flatMap c) → Ext w wm → Own base T n wm l (ys.flatMap c) → wm.grownBy w' l.v.ownBlock → Late b0 n0 s' → K s' w') :
    letW (w.alloc (.cells (c x).toArray T)) (fun w5 => sAppend T n bytes ⟨l.a, l.len, l.cap⟩ ⟨some (⟨w.heap.size, 0, none⟩ : Addr), 1, 1⟩ w5 K) := by
  have r : Row (w.alloc (.cells (c x).toArray T)) w.heap.size (c x) T := Row.new w (c x) T
  have e5 : Ext w (w.alloc (.cells (c x).toArray T)) := (Ext.refl w).alloc _
  have o5 : Own base T n (w.alloc (.cells (c x).toArray T)) l (ys.flatMap c) := o.ext e5
  have hll := o.len hc hn
  refine sAppend_at o5 (Src.row r (by simp [hc]) h1) ?_ (by simp only [hll]; omega) (Nat.le_trans hb e5.size) (fun s' w' hl' o' hg' hat => hk s' _ w' (by rw [hl', hll]) ?_ e5 o5 hg' ?_)
  · have h2 : (l.len + 1) * bytes ≤ 1000000001 * 1024 := Nat.mul_le_mul (by omega) hby
    simp only; omega
  · simpa using o'
  · intro k hk'
    rcases hat with hat | hat
    · exact hlate k (by rw [← hk', hat])
    · right
      rw [hk'] at hat
      have := Option.some.inj hat
      rw [World.size_alloc] at this
      omega

theorem SlOf.late {α : Type} {c : α → List Value} {b n : Nat} {w w' : World} {s l : Sl} {xs : List α} (h : SlOf c w s xs) (hg : w.grownBy w' l.v.ownBlock) (hl : Late b n l) (ha : Away b n s) : SlOf c w' s xs :=
  h.grown hg fun a hs hk => by
    have h1 := ha a hs
    rcases hl _ hk.symm with h2 | h2
    · exact h1.1 h2
    · omega

theorem Row.late {b n g : Nat} {w w' : World} {l : Sl} {vs : List Value} {e : TypeId} (h : Row w g vs e) (hg : w.grownBy w' l.v.ownBlock) (hl : Late b n l) (h1 : g ≠ b) (h2 : g < n) : Row w' g vs e :=
  h.grown hg fun hk => by
    rcases hl _ hk with h3 | h3
    · exact h1 h3
    · omega

theorem Own.away {base : Nat} {e : TypeId} {size b n : Nat} {w : World} {s : Sl} {vs : List Value} (h : Own base e size w s vs) (hb : b < base) (hn : w.heap.size ≤ n) : Away b n s := fun a ha => by
  have h1 : s.v.ownBlock = some a.block := by simp [Sl.v, Value.ownBlock, ha]
  have := h.lt _ h1
  omega

end Go.Vc
