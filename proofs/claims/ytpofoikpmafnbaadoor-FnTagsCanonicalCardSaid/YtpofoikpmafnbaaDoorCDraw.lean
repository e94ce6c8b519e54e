/-
  What functions of this seat compute, part 'Draw': contracts over their readable predicates. Conditions: each theorem's own hypotheses.
-/
import Derived.Test.YtpofoikpmafnbaaDoorBase
import Derived.Test.YtpofoikpmafnbaaDoorOpen
import Derived.Test.YtpofoikpmafnbaaDoorGen
namespace Go.Proofs
open Go Go.Vc Go.RowKit
set_option maxRecDepth 100000
set_option linter.unusedVariables false
--!
/-! ## The reader of a code -/

/-- A reader: its block, the bytes, how many numbers it has given at most. -/
def Rd (w : World) (b : Nat) (bs : List UInt8) (B : Nat) : Prop :=
  ∃ (sl : Sl) (p : Nat) (e : TypeId), p ≤ B ∧ Row w b [.slice sl.a sl.len sl.cap, .int .i64 p] e ∧ Bytes w sl bs ∧ (bs = [] ∨ ∀ a, sl.a = some a → a.block < b) ∧ bs.length ≤ 2000

theorem bytes_keep {w w' : World} {b : Nat} {sl : Sl} {bs : List UInt8} (h : Bytes w sl bs) (hu : bs = [] ∨ ∀ a, sl.a = some a → a.block < b) (hc : Chg b w w') : Bytes w' sl bs := by
  rcases hu with rfl | hu
  · exact ⟨h.len, h.cap, fun k v hv => by simp at hv⟩
  · exact h.chg hc (fun a ha => by have := hu a ha; omega)

theorem bytes_old {w : World} {sl : Sl} {bs : List UInt8} (h : Bytes w sl bs) : bs = [] ∨ ∀ a, sl.a = some a → a.block < w.heap.size := by
  cases bs with
  | nil => exact .inl rfl
  | cons c r =>
    right
    intro a ha
    obtain ⟨a', ha', hc⟩ := h.at_ 0 _ rfl
    rw [ha] at ha'
    obtain rfl := Option.some.inj ha'
    have := World.block_lt_of_cell? w _ hc
    rwa [add_block] at this

theorem Rd.mono {w : World} {b : Nat} {bs : List UInt8} {B B' : Nat} (h : Rd w b bs B) (hB : B ≤ B') : Rd w b bs B' :=
  let ⟨sl, p, e, h1, h2⟩ := h
  ⟨sl, p, e, Nat.le_trans h1 hB, h2⟩

theorem Rd.lt {w : World} {b : Nat} {bs : List UInt8} {B : Nat} (h : Rd w b bs B) : b < w.heap.size := let ⟨_, _, _, _, h2, _⟩ := h; h2.lt

theorem Rd.ext {w w' : World} {b : Nat} {bs : List UInt8} {B : Nat} (h : Rd w b bs B) (he : Ext w w') : Rd w' b bs B :=
  let ⟨sl, p, e, h1, h2, h3, h4⟩ := h
  ⟨sl, p, e, h1, h2.ext he, h3.ext he, h4⟩

/-- Another block changes, made behind the reader. -/
theorem Rd.grown {w w' : World} {b : Nat} {bs : List UInt8} {B : Nat} {row : Option Nat} (h : Rd w b bs B) (hg : w.grownBy w' row) (hn : ∀ k, row = some k → b < k) : Rd w' b bs B := by
  obtain ⟨sl, p, e, h1, h2, h3, hu, h4⟩ := h
  refine ⟨sl, p, e, h1, h2.grown hg ?_, ?_, hu, h4⟩
  · intro hr; have := hn b hr; omega
  · refine ⟨h3.len, h3.cap, fun k v hv => ?_⟩
    obtain ⟨a, ha, hcell⟩ := h3.at_ k v hv
    refine ⟨a, ha, ?_⟩
    refine (World.cell?_of_block (hg.block _ (World.block_lt_of_cell? w _ hcell) ?_)).trans hcell
    intro hr
    have h5 := hn _ hr.symm
    rw [add_block] at h5
    rcases hu with rfl | hu
    · simp at hv
    · have := hu a ha
      omega

theorem Rd.set {w : World} {b : Nat} {bs : List UInt8} {B : Nat} (h : Rd w b bs B) {p : Addr} (hp : b < p.block) (v : Value) : Rd (w.setCell p v) b bs B :=
  h.grown (row := some p.block) ((Chg.refl p.block w).set rfl v) fun k hk => by have := Option.some.inj hk; omega

theorem Rd.own {w w' : World} {b : Nat} {bs : List UInt8} {B : Nat} (h : Rd w b bs B) {base : Nat} {e : TypeId} {size : Nat} {s : Sl} {vs : List Value} (ho : Own base e size w s vs) (hg : w.grownBy w' s.v.ownBlock) (hb : b < base) : Rd w' b bs B :=
  h.grown hg fun k hk => by have := (ho.lt k hk).1; omega

set_option maxHeartbeats 1000000 in
theorem c_spec_reader_pick {w : World} {b : Nat} {bs : List UInt8} {B : Nat} (n : Int) (h : Rd w b bs B) (hB : B ≤ 1099511627776) (hn : n ≤ 9223372036854775807) :
    CallR Tryd.prog 27 [.pointer (some ⟨b, 0, none⟩), .int .i64 n] w (fun v w' => (∃ k : Nat, v = .int .i64 k ∧ (1 ≤ n → (k : Int) < n)) ∧ Rd w' b bs (B + 1) ∧ Chg b w w') := by
  obtain ⟨sl, p, e, hp, hr, hbs, hun, hlen⟩ := h
  refine fn_spec_reader_pick _ _ _ _ ?_
  unfold g_spec_reader_pick
  have c1 : w.cell? ((⟨b, 0, none⟩ : Addr).add 1) = some (.int .i64 p) := hr.cell rfl
  have hset := hr.setMid (A := [.slice sl.a sl.len sl.cap]) (B := []) (p := (⟨b, 0, none⟩ : Addr).add 1) rfl (.int .i64 ((p : Int) + 1))
  have hch : Chg b w (w.setCell ((⟨b, 0, none⟩ : Addr).add 1) (.int .i64 ((p : Int) + 1))) := (Chg.refl b w).set (by rw [add_b]) _
  refine ⟨_, c1, inR_i64 (by omega) (by omega), hset.1, letW_i fun w1 hw1 => ?_⟩
  rw [← hw1] at hset hch
  clear hw1
  obtain ⟨_, hr1⟩ := hset
  have hbs1 : Bytes w1 sl bs := bytes_keep hbs hun hch
  have done : ∀ w2, Ext w1 w2 → Rd w2 b bs (B + 1) ∧ Chg b w w2 := fun w2 e2 =>
    ⟨⟨sl, p + 1, e, by omega, (show Row w1 b [.slice sl.a sl.len sl.cap, .int .i64 ((p + 1 : Nat) : Int)] e from hr1).ext e2, hbs1.ext e2, hun, hlen⟩, hch.trans (Chg.of_ext e2)⟩
  refine br_d (fun h1 => ⟨⟨0, rfl, fun h2 => by omega⟩, done _ (Ext.refl _)⟩) (fun h1 => ?_)
  have c0 : w1.cell? ((⟨b, 0, none⟩ : Addr).add 0) = some (.slice sl.a sl.len sl.cap) := hr1.cell rfl
  have c1' : w1.cell? ((⟨b, 0, none⟩ : Addr).add 1) = some (.int .i64 ((p : Int) + 1)) := hr1.cell rfl
  have hsl := hbs1.len
  refine ⟨_, c0, br_i (fun h2 => ⟨⟨0, rfl, fun h3 => by omega⟩, done _ (Ext.refl _)⟩) (fun h2 => ?_)⟩
  have hpos : 0 < bs.length := by simp at h2; omega
  refine ⟨_, c1', inR_i64 (by omega) (by omega), ?_⟩
  rw [show (p : Int) + 1 - 1 = (p : Int) by omega]
  refine ⟨_, c0, br_d (fun h3 => ?_) (fun h3 => ?_)⟩
  · have hlt : p < bs.length := by omega
    obtain ⟨a, ha, hc⟩ := hbs1.um hlt
    have hu := bs[p].toNat_lt
    refine ⟨_, c0, onSome_i ha ⟨⟨by omega, by omega⟩, _, hc, inR_i64 (by omega) (by omega), ⟨by omega, by omega⟩, ⟨(((bs[p].toNat : Int) % n).toNat), ?_, fun h4 => ?_⟩, done _ (Ext.refl _)⟩⟩
    · rw [Int.toNat_of_nonneg (Int.emod_nonneg _ (by omega))]
    · rw [Int.toNat_of_nonneg (Int.emod_nonneg _ (by omega))]
      exact Int.emod_lt_of_pos _ (by omega)
  · intro w2 (e2 : Ext w1 w2)
    replace c0 := Ext.get e2 c0
    replace hbs1 := SlOf.ext hbs1 e2
    obtain ⟨m, hm⟩ : ∃ m : Nat, m = bs.length := ⟨_, rfl⟩
    have hslm : sl.len = m := by omega
    have hi1 : p % m < bs.length := by rw [← hm]; exact Nat.mod_lt _ (by omega)
    have hi2 : (p * 7 + 3) % m < bs.length := by rw [← hm]; exact Nat.mod_lt _ (by omega)
    obtain ⟨a1, ha1, hc1⟩ := hbs1.um hi1
    obtain ⟨a2, ha2, hc2⟩ := hbs1.um hi2
    have hu1 := bs[p % m].toNat_lt
    have hu2 := bs[(p * 7 + 3) % m].toNat_lt
    have em1 : (p : Int) % (m : Int) = ((p % m : Nat) : Int) := rfl
    have em2 : ((p : Int) * 7 + 3) % (m : Int) = (((p * 7 + 3) % m : Nat) : Int) := rfl
    have ed : (p : Int) / (m : Int) = ((p / m : Nat) : Int) := rfl
    have hdle : p / m ≤ p := Nat.div_le_self _ _
    have hd0 : (0 : Int) ≤ ((p / m : Nat) : Int) := Int.natCast_nonneg _
    refine ⟨_, c0, _, c0, ⟨by omega, by omega⟩, ?_⟩
    rw [hslm, em1]
    refine onSome_i ha1 ⟨⟨by omega, by omega⟩, _, hc1, inR_i64 (by omega) (by omega), inR_i64 (by omega) (by omega), _, c0, inR_i64 (by omega) (by omega), inR_i64 (by omega) (by omega), _, c0, ⟨by omega, by omega⟩, ?_⟩
    rw [hslm, em2]
    refine onSome_i ha2 ⟨⟨by omega, by omega⟩, _, hc2, inR_i64 (by omega) (by omega), inR_i64 (by omega) (by omega), inR_i64 (by omega) (by omega), inR_i64 (by omega) (by omega), inR_i64 (by omega) (by omega), _, c0, ?_⟩
    rw [hslm, ed]
    refine ⟨⟨by omega, by omega, inR_i64 (by omega) (by omega)⟩, inR_i64 (by omega) (by omega), inR_i64 (by omega) (by omega), ?_⟩
    generalize hx : bs[p % m].toNat * 131 + bs[(p * 7 + 3) % m].toNat * 1117 + p * 29 + p / m * 53 = x
    have ex : ((bs[p % m].toNat : Int) * 131 + (bs[(p * 7 + 3) % m].toNat : Int) * 1117 + (p : Int) * 29 + ((p / m : Nat) : Int) * 53) = (x : Int) := by rw [← hx]; simp
    rw [ex]
    have hxb : x < 4611686018427387904 := by omega
    have ex2 : (x : Int) / 64 = ((x / 64 : Nat) : Int) := rfl
    rw [ex2]
    have hxr := xor_nonneg x (x / 64) hxb (by omega)
    refine ⟨⟨by omega, by omega, inR_i64 (by omega) (by omega)⟩, ?_⟩
    rw [hxr.1]
    refine ⟨⟨by omega, by omega⟩, ⟨(((x ^^^ x / 64 : Nat) : Int) % n).toNat, ?_, fun h4 => ?_⟩, done _ e2⟩
    · rw [Int.toNat_of_nonneg (Int.emod_nonneg _ (by omega))]
    · rw [Int.toNat_of_nonneg (Int.emod_nonneg _ (by omega))]
      exact Int.emod_lt_of_pos _ (by omega)

theorem c_spec_reader_of {w : World} {b : Nat} {bs : List UInt8} {B : Nat} {s : Sl} {xs : List ByteArray} (h : Rd w b bs B) (hB : B ≤ 1099511627776) (hs : Strs w s xs) (hap : Apart s b) (h1 : 1 ≤ xs.length) (hl : xs.length ≤ 1000) :
    CallR Tryd.prog 33 [.pointer (some ⟨b, 0, none⟩), .slice s.a s.len s.cap] w (fun v w' => (∃ x ∈ xs, v = .string x) ∧ Rd w' b bs (B + 1) ∧ Chg b w w') := by
  refine fn_spec_reader_of _ _ _ _ ?_
  unfold g_spec_reader_of
  have hl0 := hs.len
  refine (c_spec_reader_pick _ h hB (by omega)).mono ?_
  rintro _ w1 ⟨⟨k, rfl, hk⟩, h2, h3⟩
  have hkl : k < xs.length := by have := hk (by omega); omega
  obtain ⟨a, ha, hc⟩ := (hs.chg h3 hap).cell1 cS_len (List.getElem?_eq_getElem hkl) rfl
  exact ⟨_, rfl, onSome_i ha ⟨⟨by omega, by omega⟩, _, hc, ⟨_, List.getElem_mem hkl, rfl⟩, h2, h3⟩⟩

theorem c_spec_reader_one {w : World} {b : Nat} {bs : List UInt8} {B : Nat} {s : Sl} {xs : List Int} (h : Rd w b bs B) (hB : B ≤ 1099511627776) (hs : Ints w s xs) (hap : Apart s b) (h1 : 1 ≤ xs.length) (hl : xs.length ≤ 1000) :
    CallR Tryd.prog 32 [.pointer (some ⟨b, 0, none⟩), .slice s.a s.len s.cap] w (fun v w' => (∃ x ∈ xs, v = .int .i64 x) ∧ Rd w' b bs (B + 1) ∧ Chg b w w') := by
  refine fn_spec_reader_one _ _ _ _ ?_
  unfold g_spec_reader_one
  have hl0 := hs.len
  refine (c_spec_reader_pick _ h hB (by omega)).mono ?_
  rintro _ w1 ⟨⟨k, rfl, hk⟩, h2, h3⟩
  have hkl : k < xs.length := by have := hk (by omega); omega
  obtain ⟨a, ha, hc⟩ := (hs.chg h3 hap).cell1 cI_len (List.getElem?_eq_getElem hkl) rfl
  exact ⟨_, rfl, onSome_i ha ⟨⟨by omega, by omega⟩, _, hc, ⟨_, List.getElem_mem hkl, rfl⟩, h2, h3⟩⟩

theorem c_spec_newReader {w : World} {s : Sl} {bs : List UInt8} (hs : Bytes w s bs) :
    CallR Tryd.prog 21 [.slice s.a s.len s.cap] w (fun v w' => v = .pointer (some ⟨w.heap.size, 0, none⟩) ∧ Rd w' w.heap.size (bs.take 2000) 0 ∧ Ext w w') := by
  have ha := bytes_old hs
  have ha2 : bs.take 2000 = [] ∨ ∀ a, s.a = some a → a.block < w.heap.size := ha.imp (fun e => by rw [e]; rfl) id
  refine fn_spec_newReader _ _ _ ?_
  unfold g_spec_newReader
  have hl := hs.len
  have hcap := hs.cap
  refine br_d (fun h1 => ⟨⟨by omega, by omega, by omega⟩, letW_i fun w1 hw1 => ?_⟩) (fun h1 => letW_i fun w1 hw1 => ?_)
  · have e1 : Ext w w1 := by rw [hw1]; exact (Ext.refl w).alloc _
    have r1 : Row w1 w.heap.size [.slice s.a 2000 s.cap, .int .i64 ((0 : Nat) : Int)] 58 := by
      rw [hw1]
      have e : resl s.a s.cap (0 : Int).toNat 1 = s.a := resl_zero _ _ _
      rw [e]
      exact Row.new w [.slice s.a 2000 s.cap, .int .i64 (0 : Int)] 58
    refine ⟨rfl, ⟨⟨s.a, 2000, s.cap⟩, 0, _, Nat.le_refl _, r1, ⟨by simp; omega, by simp only; omega, ?_⟩, ha2, by simp; omega⟩, e1⟩
    intro k v hv
    refine (hs.ext e1).at_ k v ?_
    rw [← List.take_append_drop 2000 bs, List.flatMap_append, List.getElem?_append_left (List.getElem?_eq_some_iff.1 hv).1]
    exact hv
  · have e1 : Ext w w1 := by rw [hw1]; exact (Ext.refl w).alloc _
    have r1 : Row w1 w.heap.size [.slice s.a s.len s.cap, .int .i64 ((0 : Nat) : Int)] 58 := by
      rw [hw1]; exact Row.new w _ _
    have ht : bs.take 2000 = bs := List.take_of_length_le (by omega)
    exact ⟨rfl, ⟨s, 0, _, Nat.le_refl _, r1, by rw [ht]; exact hs.ext e1, ha2, by simp; omega⟩, e1⟩
end Go.Proofs
