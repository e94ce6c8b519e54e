/-
  Arguments read as data, opened as typed slices and rows. Conditions: none of its own.
-/
import Derived.Test.YtpofoikpmafnbaaDoorBase
import Derived.OpenShut
import Derived.ChangeArms
import Derived.SliceStrings
import Derived.ChangeReads
namespace Go.Vc
open Go Go.RowKit Go.ChangeShapes

section
variable {H : Type} {enc : TypeId × Value → H} {P : Program} {w : World} {base : Nat} {spare : Nat → Bool} {held : Bool}

theorem flatMap_len_mem {α : Type} {c : α → List Value} {k : Nat} : ∀ {xs : List α}, (∀ x ∈ xs, (c x).length = k) → (xs.flatMap c).length = xs.length * k
  | [], _ => by simp
  | x :: xs, h => by
    rw [List.flatMap_cons, List.length_append, h x List.mem_cons_self, flatMap_len_mem (fun y hy => h y (List.mem_cons_of_mem _ hy)), List.length_cons, Nat.succ_mul, Nat.add_comm]

theorem read_slice {α : Type} {c : α → List Value} {Q : α → Prop} {k : Nat} {t e : TypeId} {fuel : Nat} {cs : List Value} {x : DataW H × List MemPlace} (ht : P.underlying t = some (.slice e)) (hce : P.cellsOf e = k)
    (h : DataW.trod enc P w base spare held fuel t cs = some x)
    (each : ∀ m cs y, m < fuel → cs.length = k → DataW.trod enc P w base spare held m e cs = some y → ∃ x, cs = c x ∧ Q x) :
    ∃ (s : Sl) (xs : List α), cs = [.slice s.a s.len s.cap] ∧ SlOf c w s xs ∧ s.cap ≤ maxLen ∧ ∀ x ∈ xs, Q x := by
  rcases DataW.trod_slice ht h with ⟨rfl, _⟩ | ⟨a, len, cap, elems, rest, n, rfl, rfl, _, hb, hl, hm, hlen, hel, _, _⟩
  · exact ⟨⟨none, 0, 0⟩, [], rfl, SlOf.nil c w, Nat.zero_le _, by simp⟩
  rw [hce] at hel
  have hx : ∀ i, i < len → ∃ x, Q x ∧ (c x).length = k ∧ ∀ j v, (c x)[j]? = some v → w.cell? ((a.add (i * k)).add j) = some v := by
    intro i hi
    have h1 := hel i hi
    rw [List.getElem?_eq_getElem (by omega), Option.bind_eq_some_iff] at h1
    obtain ⟨cs', hc, hy⟩ := h1
    obtain ⟨_, hcl, hcc⟩ := World.cells?_some hc
    obtain ⟨x, rfl, hq⟩ := each n cs' _ (Nat.lt_succ_self n) hcl hy
    refine ⟨x, hq, hcl, fun j v hv => ?_⟩
    have hj : j < k := by
      have := (List.getElem?_eq_some_iff.1 hv).1
      omega
    rw [hcc j hj, hv]
  have build : ∀ m, m ≤ len → ∃ xs : List α, xs.length = m ∧ (∀ x ∈ xs, Q x ∧ (c x).length = k) ∧ ∀ j v, (xs.flatMap c)[j]? = some v → w.cell? (a.add j) = some v := by
    intro m
    induction m with
    | zero => exact fun _ => ⟨[], rfl, by simp, by simp⟩
    | succ m ih =>
      intro hm'
      obtain ⟨xs, hxl, hxq, hxc⟩ := ih (by omega)
      obtain ⟨x, hq, hcl, hcc⟩ := hx m (by omega)
      have hfl : (xs.flatMap c).length = m * k := by
        rw [flatMap_len_mem (fun y hy => (hxq y hy).2), hxl]
      refine ⟨xs ++ [x], by simp [hxl], ?_, ?_⟩
      · intro y hy
        rcases List.mem_append.1 hy with hy | hy
        · exact hxq y hy
        · simp at hy
          subst hy
          exact ⟨hq, hcl⟩
      · intro j v hv
        simp only [List.flatMap_append, List.flatMap_cons, List.flatMap_nil, List.append_nil] at hv
        by_cases hj : j < m * k
        · rw [List.getElem?_append_left (by omega)] at hv
          exact hxc j v hv
        · rw [List.getElem?_append_right (by omega), hfl] at hv
          have := hcc _ v hv
          rw [add_add'] at this
          rwa [show m * k + (j - m * k) = j by omega] at this
  obtain ⟨xs, hxl, hxq, hxc⟩ := build len (Nat.le_refl _)
  exact ⟨⟨some a, len, cap⟩, xs, rfl, ⟨hxl.symm, hl, fun j v hv => ⟨a, rfl, hxc j v hv⟩⟩, hm, fun x hx => (hxq x hx).1⟩

theorem sl_arg {v : Value} {s : Sl} {a : Option Addr} {len cap : Nat} (hv : v = .slice a len cap) (h : v.cells.toList = [.slice s.a s.len s.cap]) : v = .slice s.a s.len s.cap := by
  subst hv
  simpa [Value.cells] using h

theorem read_bytes {t e : TypeId} {v : Value} {a : Option Addr} {len cap : Nat} {d : DataW H} {ps : List MemPlace} (hv : v = .slice a len cap) (ht : P.underlying t = some (.slice e)) (he : P.underlying e = some (.int .u8)) (hce : P.cellsOf e = 1)
    (h : DataW.Trod enc P w base spare held t v d ps) : ∃ (s : Sl) (xs : List UInt8), v = .slice s.a s.len s.cap ∧ Bytes w s xs ∧ s.cap ≤ maxLen := by
  obtain ⟨fuel, hf⟩ := h
  obtain ⟨s, xs, hs, h1, h2, _⟩ := read_slice (c := cU) (Q := fun _ => True) ht hce hf (fun m cs y _ _ hy => by
    obtain ⟨n, rfl, _, hw⟩ := DataW.trod_int he hy
    obtain ⟨h0, h1⟩ := bounds_u8 hw
    refine ⟨UInt8.ofNat n.toNat, ?_, trivial⟩
    simp only [cU, UInt8.toNat_ofNat']
    rw [Nat.mod_eq_of_lt (by omega), Int.toNat_of_nonneg h0])
  exact ⟨s, xs, sl_arg hv hs, h1, h2⟩

theorem read_ints {t e : TypeId} {v : Value} {a : Option Addr} {len cap : Nat} {d : DataW H} {ps : List MemPlace} (hv : v = .slice a len cap) (ht : P.underlying t = some (.slice e)) (he : P.underlying e = some (.int .i64)) (hce : P.cellsOf e = 1)
    (h : DataW.Trod enc P w base spare held t v d ps) : ∃ (s : Sl) (xs : List Int), v = .slice s.a s.len s.cap ∧ Ints w s xs ∧ s.cap ≤ maxLen ∧ ∀ n ∈ xs, (Lit.int .i64 n).wf = true := by
  obtain ⟨fuel, hf⟩ := h
  obtain ⟨s, xs, hs, h1, h2, h3⟩ := read_slice (c := cI) (Q := fun n => (Lit.int .i64 n).wf = true) ht hce hf (fun m cs y _ _ hy => by
    obtain ⟨n, rfl, _, hw⟩ := DataW.trod_int he hy
    exact ⟨n, rfl, hw⟩)
  exact ⟨s, xs, sl_arg hv hs, h1, h2, h3⟩

theorem read_strs {t e : TypeId} {v : Value} {a : Option Addr} {len cap : Nat} {d : DataW H} {ps : List MemPlace} (hv : v = .slice a len cap) (ht : P.underlying t = some (.slice e)) (he : P.underlying e = some .string) (hce : P.cellsOf e = 1)
    (h : DataW.Trod enc P w base spare held t v d ps) : ∃ (s : Sl) (xs : List ByteArray), v = .slice s.a s.len s.cap ∧ Strs w s xs ∧ s.cap ≤ maxLen ∧ ∀ x ∈ xs, x.size ≤ maxLen := by
  obtain ⟨fuel, hf⟩ := h
  obtain ⟨s, xs, hs, h1, h2, h3⟩ := read_slice (c := cS) (Q := fun x => x.size ≤ maxLen) ht hce hf (fun m cs y _ _ hy => by
    obtain ⟨n, rfl, _, hw⟩ := DataW.trod_string he hy
    exact ⟨n, rfl, hw⟩)
  exact ⟨s, xs, sl_arg hv hs, h1, h2, h3⟩
end

end Go.Vc
