/- The arguments of a law opened: lists of strings, of bytes, of numbers, of lists of numbers. -/
import Derived.Test.YtmgppnceddnlmaaLaid
import Derived.Deep.Strs
import Derived.Deep.Matrix
import Derived.Deep.Grids
namespace Go.Proofs.Ytmgppnceddnlmaa
open Go.ChangeShapes Go.WideShapes Go.RowKit Go.Deep

abbrev NumI (z : Int) : Value := .int .i64 z
/-- A list of strings that came in. -/
structure TextsIn (w : World) (a : Option Addr) (n cap : Nat) (xs : List Blk) : Prop where
  sl : Sl w Str a n cap xs
  short : ∀ x, x ∈ xs → x.length ≤ maxLen

theorem plain_of_cell {w : World} {a : Addr} {v : Value} (h : w.cell? (a.add 0) = some v) : a.spot = none := by
  simpa [Addr.add] using World.cell?_spot h
theorem addr_eta {a : Addr} (h : a.spot = none) : a = ⟨a.block, a.off, none⟩ := by
  cases a; simp at h; subst h; rfl
theorem add_plain' (a : Addr) (h : a.spot = none) (i : Nat) : a.add i = ⟨a.block, a.off + i, none⟩ := by
  cases a; simp at h; subst h; simp [Addr.add]

set_option maxRecDepth 100000 in
theorem open_texts {r : Reach} {base : Nat} {H : Type} {enc : TypeId × Value → H} {W : World} {v : Value} {d : DataW H} {ps : List MemPlace}
    (hv : Value.okWide Try.prog W r base 22 v) (h : DataW.Trod enc Try.prog W 0 (fun _ => true) true 22 v d ps) :
    ∃ a n cap xs, v = .slice a n cap ∧ TextsIn W a n cap xs := by
  obtain ⟨a, n, cap, rfl⟩ := okWide_slice Try.underlying22 hv
  obtain ⟨fuel, hf⟩ := h
  rcases open_strs Try.underlying22 Try.underlying9 (by kernel_rfl) hf with ⟨hcs, _⟩ | ⟨x, l, c, m, Sx, hcs, _, hl, hm, hmm, _, hcell⟩
  · simp [Value.cells] at hcs
    obtain ⟨rfl, rfl, rfl⟩ := hcs
    exact ⟨none, 0, 0, [], rfl, Sl.nil _ _, by simp⟩
  · simp [Value.cells] at hcs
    obtain ⟨rfl, rfl, rfl⟩ := hcs
    simp only [if_true] at hmm
    have hmm' := hmm.symm
    subst hmm'
    refine ⟨some x, n, cap, (List.range n).map fun i => (Sx i).data.toList, rfl, ⟨by simp, hl, hm, fun hn => ⟨x.block, x.off, ?_, fun i y hy => ?_⟩⟩, fun y hy => ?_⟩
    · rw [← addr_eta (plain_of_cell (hcell 0 (by omega)).1)]
    · have hi : i < n := by
        have := (List.getElem?_eq_some_iff.1 hy).1
        simpa using this
      have hc := (hcell i (by omega)).1
      rw [add_plain' x (plain_of_cell (hcell 0 (by omega)).1)] at hc
      rw [hc]
      simp [hi] at hy
      rw [← hy]
    · obtain ⟨i, hi, rfl⟩ := List.mem_map.1 hy
      have hi' : i < n := by simpa using hi
      have := (hcell i (by omega)).2
      simpa using this

/-- A list of numbers that came in. -/
structure IntsIn (w : World) (a : Option Addr) (n cap : Nat) (xs : List Int) : Prop where
  sl : Sl w NumI a n cap xs
  fits : ∀ z, z ∈ xs → (Lit.int .i64 z).wf = true

theorem ints_of_cells {w : World} {a : Option Addr} {n cap : Nat} {zs : List Int} (hl : n ≤ cap) (hm : cap ≤ maxLen) (hz : zs.length = cap) (hn : a = none → cap = 0)
    (hc : ∀ x, a = some x → ∀ i, i < cap → w.cell? (x.add i) = some (.int .i64 (zs.getD i 0))) (hw : ∀ z ∈ zs, (Lit.int .i64 z).wf = true) : IntsIn w a n cap (zs.take n) := by
  refine ⟨⟨by simp; omega, hl, hm, fun h0 => ?_⟩, fun z hz' => hw z (List.mem_of_mem_take hz')⟩
  cases a with
  | none => have := hn rfl; omega
  | some x =>
    have hp := plain_of_cell (hc x rfl 0 (by omega))
    refine ⟨x.block, x.off, by rw [← addr_eta hp], fun i y hy => ?_⟩
    rw [List.getElem?_take] at hy
    split at hy
    · have h1 := hc x rfl i (by omega)
      rw [add_plain' x hp, List.getD_eq_getElem?_getD, hy] at h1
      exact h1
    · cases hy

set_option maxRecDepth 100000 in
theorem open_intsl {r : Reach} {base : Nat} {H : Type} {enc : TypeId × Value → H} {W : World} {v : Value} {d : DataW H} {ps : List MemPlace}
    (hv : Value.okWide Try.prog W r base 39 v) (h : DataW.Trod enc Try.prog W 0 (fun _ => true) true 39 v d ps) :
    ∃ a n cap xs, v = .slice a n cap ∧ IntsIn W a n cap xs := by
  obtain ⟨a, n, cap, rfl⟩ := okWide_slice Try.underlying39 hv
  obtain ⟨fuel, hf⟩ := h
  rcases open_ints Try.underlying39 Try.underlying3 (by kernel_rfl) hf with ⟨hcs, _⟩ | ⟨x, l, c, zs, hcs, _, hl, hm, hz, _, hcell, hwz⟩
  · simp [Value.cells] at hcs
    obtain ⟨rfl, rfl, rfl⟩ := hcs
    exact ⟨none, 0, 0, [], rfl, Sl.nil _ _, by simp⟩
  · simp [Value.cells] at hcs
    obtain ⟨rfl, rfl, rfl⟩ := hcs
    simp only [if_true] at hz
    exact ⟨some x, n, cap, zs.take n, rfl, ints_of_cells hl hm hz (fun e => by cases e) (fun y hy i hi => by cases hy; exact hcell i (by rw [hz]; exact hi)) hwz⟩

/-- A list of lists of numbers that came in. -/
structure RowsIn (w : World) (a : Option Addr) (n cap : Nat) (xs : List (List Int)) : Prop where
  len : xs.length = n
  le : n ≤ cap
  max : cap ≤ maxLen
  cells : 0 < n → ∃ g off, a = some ⟨g, off, none⟩ ∧ ∀ i x, xs[i]? = some x → ∃ a' n' c', w.cell? ⟨g, off + i, none⟩ = some (.slice a' n' c') ∧ IntsIn w a' n' c' x

set_option maxRecDepth 100000 in
theorem open_rows {r : Reach} {base : Nat} {H : Type} {enc : TypeId × Value → H} {W : World} {v : Value} {d : DataW H} {ps : List MemPlace}
    (hv : Value.okWide Try.prog W r base 54 v) (h : DataW.Trod enc Try.prog W 0 (fun _ => true) true 54 v d ps) :
    ∃ a n cap xs, v = .slice a n cap ∧ RowsIn W a n cap xs := by
  obtain ⟨a, n, cap, rfl⟩ := okWide_slice Try.underlying54 hv
  obtain ⟨fuel, hf⟩ := h
  rcases open_int_rows Try.underlying54 Try.underlying39 Try.underlying3 (by kernel_rfl) (by kernel_rfl) hf with ⟨hcs, _⟩ | ⟨x, l, c, A, L, C, Z, hcs, _, hl, hm, _, hcell⟩
  · simp [Value.cells] at hcs
    obtain ⟨rfl, rfl, rfl⟩ := hcs
    exact ⟨none, 0, 0, [], rfl, rfl, Nat.le_refl _, Nat.zero_le _, fun h => absurd h (Nat.lt_irrefl 0)⟩
  · simp [Value.cells] at hcs
    obtain ⟨rfl, rfl, rfl⟩ := hcs
    refine ⟨some x, n, cap, (List.range n).map fun i => (Z i).take (L i), rfl, by simp, hl, hm, fun hn => ⟨x.block, x.off, ?_, fun i y hy => ?_⟩⟩
    · rw [← addr_eta (plain_of_cell (hcell 0 (by omega)).1)]
    · have hi : i < n := by
        have := (List.getElem?_eq_some_iff.1 hy).1
        simpa using this
      obtain ⟨hc, h1, h2, h3, h4, h5, h6⟩ := hcell i (by omega)
      rw [add_plain' x (plain_of_cell (hcell 0 (by omega)).1)] at hc
      simp [hi] at hy
      rw [← hy]
      exact ⟨_, _, _, hc, ints_of_cells h1 h2 h3 h5 (fun y hy j hj => (h6 y hy).2 j hj) h4⟩

end Go.Proofs.Ytmgppnceddnlmaa
