/- Law ArrayKeeps, the plain part: an array and the list of what was written last keep step; the closed fact. -/
import Derived.Test.YtmgppnceddnlmaaHoldB
import Derived.Test.YtmgppnceddnlmaaRebuilds
namespace Go.Proofs.Ytmgppnceddnlmaa
open Go.RowKit

/-- An array in which no row has lost more than two, and what was written to it. -/
structure KS (s : St) (n0 rows0 size0 : Nat) (cells : List Blk) : Prop where
  n : s.n = n0
  rows : s.rows = rows0
  size : s.size = size0
  few : Few s
  len : cells.length = rows0 * (n0 - 2)
  holds : ∃ D, Holds s D ∧ ∀ b, b < rows0 * (n0 - 2) → cells.getD b [] = blockOf s D b

theorem ks_new (n rows size : Nat) (h : 3 ≤ n) : KS (St.new n rows size) n rows size (List.replicate (rows * (n - 2)) (zeros size)) where
  n := rfl
  rows := rfl
  size := rfl
  few := new_few n rows size
  len := by simp
  holds := ⟨_, new_holds n rows size h, fun b hb => by
    have hm : b % (n - 2) < n - 2 := Nat.mod_lt _ (by omega)
    show _ = (List.replicate (n - 2) (zeros size)).getD (b % (n - 2)) []
    rw [List.getD_eq_getElem?_getD, List.getD_eq_getElem?_getD, List.getElem?_replicate, List.getElem?_replicate, if_pos hb, if_pos hm]⟩

theorem ks_read {s : St} {n rows size : Nat} {cells : List Blk} (ok : s.Ok) (h : KS s n rows size cells) (b : Nat) (hb : b < rows * (n - 2)) : s.read b = (cells.getD b [], 0) := by
  obtain ⟨D, hD, he⟩ := h.holds
  rw [read_holds ok hD h.few b (by rw [h.n, h.rows]; exact hb), he b hb]

theorem ks_write {s : St} {n rows size : Nat} {cells : List Blk} (ok : s.Ok) (h : KS s n rows size cells) (b : Nat) (hb : b < rows * (n - 2)) (x : Blk) (hx : x.length = size) :
    ∃ s', s.write b x = (s', 0) ∧ KS s' n rows size (cells.set b x) := by
  obtain ⟨D, hD, he⟩ := h.holds
  have hn3 := ok.n3
  have hn := h.n
  have hr := h.rows
  obtain ⟨C, e1, e2, e3⟩ := write_holds ok hD h.few b (by rw [hn, hr]; exact hb) x (by rw [h.size]; exact hx)
  refine ⟨_, e1, hn, hr, h.size, fun row hrow => h.few row hrow, by rw [List.length_set]; exact h.len, _, e3, fun b' hb' => ?_⟩
  rw [getD_set _ _ _ _ _ (by rw [h.len]; exact hb)]
  have hrow : b / (s.n - 2) < s.rows := (Nat.div_lt_iff_lt_mul (by omega)).2 (by rw [hn, hr]; exact hb)
  have hl := (hD _ hrow).len
  have hm : b % (s.n - 2) < s.n - 2 := Nat.mod_lt _ (by omega)
  show _ = (updD D (b / (s.n - 2)) ((D (b / (s.n - 2))).set (b % (s.n - 2)) x) (b' / (s.n - 2))).getD (b' % (s.n - 2)) []
  unfold updD
  by_cases e : b' / (s.n - 2) = b / (s.n - 2)
  · rw [if_pos e, getD_set _ _ _ _ _ (by omega)]
    by_cases e' : b' = b
    · rw [if_pos e', if_pos (by rw [e'])]
    · rw [if_neg e', if_neg, he b' hb', blockOf, e]
      intro q
      apply e'
      rw [← Nat.div_add_mod b' (s.n - 2), ← Nat.div_add_mod b (s.n - 2), e, q]
  · rw [if_neg e, if_neg (fun q => e (by rw [q])), he b' hb', blockOf]

theorem ks_fail {s : St} {n rows size : Nat} {cells : List Blk} (h : KS s n rows size cells) (hone : ∀ row, row < rows → s.lostN row ≤ 1) (d : Int) : ∃ s' e, s.fail d = (s', e) ∧ KS s' n rows size cells := by
  rw [St.fail]
  split
  · exact ⟨_, _, rfl, h⟩
  · split
    · exact ⟨_, _, rfl, h⟩
    · obtain ⟨D, hD, he⟩ := h.holds
      exact ⟨_, _, rfl, h.n, h.rows, h.size, fail_few _ (by rw [h.rows]; exact hone), h.len, D, fail_holds hD _, he⟩
theorem ks_replace {s : St} {n rows size : Nat} {cells : List Blk} (h : KS s n rows size cells) (d : Int) : ∃ s' e, s.replace d = (s', e) ∧ KS s' n rows size cells := by
  rw [St.replace]
  split
  · exact ⟨_, _, rfl, h⟩
  · split
    · exact ⟨_, _, rfl, h⟩
    · rename_i hf
      have hf' : s.failed d.toNat = true := by simpa using hf
      obtain ⟨D, hD, he⟩ := h.holds
      exact ⟨_, _, rfl, h.n, h.rows, h.size, replace_few h.few _ hf', h.len, D, replace_holds hD _ hf', he⟩
theorem ks_rebuild {s : St} {n rows size : Nat} {cells : List Blk} (ok : s.Ok) (h : KS s n rows size cells) (d : Int) : ∃ t k e, s.rebuild d = (t, k, e) ∧ e ≠ 8 ∧ KS t n rows size cells := by
  by_cases h1 : d < 0 ∨ (s.n : Int) ≤ d
  · rw [St.rebuild, if_pos h1]
    exact ⟨_, _, _, rfl, by omega, h⟩
  · by_cases h2 : s.failed d.toNat = true ∨ s.built d.toNat = s.rows
    · rw [St.rebuild, if_neg h1, if_pos h2]
      exact ⟨_, _, _, rfl, by omega, h⟩
    · obtain ⟨k, rfl⟩ : ∃ k : Nat, d = (k : Int) := ⟨d.toNat, by omega⟩
      rw [Int.toNat_natCast] at h2
      obtain ⟨D, hD, he⟩ := h.holds
      have hb := ok.built k
      obtain ⟨t, e1, e2, e3, e4, e5, e6, -⟩ := rebuild_holds ok hD h.few k (by omega) (by simpa using fun q => h2 (.inl q)) (by have : s.built k ≠ s.rows := fun q => h2 (.inr q); omega)
      refine ⟨t, _, _, e1, by omega, e4.trans h.n, e5.trans h.rows, e6.trans h.size, e3, h.len, D, e2, fun b hb => ?_⟩
      rw [he b hb, blockOf, blockOf, e4]

/-! ### the closed fact -/
def kf1 : St := ((St.new 3 1 1).write 0 [7]).1
def kf2 : St := (kf1.fail 0).1
def kf3 : St := (kf2.fail 1).1
theorem kf1_e : (St.new 3 1 1).write 0 [7] = (kf1, 0) := Prod.ext rfl (by kernel_rfl)
theorem kf2_e : kf1.fail 0 = (kf2, 0) := Prod.ext rfl (by kernel_rfl)
theorem kf3_e : kf2.fail 1 = (kf3, 0) := Prod.ext rfl (by kernel_rfl)
theorem kf_read : kf3.read 0 = ([7], 0) := by kernel_rfl

end Go.Proofs.Ytmgppnceddnlmaa
