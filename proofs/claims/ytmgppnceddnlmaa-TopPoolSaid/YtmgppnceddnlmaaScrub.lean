/- Contracts of package scrub: Row. -/
import Derived.Test.YtmgppnceddnlmaaArrN
import Derived.Test.YtmgppnceddnlmaaLocate
import Derived.Deep.RegionHeld3
namespace Go.Proofs.Ytmgppnceddnlmaa
open Go.RowKit

theorem any_take (l : List Bool) (k : Nat) (h : l[k]? = some false) (ha : (l.take k).any id = false) : (l.take (k + 1)).any id = false := by
  rw [List.take_add_one, h]
  simp [List.any_append, ha]
theorem any_hit (l : List Bool) (k : Nat) (h : l[k]? = some true) : l.any id = true :=
  List.any_eq_true.2 ⟨true, List.mem_of_getElem? h, rfl⟩

/-- What scrub.Row does at a row: of so many disks. -/
def St.scrubE (s : St) (n row : Int) : St × Int × Nat :=
  if n < 3 ∨ 10 < n then (s, 0, 1) else if row < 0 ∨ (s.rows : Int) ≤ row then (s, 0, 1) else if n ≠ s.n then (s, 0, 3) else s.scrub row.toNat

theorem any_losts (s : St) (row : Nat) (h : (s.losts row).any id = false) (i : Nat) (hi : i < s.n) : s.lost (lay s.n row i) row = false := by
  have := List.any_eq_false.1 h (s.lost (lay s.n row i) row) (by
    rw [St.losts]
    exact List.mem_map.2 ⟨lay s.n row i, by rw [order]; exact List.mem_map.2 ⟨i, by simpa using hi, rfl⟩, rfl⟩)
  simpa using this
theorem losts_none (s : St) (row : Nat) (h : (s.losts row).any id = false) : s.losts row = List.replicate s.n false := by
  apply List.eq_replicate_iff.2
  refine ⟨losts_length s row, fun b hb => ?_⟩
  have := List.any_eq_false.1 h b hb
  simpa using this
theorem locateFrom_lt (parts : List Blk) : ∀ (f i k : Nat), locateFrom parts f i = some k → i ≤ k ∧ k < i + f
  | 0, _, _, h => by simp [locateFrom] at h
  | f + 1, i, k, h => by
    rw [locateFrom] at h
    split at h
    · have := Option.some.inj h
      omega
    · have := locateFrom_lt parts f (i + 1) k h
      omega
theorem locateE_lt (parts : List Blk) (h0 : (locateE parts).2 = 0) : (locateE parts).1 < (parts.length : Int) ∧ -1 ≤ (locateE parts).1 := by
  unfold locateE at *
  split at h0
  · cases h0
  · rename_i h1
    rw [if_neg h1]
    split at h0
    · rename_i h2
      exact absurd h0 h2
    · rename_i h2
      rw [if_neg h2]
      unfold locateS at *
      simp only at *
      split at h0
      · rename_i h3
        rw [if_pos h3]
        simp only
        omega
      · rename_i h3
        rw [if_neg h3]
        cases hq : locateFrom parts parts.length 0 with
        | none => simp only; omega
        | some i =>
          have := locateFrom_lt parts _ _ _ hq
          simp only
          omega

theorem locateE_err (parts : List Blk) (h0 : (locateE parts).2 ≠ 0) : (locateE parts).1 = 0 := by
  unfold locateE at *
  split at h0
  · rename_i h1
    rw [if_pos h1]
  · rename_i h1
    rw [if_neg h1]
    split at h0
    · rename_i h2
      rw [if_pos h2]
    · rename_i h2
      rw [if_neg h2]
      unfold locateS at *
      simp only at *
      split at h0
      · exact absurd rfl h0
      · rename_i h3
        rw [if_neg h3]
        cases hq : locateFrom parts parts.length 0 with
        | none => rfl
        | some i =>
          rw [hq] at h0
          exact absurd rfl h0
theorem lostAt_eq (n i : Nat) : lostAt n i = (List.replicate n false).set i true := rfl

theorem heal_at_uni {s : St} (h : s.Ok) {row i : Nat} (hr : row < s.rows) (hi : i < s.n) (hany : (s.losts row).any id = false) : Uni s.size (healS (s.parts row) (lostAt s.n i)) := by
  have hp := parts_length s row
  have hn3 := h.n3
  have hlen : ∀ j, j < s.n → ((s.parts row).getD j []).length = s.size := fun j hj => part_len h hr hj (by rw [losts_getD s row j hj]; exact any_losts s row hany j hj)
  refine healS_uni s.size _ _ (by omega) (by rw [lostAt_length, hp]) (fun j hj _ => hlen j (by omega)) (lastLen_eq _ _ _ _ (by rw [lostAt_length, hp]) (fun j hj _ => hlen j (by omega)) (.inr ?_))
  by_cases e : i = 0
  · exact ⟨1, by omega, by rw [lostAt_getD _ _ _ hi]; simp; omega⟩
  · exact ⟨0, by omega, by rw [lostAt_getD _ _ _ hi]; simp; omega⟩

end Go.Proofs.Ytmgppnceddnlmaa
