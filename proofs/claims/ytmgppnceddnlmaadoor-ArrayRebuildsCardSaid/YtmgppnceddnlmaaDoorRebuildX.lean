/- Law ArrayRebuilds: no array, no such disk; all together. -/
import Derived.Test.YtmgppnceddnlmaaDoorRebuildW
namespace Go.Proofs.YtmgppnceddnlmaaDoor
open Go.RowKit

set_option maxHeartbeats 2000000 in
set_option maxRecDepth 100000 in
theorem rebuilds_none (n rows d : Int) (ln lc : Nat) (la : Option Addr) (w : World) (h : n < 3 ∨ 10 < n ∨ rows < 1 ∨ 20 < rows) :
    Calls Tryd.prog 5 #[.int .i64 n, .int .i64 rows, .int .i64 d, .slice la ln lc] w fun e w' => e = .returned (.bool true) ∧ Ext w w' := by
  have HN := Lib.hid (New_no n rows 2 w (by omega))
  rw [errV_pos 1 (by omega)] at HN
  by_cases c1 : n < 3
  · have c1d : decide (n < 3) = true := by simpa using c1
    clear h c1
    go_enter Tryd.func5, Tryd.ntmps5
    go_wp2_with fail
    refine HN.out.mono ?_
    rintro e w1 ⟨rfl, X1⟩
    go_wp2_with fail
    go_ret
    exact ⟨rfl, X1⟩
  · have c1d : decide (n < 3) = false := by simpa using c1
    by_cases c2 : 10 < n
    · have c2d : decide (10 < n) = true := by simpa using c2
      clear h c2
      go_enter Tryd.func5, Tryd.ntmps5
      go_wp2_with fail
      refine HN.out.mono ?_
      rintro e w1 ⟨rfl, X1⟩
      go_wp2_with fail
      go_ret
      exact ⟨rfl, X1⟩
    · have c2d : decide (10 < n) = false := by simpa using c2
      by_cases c3 : rows < 1
      · have c3d : decide (rows < 1) = true := by simpa using c3
        clear h c3
        go_enter Tryd.func5, Tryd.ntmps5
        go_wp2_with fail
        refine HN.out.mono ?_
        rintro e w1 ⟨rfl, X1⟩
        go_wp2_with fail
        go_ret
        exact ⟨rfl, X1⟩
      · have c3d : decide (rows < 1) = false := by simpa using c3
        have c4d : decide (20 < rows) = true := by simp; omega
        clear h
        go_enter Tryd.func5, Tryd.ntmps5
        go_wp2_with fail
        refine HN.out.mono ?_
        rintro e w1 ⟨rfl, X1⟩
        go_wp2_with fail
        go_ret
        exact ⟨rfl, X1⟩

set_option maxHeartbeats 2000000 in
set_option maxRecDepth 100000 in
theorem rebuilds_bad (n rows : Nat) (d : Int) (ln lc : Nat) (la : Option Addr) (w : World) (hn3 : 3 ≤ n) (hn10 : n ≤ 10) (hr1 : 1 ≤ rows) (hr20 : rows ≤ 20) (h : d < 0 ∨ (n : Int) ≤ d) :
    Calls Tryd.prog 5 #[.int .i64 (n : Int), .int .i64 (rows : Int), .int .i64 d, .slice la ln lc] w fun e w' => e = .returned (.bool true) ∧ Ext w w' := by
  have HN := Lib.hid (New_ok n rows 2 w hn3 hn10 hr1 hr20 (by omega) (by omega))
  by_cases c1 : d < 0
  · have c1d : decide (d < 0) = true := by simpa using c1
    clear h c1
    go_enter Tryd.func5, Tryd.ntmps5
    go_wp2_with fail
    refine HN.out.mono ?_
    rintro e w1 ⟨A, rfl, hlo, hA, X1⟩
    go_wp2_with fail
    go_ret
    exact ⟨rfl, X1⟩
  · have c1d : decide (d < 0) = false := by simpa using c1
    have c2d : decide ((n : Int) ≤ d) = true := by simp; omega
    clear h
    go_enter Tryd.func5, Tryd.ntmps5
    go_wp2_with fail
    refine HN.out.mono ?_
    rintro e w1 ⟨A, rfl, hlo, hA, X1⟩
    go_wp2_with fail
    go_ret
    exact ⟨rfl, X1⟩

theorem rebuilds_all (n rows d : Int) (la : Option Addr) (ln lc : Nat) (l : List Blk) (w : World) (hg : Laid w) (hl : TextsIn w la ln lc l) :
    Calls Tryd.prog 5 #[.int .i64 n, .int .i64 rows, .int .i64 d, .slice la ln lc] w fun e w' => e = .returned (.bool true) ∧ Ext w w' := by
  by_cases hb : n < 3 ∨ 10 < n ∨ rows < 1 ∨ 20 < rows
  · exact rebuilds_none n rows d ln lc la w hb
  · obtain ⟨n, rfl⟩ : ∃ m : Nat, n = (m : Int) := ⟨n.toNat, by omega⟩
    obtain ⟨rows, rfl⟩ : ∃ m : Nat, rows = (m : Int) := ⟨rows.toNat, by omega⟩
    by_cases h : d < 0 ∨ (n : Int) ≤ d
    · exact rebuilds_bad n rows d ln lc la w (by omega) (by omega) (by omega) (by omega) h
    · obtain ⟨d, rfl⟩ : ∃ m : Nat, d = (m : Int) := ⟨d.toNat, by omega⟩
      exact rebuilds_good n rows d ln lc la l w hg hl (by omega) (by omega) (by omega) (by omega) (by omega)

end Go.Proofs.YtmgppnceddnlmaaDoor
