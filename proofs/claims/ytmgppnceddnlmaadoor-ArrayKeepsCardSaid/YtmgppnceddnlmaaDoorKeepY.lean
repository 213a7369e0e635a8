/- Law ArrayKeeps: no array; all together. -/
import Derived.Test.YtmgppnceddnlmaaDoorKeepX
namespace Go.Proofs.YtmgppnceddnlmaaDoor
open Go.RowKit

set_option maxHeartbeats 2000000 in
set_option maxRecDepth 100000 in
theorem keeps_none (n rows size : Int) (la : Option Addr) (ln lc : Nat) (w : World) (h : n < 3 ∨ 10 < n ∨ rows < 1 ∨ 20 < rows ∨ size < 1 ∨ 16 < size) :
    Calls Tryd.prog 6 #[.int .i64 n, .int .i64 rows, .int .i64 size, .slice la ln lc] w fun e w' => e = .returned (.bool true) ∧ Ext w w' := by
  have HN1 := Lib.hid (New_ok 3 1 1 w (by omega) (by omega) (by omega) (by omega) (by omega) (by omega))
  have HN2 := Lib.hid (fun wx => New_no n rows size wx h)
  rw [errV_pos 1 (by omega)] at HN2
  clear h
  go_enter Tryd.func6, Tryd.ntmps6
  go_wp2_with fail
  refine HN1.out.mono ?_
  rintro e w1 ⟨A, rfl, hlo, hA, X1⟩
  have HW1 := Lib.hid (Write_any A (St.new 3 1 1) w1 0 [7] hA)
  rw [kf1_e] at HW1
  simp only [errV_zero] at HW1
  go_wp2_with fail
  refine HW1.out.mono ?_
  rintro e w2 ⟨rfl, hA2, K2⟩
  have HF1 := Lib.hid (Fail_any A kf1 w2 0 hA2)
  rw [kf2_e] at HF1
  simp only [errV_zero] at HF1
  go_wp2_with fail
  refine HF1.out.mono ?_
  rintro e w3 ⟨rfl, hA3, K3⟩
  have HF2 := Lib.hid (Fail_any A kf2 w3 1 hA3)
  rw [kf3_e] at HF2
  simp only [errV_zero] at HF2
  go_wp2_with fail
  refine HF2.out.mono ?_
  rintro e w4 ⟨rfl, hA4, K4⟩
  have HR1 := Lib.hid (Read_any A kf3 w4 0 hA4)
  rw [kf_read] at HR1
  simp only [errV_zero] at HR1
  go_wp2_with fail
  refine HR1.out.mono ?_
  rintro e w5 ⟨rfl, X5⟩
  have X05 : Ext w w5 := Ext.trans (Below.trans X1 (((K2.trans K3).trans K4).below (by omega) X1.size)) X5
  clear hA hA2 hA3 hA4 K2 K3 K4 HN1 HW1 HF1 HF2 HR1 X1 X5
  go_wp2_with fail
  refine (HN2.out w5).mono ?_
  rintro e w6 ⟨rfl, X6⟩
  have X := X05.trans X6
  go_wp2_with fail
  go_ret
  exact ⟨rfl, X⟩

theorem keeps_all (n rows size : Int) (la : Option Addr) (ln lc : Nat) (steps : List (List Int)) (w : World) (hg : Laid w) (hl : RowsIn w la ln lc steps) :
    Calls Tryd.prog 6 #[.int .i64 n, .int .i64 rows, .int .i64 size, .slice la ln lc] w fun e w' => e = .returned (.bool true) ∧ Ext w w' := by
  by_cases h : n < 3 ∨ 10 < n ∨ rows < 1 ∨ 20 < rows ∨ size < 1 ∨ 16 < size
  · exact keeps_none n rows size la ln lc w h
  · obtain ⟨n, rfl⟩ : ∃ m : Nat, n = (m : Int) := ⟨n.toNat, by omega⟩
    obtain ⟨rows, rfl⟩ : ∃ m : Nat, rows = (m : Int) := ⟨rows.toNat, by omega⟩
    obtain ⟨size, rfl⟩ : ∃ m : Nat, size = (m : Int) := ⟨size.toNat, by omega⟩
    exact keeps_good n rows size ln lc la steps w hg hl (by omega) (by omega) (by omega) (by omega) (by omega) (by omega)

end Go.Proofs.YtmgppnceddnlmaaDoor
