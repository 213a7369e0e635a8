/- Law ArrayThree: the plain facts and the walk. -/
import Derived.Test.YtmgppnceddnlmaaDoorTold
import Derived.Test.YtmgppnceddnlmaaDoorScrub
namespace Go.Proofs.YtmgppnceddnlmaaDoor
open Go.RowKit

theorem lostUpto_mono (s : St) (row a b : Nat) (h : a ≤ b) : lostUpto s row a ≤ lostUpto s row b := by
  induction b with
  | zero => rw [show a = 0 by omega]; exact Nat.le_refl _
  | succ b ih =>
    by_cases e : a = b + 1
    · rw [e]; exact Nat.le_refl _
    · rw [lostUpto_succ]
      have := ih (by omega)
      split <;> omega
theorem lostUpto_hit (s : St) (row a : Nat) (h : s.lost a row = true) : lostUpto s row (a + 1) = lostUpto s row a + 1 := by rw [lostUpto_succ, if_pos h]

/-- Three disks have failed. -/
def three (n rows i k j : Nat) : St := (((St.new n rows 1).setFailed i true).setFailed k true).setFailed j true
theorem three_failed (n rows i k j d : Nat) : (three n rows i k j).failed d = (decide (d = j) || (decide (d = k) || decide (d = i))) := by
  simp only [three, St.setFailed, St.new]
  by_cases e1 : d = j
  · simp [e1]
  · by_cases e2 : d = k
    · simp [e2]
    · by_cases e3 : d = i <;> simp [e1, e2, e3]
theorem three_lost (n rows i k j d row : Nat) (hr : row < rows) : (three n rows i k j).lost d row = (decide (d = j) || (decide (d = k) || decide (d = i))) := by
  rw [St.lost, three_failed]
  have : decide ((three n rows i k j).built d ≤ row) = false := by simp [three, St.setFailed, St.new]; omega
  rw [this, Bool.or_false]
theorem three_lostN (n rows i k j row : Nat) (hr : row < rows) (h1 : i < k) (h2 : k < j) (h3 : j < n) : 2 < (three n rows i k j).lostN row := by
  have e : (three n rows i k j).lostN row = lostUpto (three n rows i k j) row n := rfl
  have a1 := lostUpto_hit (three n rows i k j) row i (by rw [three_lost _ _ _ _ _ _ _ hr]; simp)
  have a2 := lostUpto_hit (three n rows i k j) row k (by rw [three_lost _ _ _ _ _ _ _ hr]; simp)
  have a3 := lostUpto_hit (three n rows i k j) row j (by rw [three_lost _ _ _ _ _ _ _ hr]; simp)
  have b1 := lostUpto_mono (three n rows i k j) row (i + 1) k (by omega)
  have b2 := lostUpto_mono (three n rows i k j) row (k + 1) j (by omega)
  have b3 := lostUpto_mono (three n rows i k j) row (j + 1) n (by omega)
  omega
theorem three_read (n rows i k j b : Nat) (hok : (three n rows i k j).Ok) (hb : b < rows * (n - 2)) (hn : 3 ≤ n) (h1 : i < k) (h2 : k < j) (h3 : j < n) :
    ((three n rows i k j).read b).2 = if lay n (b / (n - 2)) (b % (n - 2)) = i ∨ lay n (b / (n - 2)) (b % (n - 2)) = k ∨ lay n (b / (n - 2)) (b % (n - 2)) = j then 8 else 0 := by
  have hlt : b / (n - 2) < rows := (Nat.div_lt_iff_lt_mul (by omega)).2 hb
  have hnn : (three n rows i k j).n = n := rfl
  have hrr : (three n rows i k j).rows = rows := rfl
  have hneg : ¬ ((b : Int) < 0 ∨ (((three n rows i k j).rows * ((three n rows i k j).n - 2) : Nat) : Int) ≤ (b : Int)) := by rw [hnn, hrr]; omega
  rw [St.read, if_neg hneg]
  simp only [Int.toNat_natCast, hnn]
  rw [three_lost _ _ _ _ _ _ _ hlt]
  by_cases e : lay n (b / (n - 2)) (b % (n - 2)) = i ∨ lay n (b / (n - 2)) (b % (n - 2)) = k ∨ lay n (b / (n - 2)) (b % (n - 2)) = j
  · rw [if_pos e, if_neg, heal_row hok hlt, if_pos (three_lostN _ _ _ _ _ _ hlt h1 h2 h3)]
    · rfl
    · intro q
      simp only [Bool.or_eq_false_iff, decide_eq_false_iff_not] at q
      rcases e with e | e | e
      · exact q.2.2 e
      · exact q.2.1 e
      · exact q.1 e
  · rw [if_neg e, if_pos]
    simp only [Bool.or_eq_false_iff, decide_eq_false_iff_not]
    exact ⟨fun x => e (.inr (.inr x)), fun x => e (.inr (.inl x)), fun x => e (.inl x)⟩

theorem fail_ok_eq (s : St) (d : Nat) (hd : d < s.n) (hf : s.failed d = false) : s.fail d = (s.setFailed d true, 0) := by
  rw [St.fail, if_neg (by omega), Int.toNat_natCast, if_neg (by rw [hf]; decide)]

theorem Fail_ok (A : Lay) (s : St) (w : World) (d : Nat) (h : IsArr w A s) (hd : d < s.n) (hf : s.failed d = false) :
    Calls Tryd.prog 13 #[Ptr A.p, .int .i64 (d : Int)] w (Moved A (s.setFailed d true) .nilIface w) := by
  have := Fail_any A s w (d : Int) h
  rw [fail_ok_eq s d hd hf] at this
  exact this

set_option maxHeartbeats 2000000 in
set_option maxRecDepth 100000 in
theorem three_walk (n rows i k j : Nat) (w : World) (hg : Laid w) (hn3 : 3 ≤ n) (hn10 : n ≤ 10) (hr1 : 1 ≤ rows) (hr20 : rows ≤ 20) (hik : (i : Int) < (k : Int)) (hkj : (k : Int) < (j : Int)) (hjn : (j : Int) < (n : Int)) :
    Calls Tryd.prog 3 #[.int .i64 (n : Int), .int .i64 (rows : Int), .int .i64 (i : Int), .int .i64 (k : Int), .int .i64 (j : Int)] w fun e w' => e = .returned (.bool true) ∧ Ext w w' := by
  have HN := Lib.hid (New_ok n rows 1 w hn3 hn10 hr1 hr20 (by omega) (by omega))
  have d1 : decide ((i : Int) < 0) = false := by simp
  have d2 : decide ((n : Int) ≤ (i : Int)) = false := by simp; omega
  have d3 : decide ((k : Int) ≤ (i : Int)) = false := by simp; omega
  have d4 : decide ((n : Int) ≤ (k : Int)) = false := by simp; omega
  have d5 : decide ((j : Int) ≤ (k : Int)) = false := by simp; omega
  have d6 : decide ((n : Int) ≤ (j : Int)) = false := by simp; omega
  go_enter Tryd.func3, Tryd.ntmps3
  go_wp2_with fail
  refine HN.out.mono ?_
  rintro e w1 ⟨A, rfl, hlo, hA, X1⟩
  have HF1 := Lib.hid (fun wx (h : IsArr wx A _) => Fail_ok A (St.new n rows 1) wx i h (show i < n by omega) rfl)
  have HF2 := Lib.hid (fun wx (h : IsArr wx A _) => Fail_ok A ((St.new n rows 1).setFailed i true) wx k h (show k < n by omega) (by simp [St.setFailed, St.new]; omega))
  have HF3 := Lib.hid (fun wx (h : IsArr wx A _) => Fail_ok A (((St.new n rows 1).setFailed i true).setFailed k true) wx j h (show j < n by omega) (by simp [St.setFailed, St.new]; omega))
  go_wp2_with fail
  refine (HF1.out w1 hA).mono ?_
  rintro e w2 ⟨rfl, hA2, K2⟩
  go_wp2_with fail
  refine (HF2.out w2 hA2).mono ?_
  rintro e w3 ⟨rfl, hA3, K3⟩
  go_wp2_with fail
  refine (HF3.out w3 hA3).mono ?_
  rintro e w4 ⟨rfl, hA4, K4⟩
  have hA4 : IsArr w4 A (three n rows i k j) := hA4
  have X4 : Ext w w4 := Below.trans X1 (((K2.trans K3).trans K4).below (by omega) X1.size)
  have hok := hA4.ok
  have hpb : rows * (n - 2) ≤ 20 * 8 := Nat.mul_le_mul hr20 (by omega)
  have hprod : ((rows : Int) * ((n : Int) - 2)) = ((rows * (n - 2) : Nat) : Int) := by
    rw [Int.natCast_mul, show ((n - 2 : Nat) : Int) = (n : Int) - 2 by omega]
  have HRd := Lib.hid (fun b hb => three_read n rows i k j b hok hb hn3 (by omega) (by omega) (by omega))
  have HDv := Lib.hid (fun b (hb : b < rows * (n - 2)) => Nat.lt_of_lt_of_le ((Nat.div_lt_iff_lt_mul (show 0 < n - 2 by omega)).2 hb) hr20)
  clear hA hA2 hA3 hok
  generalize hq : rows * (n - 2) = q at *
  go_wp2_with fail
  go_loopw [13] (fun ix wr => ∃ b : Nat, b ≤ q ∧ ix = .int .i64 b ∧ IsArr wr A (three n rows i k j) ∧ Ext w wr) (fun ix _ => q - (intOf ix).toNat)
  case atStart => exact ⟨0, by omega, rfl, hA4, X4⟩
  case round =>
    obtain ⟨b, hb, rfl, hB, X⟩ := hrel
    by_cases hlt : (b : Int) < (q : Int)
    · have HD := Lib.hid (data_any n b wr hn3 hn10 (HDv.out b (by omega)))
      have hrd := HRd.out b (by omega)
      have hHg := hg.ext X
      generalize b / (n - 2) = row at *
      generalize hdd : lay n row (b % (n - 2)) = d at *
      clear hdd
      go_wp2_with fail
      refine HD.out.mono ?_
      rintro e w5 ⟨rfl, X5⟩
      go_upto_region 10 with (fail)
      generalize hw6 : w5.alloc _ = w6
      have X56 : Ext w5 w6 := by rw [← hw6]; exact (Below.refl _ _).alloc (Nat.le_refl _) _
      have hrow : Row w6 w5.heap.size 29 #[Num d, Num row] := by rw [← hw6]; exact Row.new _ _ _
      have X6 := X5.trans X56
      clear hw6
      have HR := Lib.hid (Read_any A (three n rows i k j) w6 (b : Int) (hB.ext X6))
      generalize hrv : (three n rows i k j).read (b : Int) = rv at *
      obtain ⟨rb, re⟩ := rv
      simp only at hrd HR
      clear hrv
      by_cases e1 : d = i
      · have qi : (((d : Nat) : Int) == ((i : Nat) : Int)) = true := by rw [beq_iff_eq]; omega
        have hre : re = 8 := by rw [hrd]; exact if_pos (by omega)
        subst hre
        clear hrd
        rw [errV_pos 8 (by omega)] at HR
        go_wp2_with fail
        refine HR.out.mono ?_
        rintro e w7 ⟨rfl, X7⟩
        have hrow7 := hrow.ext X7
        have r7 : w7.cell? ⟨w5.heap.size, 0, none⟩ = some (Num d) := hrow7.cell 0
        have HE := Lib.hid (error_any 8 8 w7 ((hHg.ext X6).ext X7))
        rw [errV_pos 8 (by omega)] at HE
        have XX := X.trans (X6.trans X7)
        have HB7 := Lib.hid ((hB.ext X6).ext X7)
        clear X6 X7 X56 X5 hrow hrow7 hB HR HD hHg
        go_wp2_with fail
        refine HE.out.mono ?_
        rintro e w8 ⟨rfl, X8⟩
        go_wp2_with fail
        go_roundw
        case rel => exact ⟨b + 1, by omega, by go_num, HB7.out.ext X8, XX.trans X8⟩
        case measure => simp [intOf]; omega
      · by_cases e2 : d = k
        · have qi : (((d : Nat) : Int) == ((i : Nat) : Int)) = false := by rw [beq_eq_false_iff_ne]; omega
          have qk : (((d : Nat) : Int) == ((k : Nat) : Int)) = true := by rw [beq_iff_eq]; omega
          have hre : re = 8 := by rw [hrd]; exact if_pos (by omega)
          subst hre
          clear hrd
          rw [errV_pos 8 (by omega)] at HR
          go_wp2_with fail
          refine HR.out.mono ?_
          rintro e w7 ⟨rfl, X7⟩
          have hrow7 := hrow.ext X7
          have r7 : w7.cell? ⟨w5.heap.size, 0, none⟩ = some (Num d) := hrow7.cell 0
          have HE := Lib.hid (error_any 8 8 w7 ((hHg.ext X6).ext X7))
          rw [errV_pos 8 (by omega)] at HE
          have XX := X.trans (X6.trans X7)
          have HB7 := Lib.hid ((hB.ext X6).ext X7)
          clear X6 X7 X56 X5 hrow hrow7 hB HR HD hHg
          go_wp2_with fail
          refine HE.out.mono ?_
          rintro e w8 ⟨rfl, X8⟩
          go_wp2_with fail
          go_roundw
          case rel => exact ⟨b + 1, by omega, by go_num, HB7.out.ext X8, XX.trans X8⟩
          case measure => simp [intOf]; omega
        · by_cases e3 : d = j
          · have qi : (((d : Nat) : Int) == ((i : Nat) : Int)) = false := by rw [beq_eq_false_iff_ne]; omega
            have qk : (((d : Nat) : Int) == ((k : Nat) : Int)) = false := by rw [beq_eq_false_iff_ne]; omega
            have qj : (((d : Nat) : Int) == ((j : Nat) : Int)) = true := by rw [beq_iff_eq]; omega
            have hre : re = 8 := by rw [hrd]; exact if_pos (by omega)
            subst hre
            clear hrd
            rw [errV_pos 8 (by omega)] at HR
            go_wp2_with fail
            refine HR.out.mono ?_
            rintro e w7 ⟨rfl, X7⟩
            have hrow7 := hrow.ext X7
            have r7 : w7.cell? ⟨w5.heap.size, 0, none⟩ = some (Num d) := hrow7.cell 0
            have HE := Lib.hid (error_any 8 8 w7 ((hHg.ext X6).ext X7))
            rw [errV_pos 8 (by omega)] at HE
            have XX := X.trans (X6.trans X7)
            have HB7 := Lib.hid ((hB.ext X6).ext X7)
            clear X6 X7 X56 X5 hrow hrow7 hB HR HD hHg
            go_wp2_with fail
            refine HE.out.mono ?_
            rintro e w8 ⟨rfl, X8⟩
            go_wp2_with fail
            go_roundw
            case rel => exact ⟨b + 1, by omega, by go_num, HB7.out.ext X8, XX.trans X8⟩
            case measure => simp [intOf]; omega
          · have qi : (((d : Nat) : Int) == ((i : Nat) : Int)) = false := by rw [beq_eq_false_iff_ne]; omega
            have qk : (((d : Nat) : Int) == ((k : Nat) : Int)) = false := by rw [beq_eq_false_iff_ne]; omega
            have qj : (((d : Nat) : Int) == ((j : Nat) : Int)) = false := by rw [beq_eq_false_iff_ne]; omega
            have hre : re = 0 := by rw [hrd]; exact if_neg (by omega)
            subst hre
            clear hrd
            rw [errV_zero] at HR
            go_wp2_with fail
            refine HR.out.mono ?_
            rintro e w7 ⟨rfl, X7⟩
            have hrow7 := hrow.ext X7
            have r7 : w7.cell? ⟨w5.heap.size, 0, none⟩ = some (Num d) := hrow7.cell 0
            have HE := Lib.hid (error_any 0 8 w7 ((hHg.ext X6).ext X7))
            rw [errV_zero] at HE
            have XX := X.trans (X6.trans X7)
            have HB7 := Lib.hid ((hB.ext X6).ext X7)
            clear X6 X7 X56 X5 hrow hrow7 hB HR HD hHg
            go_wp2_with fail
            refine HE.out.mono ?_
            rintro e w8 ⟨rfl, X8⟩
            go_wp2_with fail
            go_roundw
            case rel => exact ⟨b + 1, by omega, by go_num, HB7.out.ext X8, XX.trans X8⟩
            case measure => simp [intOf]; omega
    · go_wp2_with fail
      go_ret
      exact ⟨rfl, X⟩

set_option maxHeartbeats 2000000 in
set_option maxRecDepth 100000 in
theorem three_bad (n rows : Nat) (i k j : Int) (w : World) (hn3 : 3 ≤ n) (hn10 : n ≤ 10) (hr1 : 1 ≤ rows) (hr20 : rows ≤ 20) (h : ¬ (0 ≤ i ∧ i < k ∧ k < j ∧ j < (n : Int))) :
    Calls Tryd.prog 3 #[.int .i64 (n : Int), .int .i64 (rows : Int), .int .i64 i, .int .i64 k, .int .i64 j] w fun e w' => e = .returned (.bool true) ∧ Ext w w' := by
  have HN := Lib.hid (New_ok n rows 1 w hn3 hn10 hr1 hr20 (by omega) (by omega))
  by_cases c1 : i < 0
  · have c1d : decide (i < 0) = true := by simpa using c1
    clear h c1
    go_enter Tryd.func3, Tryd.ntmps3
    go_wp2_with fail
    refine HN.out.mono ?_
    rintro e w1 ⟨A, rfl, hlo, hA, X1⟩
    go_wp2_with fail
    go_ret
    exact ⟨rfl, X1⟩
  · have c1d : decide (i < 0) = false := by simpa using c1
    by_cases c2 : (n : Int) ≤ i
    · have c2d : decide ((n : Int) ≤ i) = true := by simpa using c2
      clear h c2
      go_enter Tryd.func3, Tryd.ntmps3
      go_wp2_with fail
      refine HN.out.mono ?_
      rintro e w1 ⟨A, rfl, hlo, hA, X1⟩
      go_wp2_with fail
      go_ret
      exact ⟨rfl, X1⟩
    · have c2d : decide ((n : Int) ≤ i) = false := by simpa using c2
      by_cases c3 : k ≤ i
      · have c3d : decide (k ≤ i) = true := by simpa using c3
        clear h c3
        go_enter Tryd.func3, Tryd.ntmps3
        go_wp2_with fail
        refine HN.out.mono ?_
        rintro e w1 ⟨A, rfl, hlo, hA, X1⟩
        go_wp2_with fail
        go_ret
        exact ⟨rfl, X1⟩
      · have c3d : decide (k ≤ i) = false := by simpa using c3
        by_cases c4 : (n : Int) ≤ k
        · have c4d : decide ((n : Int) ≤ k) = true := by simpa using c4
          clear h c4
          go_enter Tryd.func3, Tryd.ntmps3
          go_wp2_with fail
          refine HN.out.mono ?_
          rintro e w1 ⟨A, rfl, hlo, hA, X1⟩
          go_wp2_with fail
          go_ret
          exact ⟨rfl, X1⟩
        · have c4d : decide ((n : Int) ≤ k) = false := by simpa using c4
          by_cases c5 : j ≤ k
          · have c5d : decide (j ≤ k) = true := by simpa using c5
            clear h c5
            go_enter Tryd.func3, Tryd.ntmps3
            go_wp2_with fail
            refine HN.out.mono ?_
            rintro e w1 ⟨A, rfl, hlo, hA, X1⟩
            go_wp2_with fail
            go_ret
            exact ⟨rfl, X1⟩
          · have c5d : decide (j ≤ k) = false := by simpa using c5
            by_cases c6 : (n : Int) ≤ j
            · have c6d : decide ((n : Int) ≤ j) = true := by simpa using c6
              clear h c6
              go_enter Tryd.func3, Tryd.ntmps3
              go_wp2_with fail
              refine HN.out.mono ?_
              rintro e w1 ⟨A, rfl, hlo, hA, X1⟩
              go_wp2_with fail
              go_ret
              exact ⟨rfl, X1⟩
            · exact absurd ⟨by omega, by omega, by omega, by omega⟩ h

set_option maxHeartbeats 2000000 in
set_option maxRecDepth 100000 in
theorem three_none (n rows i k j : Int) (w : World) (h : n < 3 ∨ 10 < n ∨ rows < 1 ∨ 20 < rows) :
    Calls Tryd.prog 3 #[.int .i64 n, .int .i64 rows, .int .i64 i, .int .i64 k, .int .i64 j] w fun e w' => e = .returned (.bool true) ∧ Ext w w' := by
  have HN := Lib.hid (New_no n rows 1 w (by omega))
  rw [errV_pos 1 (by omega)] at HN
  by_cases c1 : n < 3
  · have c1d : decide (n < 3) = true := by simpa using c1
    clear h c1
    go_enter Tryd.func3, Tryd.ntmps3
    go_wp2_with fail
    refine HN.out.mono ?_
    rintro e w1 ⟨rfl, X1⟩
    go_wp2_with fail
    go_ret
    exact ⟨rfl, X1⟩
  · have c1d : decide (n < 3) = false := by simpa using c1
    by_cases c2 : 10 < n
    · have c2d : decide (10 < n) = true := by simpa using c2
      clear h c2
      go_enter Tryd.func3, Tryd.ntmps3
      go_wp2_with fail
      refine HN.out.mono ?_
      rintro e w1 ⟨rfl, X1⟩
      go_wp2_with fail
      go_ret
      exact ⟨rfl, X1⟩
    · have c2d : decide (10 < n) = false := by simpa using c2
      by_cases c3 : rows < 1
      · have c3d : decide (rows < 1) = true := by simpa using c3
        clear h c3
        go_enter Tryd.func3, Tryd.ntmps3
        go_wp2_with fail
        refine HN.out.mono ?_
        rintro e w1 ⟨rfl, X1⟩
        go_wp2_with fail
        go_ret
        exact ⟨rfl, X1⟩
      · have c3d : decide (rows < 1) = false := by simpa using c3
        have c4d : decide (20 < rows) = true := by simp; omega
        clear h
        go_enter Tryd.func3, Tryd.ntmps3
        go_wp2_with fail
        refine HN.out.mono ?_
        rintro e w1 ⟨rfl, X1⟩
        go_wp2_with fail
        go_ret
        exact ⟨rfl, X1⟩

end Go.Proofs.YtmgppnceddnlmaaDoor
