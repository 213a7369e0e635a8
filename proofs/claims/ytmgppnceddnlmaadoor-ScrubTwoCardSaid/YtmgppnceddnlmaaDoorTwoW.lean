/- Law ScrubTwo: the walk. -/
import Derived.Test.YtmgppnceddnlmaaDoorTwo
namespace Go.Proofs.YtmgppnceddnlmaaDoor
open Go.RowKit

theorem poke_ok_eq (s : St) (d row : Nat) (b : Blk) (hd : d < s.n) (hr : row < s.rows) (hb : b.length = s.size) (hl : s.lost d row = false) : s.poke d row b = (s.setCell d row b, 0) := by
  rw [St.poke, if_neg (by omega), if_neg (by omega), Int.toNat_natCast, Int.toNat_natCast, if_neg (by rw [hl]; decide)]
theorem Poke_ok (A : Lay) (s : St) (w : World) (d row : Nat) (b : Blk) (h : IsArr w A s) (hd : d < s.n) (hr : row < s.rows) (hb : b.length = s.size) (hl : s.lost d row = false) :
    Calls Tryd.prog 17 #[Ptr A.p, .int .i64 (d : Int), .int .i64 (row : Int), Str b] w (Moved A (s.setCell d row b) .nilIface w) := by
  have := Poke_any A s w (d : Int) (row : Int) b h
  rw [poke_ok_eq s d row b hd hr hb hl] at this
  exact this
theorem scrubE_eq (s : St) (row : Nat) (h3 : 3 ≤ s.n) (h10 : s.n ≤ 10) (hr : row < s.rows) : s.scrubE s.n row = s.scrub row := by
  rw [St.scrubE, if_neg (by omega), if_neg (by omega), if_neg (by omega), Int.toNat_natCast]

/-- What stands behind the first lines. -/
def Begun (w : World) (w' : World) : Prop := Ext w w'


set_option maxHeartbeats 2000000 in
set_option maxRecDepth 100000 in
theorem two_none (n i k : Int) (b c : Blk) (w : World) (h : n < 3 ∨ 10 < n) :
    Calls Tryd.prog 4 #[.int .i64 n, .int .i64 i, .int .i64 k, Str b, Str c] w fun e w' => e = .returned (.bool true) ∧ Ext w w' := by
  have HN2 := Lib.hid (fun wx => New_no n 1 2 wx (by omega))
  rw [errV_pos 1 (by omega)] at HN2
  by_cases c1 : n < 3
  · have c1d : decide (n < 3) = true := by simpa using c1
    clear h c1
    have HN1 := Lib.hid (New_ok 3 1 1 w (by omega) (by omega) (by omega) (by omega) (by omega) (by omega))
    go_enter Tryd.func4, Tryd.ntmps4
    go_wp2_with fail
    refine HN1.out.mono ?_
    rintro e w1 ⟨A, rfl, hlo, hA, X1⟩
    have HP1 := Lib.hid (Poke_ok A (St.new 3 1 1) w1 2 0 [1] hA (show 2 < 3 by omega) (show 0 < 1 by omega) rfl (new_lost 3 1 1 2 0 (by omega)))
    go_wp2_with fail
    refine HP1.out.mono ?_
    rintro e w2 ⟨rfl, hA2, K2⟩
    have HS1 := Lib.hid (Row_any A ((St.new 3 1 1).setCell 2 0 [1]) 3 0 w2 hA2)
    have hsE : ((St.new 3 1 1).setCell 2 0 [1]).scrubE 3 0 = ((St.new 3 1 1).setCell 2 0 [1]).scrub 0 := scrubE_eq ((St.new 3 1 1).setCell 2 0 [1]) 0 (Nat.le_refl 3) (show 3 ≤ 10 by omega) (show 0 < 1 by omega)
    rw [hsE, show ((St.new 3 1 1).setCell 2 0 [1]).scrub 0 = ((((St.new 3 1 1).setCell 2 0 [1]).scrub 0).1, (2, 0)) by rw [← fact_scrub]] at HS1
    simp only [errV_zero] at HS1
    go_wp2_with fail
    refine HS1.out.mono ?_
    rintro e w3 ⟨rfl, hA3, K3⟩
    have X3 : Ext w w3 := Below.trans X1 ((K2.trans K3).below (by omega) X1.size)
    clear hA hA2 hA3 K2 K3 HN1 HP1 HS1 X1
    go_wp2_with fail
    refine (HN2.out w3).mono ?_
    rintro e w4 ⟨rfl, X4⟩
    have X := X3.trans X4
    clear X3 X4
    go_wp2_with fail
    go_ret
    exact ⟨rfl, X⟩
  · have c1d : decide (n < 3) = false := by simpa using c1
    have c2d : decide (10 < n) = true := by simp; omega
    clear h
    have HN1 := Lib.hid (New_ok 3 1 1 w (by omega) (by omega) (by omega) (by omega) (by omega) (by omega))
    go_enter Tryd.func4, Tryd.ntmps4
    go_wp2_with fail
    refine HN1.out.mono ?_
    rintro e w1 ⟨A, rfl, hlo, hA, X1⟩
    have HP1 := Lib.hid (Poke_ok A (St.new 3 1 1) w1 2 0 [1] hA (show 2 < 3 by omega) (show 0 < 1 by omega) rfl (new_lost 3 1 1 2 0 (by omega)))
    go_wp2_with fail
    refine HP1.out.mono ?_
    rintro e w2 ⟨rfl, hA2, K2⟩
    have HS1 := Lib.hid (Row_any A ((St.new 3 1 1).setCell 2 0 [1]) 3 0 w2 hA2)
    have hsE : ((St.new 3 1 1).setCell 2 0 [1]).scrubE 3 0 = ((St.new 3 1 1).setCell 2 0 [1]).scrub 0 := scrubE_eq ((St.new 3 1 1).setCell 2 0 [1]) 0 (Nat.le_refl 3) (show 3 ≤ 10 by omega) (show 0 < 1 by omega)
    rw [hsE, show ((St.new 3 1 1).setCell 2 0 [1]).scrub 0 = ((((St.new 3 1 1).setCell 2 0 [1]).scrub 0).1, (2, 0)) by rw [← fact_scrub]] at HS1
    simp only [errV_zero] at HS1
    go_wp2_with fail
    refine HS1.out.mono ?_
    rintro e w3 ⟨rfl, hA3, K3⟩
    have X3 : Ext w w3 := Below.trans X1 ((K2.trans K3).below (by omega) X1.size)
    clear hA hA2 hA3 K2 K3 HN1 HP1 HS1 X1
    go_wp2_with fail
    refine (HN2.out w3).mono ?_
    rintro e w4 ⟨rfl, X4⟩
    have X := X3.trans X4
    clear X3 X4
    go_wp2_with fail
    go_ret
    exact ⟨rfl, X⟩

set_option maxHeartbeats 2000000 in
set_option maxRecDepth 100000 in
theorem two_bad (n i k : Int) (b c : Blk) (w : World) (h3 : 3 ≤ n) (h10 : n ≤ 10) (h : ¬ (0 ≤ i ∧ i < k ∧ k < n ∧ b.length = 2 ∧ c.length = 2 ∧ b ≠ [0, 0] ∧ c ≠ [0, 0])) :
    Calls Tryd.prog 4 #[.int .i64 n, .int .i64 i, .int .i64 k, Str b, Str c] w fun e w' => e = .returned (.bool true) ∧ Ext w w' := by
  obtain ⟨m, rfl⟩ : ∃ m : Nat, n = (m : Int) := ⟨n.toNat, by omega⟩
  have HN2 := Lib.hid (fun wx => New_ok m 1 2 wx (by omega) (by omega) (by omega) (by omega) (by omega) (by omega))
  by_cases c1 : i < 0
  · have c1d : decide (i < 0) = true := by simpa using c1
    clear h h3 h10 c1
    have HN1 := Lib.hid (New_ok 3 1 1 w (by omega) (by omega) (by omega) (by omega) (by omega) (by omega))
    go_enter Tryd.func4, Tryd.ntmps4
    go_wp2_with fail
    refine HN1.out.mono ?_
    rintro e w1 ⟨A, rfl, hlo, hA, X1⟩
    have HP1 := Lib.hid (Poke_ok A (St.new 3 1 1) w1 2 0 [1] hA (show 2 < 3 by omega) (show 0 < 1 by omega) rfl (new_lost 3 1 1 2 0 (by omega)))
    go_wp2_with fail
    refine HP1.out.mono ?_
    rintro e w2 ⟨rfl, hA2, K2⟩
    have HS1 := Lib.hid (Row_any A ((St.new 3 1 1).setCell 2 0 [1]) 3 0 w2 hA2)
    have hsE : ((St.new 3 1 1).setCell 2 0 [1]).scrubE 3 0 = ((St.new 3 1 1).setCell 2 0 [1]).scrub 0 := scrubE_eq ((St.new 3 1 1).setCell 2 0 [1]) 0 (Nat.le_refl 3) (show 3 ≤ 10 by omega) (show 0 < 1 by omega)
    rw [hsE, show ((St.new 3 1 1).setCell 2 0 [1]).scrub 0 = ((((St.new 3 1 1).setCell 2 0 [1]).scrub 0).1, (2, 0)) by rw [← fact_scrub]] at HS1
    simp only [errV_zero] at HS1
    go_wp2_with fail
    refine HS1.out.mono ?_
    rintro e w3 ⟨rfl, hA3, K3⟩
    have X3 : Ext w w3 := Below.trans X1 ((K2.trans K3).below (by omega) X1.size)
    clear hA hA2 hA3 K2 K3 HN1 HP1 HS1 X1
    go_wp2_with fail
    refine (HN2.out w3).mono ?_
    rintro e w4 ⟨A4, rfl, -, -, X4⟩
    have X := X3.trans X4
    clear X3 X4
    go_wp2_with fail
    go_ret
    exact ⟨rfl, X⟩
  · have c1d : decide (i < 0) = false := by simpa using c1
    by_cases c2 : (m : Int) ≤ i
    · have c2d : decide ((m : Int) ≤ i) = true := by simpa using c2
      clear h h3 h10 c2
      have HN1 := Lib.hid (New_ok 3 1 1 w (by omega) (by omega) (by omega) (by omega) (by omega) (by omega))
      go_enter Tryd.func4, Tryd.ntmps4
      go_wp2_with fail
      refine HN1.out.mono ?_
      rintro e w1 ⟨A, rfl, hlo, hA, X1⟩
      have HP1 := Lib.hid (Poke_ok A (St.new 3 1 1) w1 2 0 [1] hA (show 2 < 3 by omega) (show 0 < 1 by omega) rfl (new_lost 3 1 1 2 0 (by omega)))
      go_wp2_with fail
      refine HP1.out.mono ?_
      rintro e w2 ⟨rfl, hA2, K2⟩
      have HS1 := Lib.hid (Row_any A ((St.new 3 1 1).setCell 2 0 [1]) 3 0 w2 hA2)
      have hsE : ((St.new 3 1 1).setCell 2 0 [1]).scrubE 3 0 = ((St.new 3 1 1).setCell 2 0 [1]).scrub 0 := scrubE_eq ((St.new 3 1 1).setCell 2 0 [1]) 0 (Nat.le_refl 3) (show 3 ≤ 10 by omega) (show 0 < 1 by omega)
      rw [hsE, show ((St.new 3 1 1).setCell 2 0 [1]).scrub 0 = ((((St.new 3 1 1).setCell 2 0 [1]).scrub 0).1, (2, 0)) by rw [← fact_scrub]] at HS1
      simp only [errV_zero] at HS1
      go_wp2_with fail
      refine HS1.out.mono ?_
      rintro e w3 ⟨rfl, hA3, K3⟩
      have X3 : Ext w w3 := Below.trans X1 ((K2.trans K3).below (by omega) X1.size)
      clear hA hA2 hA3 K2 K3 HN1 HP1 HS1 X1
      go_wp2_with fail
      refine (HN2.out w3).mono ?_
      rintro e w4 ⟨A4, rfl, -, -, X4⟩
      have X := X3.trans X4
      clear X3 X4
      go_wp2_with fail
      go_ret
      exact ⟨rfl, X⟩
    · have c2d : decide ((m : Int) ≤ i) = false := by simpa using c2
      by_cases c3 : k ≤ i
      · have c3d : decide (k ≤ i) = true := by simpa using c3
        clear h h3 h10 c3
        have HN1 := Lib.hid (New_ok 3 1 1 w (by omega) (by omega) (by omega) (by omega) (by omega) (by omega))
        go_enter Tryd.func4, Tryd.ntmps4
        go_wp2_with fail
        refine HN1.out.mono ?_
        rintro e w1 ⟨A, rfl, hlo, hA, X1⟩
        have HP1 := Lib.hid (Poke_ok A (St.new 3 1 1) w1 2 0 [1] hA (show 2 < 3 by omega) (show 0 < 1 by omega) rfl (new_lost 3 1 1 2 0 (by omega)))
        go_wp2_with fail
        refine HP1.out.mono ?_
        rintro e w2 ⟨rfl, hA2, K2⟩
        have HS1 := Lib.hid (Row_any A ((St.new 3 1 1).setCell 2 0 [1]) 3 0 w2 hA2)
        have hsE : ((St.new 3 1 1).setCell 2 0 [1]).scrubE 3 0 = ((St.new 3 1 1).setCell 2 0 [1]).scrub 0 := scrubE_eq ((St.new 3 1 1).setCell 2 0 [1]) 0 (Nat.le_refl 3) (show 3 ≤ 10 by omega) (show 0 < 1 by omega)
        rw [hsE, show ((St.new 3 1 1).setCell 2 0 [1]).scrub 0 = ((((St.new 3 1 1).setCell 2 0 [1]).scrub 0).1, (2, 0)) by rw [← fact_scrub]] at HS1
        simp only [errV_zero] at HS1
        go_wp2_with fail
        refine HS1.out.mono ?_
        rintro e w3 ⟨rfl, hA3, K3⟩
        have X3 : Ext w w3 := Below.trans X1 ((K2.trans K3).below (by omega) X1.size)
        clear hA hA2 hA3 K2 K3 HN1 HP1 HS1 X1
        go_wp2_with fail
        refine (HN2.out w3).mono ?_
        rintro e w4 ⟨A4, rfl, -, -, X4⟩
        have X := X3.trans X4
        clear X3 X4
        go_wp2_with fail
        go_ret
        exact ⟨rfl, X⟩
      · have c3d : decide (k ≤ i) = false := by simpa using c3
        by_cases c4 : (m : Int) ≤ k
        · have c4d : decide ((m : Int) ≤ k) = true := by simpa using c4
          clear h h3 h10 c4
          have HN1 := Lib.hid (New_ok 3 1 1 w (by omega) (by omega) (by omega) (by omega) (by omega) (by omega))
          go_enter Tryd.func4, Tryd.ntmps4
          go_wp2_with fail
          refine HN1.out.mono ?_
          rintro e w1 ⟨A, rfl, hlo, hA, X1⟩
          have HP1 := Lib.hid (Poke_ok A (St.new 3 1 1) w1 2 0 [1] hA (show 2 < 3 by omega) (show 0 < 1 by omega) rfl (new_lost 3 1 1 2 0 (by omega)))
          go_wp2_with fail
          refine HP1.out.mono ?_
          rintro e w2 ⟨rfl, hA2, K2⟩
          have HS1 := Lib.hid (Row_any A ((St.new 3 1 1).setCell 2 0 [1]) 3 0 w2 hA2)
          have hsE : ((St.new 3 1 1).setCell 2 0 [1]).scrubE 3 0 = ((St.new 3 1 1).setCell 2 0 [1]).scrub 0 := scrubE_eq ((St.new 3 1 1).setCell 2 0 [1]) 0 (Nat.le_refl 3) (show 3 ≤ 10 by omega) (show 0 < 1 by omega)
          rw [hsE, show ((St.new 3 1 1).setCell 2 0 [1]).scrub 0 = ((((St.new 3 1 1).setCell 2 0 [1]).scrub 0).1, (2, 0)) by rw [← fact_scrub]] at HS1
          simp only [errV_zero] at HS1
          go_wp2_with fail
          refine HS1.out.mono ?_
          rintro e w3 ⟨rfl, hA3, K3⟩
          have X3 : Ext w w3 := Below.trans X1 ((K2.trans K3).below (by omega) X1.size)
          clear hA hA2 hA3 K2 K3 HN1 HP1 HS1 X1
          go_wp2_with fail
          refine (HN2.out w3).mono ?_
          rintro e w4 ⟨A4, rfl, -, -, X4⟩
          have X := X3.trans X4
          clear X3 X4
          go_wp2_with fail
          go_ret
          exact ⟨rfl, X⟩
        · have c4d : decide ((m : Int) ≤ k) = false := by simpa using c4
          by_cases c5 : b.length ≠ 2
          · have c5d : ((b.length : Int) != 2) = true := by rw [bne_iff_ne]; omega
            clear h h3 h10 c5
            have HN1 := Lib.hid (New_ok 3 1 1 w (by omega) (by omega) (by omega) (by omega) (by omega) (by omega))
            go_enter Tryd.func4, Tryd.ntmps4
            go_wp2_with fail
            refine HN1.out.mono ?_
            rintro e w1 ⟨A, rfl, hlo, hA, X1⟩
            have HP1 := Lib.hid (Poke_ok A (St.new 3 1 1) w1 2 0 [1] hA (show 2 < 3 by omega) (show 0 < 1 by omega) rfl (new_lost 3 1 1 2 0 (by omega)))
            go_wp2_with fail
            refine HP1.out.mono ?_
            rintro e w2 ⟨rfl, hA2, K2⟩
            have HS1 := Lib.hid (Row_any A ((St.new 3 1 1).setCell 2 0 [1]) 3 0 w2 hA2)
            have hsE : ((St.new 3 1 1).setCell 2 0 [1]).scrubE 3 0 = ((St.new 3 1 1).setCell 2 0 [1]).scrub 0 := scrubE_eq ((St.new 3 1 1).setCell 2 0 [1]) 0 (Nat.le_refl 3) (show 3 ≤ 10 by omega) (show 0 < 1 by omega)
            rw [hsE, show ((St.new 3 1 1).setCell 2 0 [1]).scrub 0 = ((((St.new 3 1 1).setCell 2 0 [1]).scrub 0).1, (2, 0)) by rw [← fact_scrub]] at HS1
            simp only [errV_zero] at HS1
            go_wp2_with fail
            refine HS1.out.mono ?_
            rintro e w3 ⟨rfl, hA3, K3⟩
            have X3 : Ext w w3 := Below.trans X1 ((K2.trans K3).below (by omega) X1.size)
            clear hA hA2 hA3 K2 K3 HN1 HP1 HS1 X1
            go_wp2_with fail
            refine (HN2.out w3).mono ?_
            rintro e w4 ⟨A4, rfl, -, -, X4⟩
            have X := X3.trans X4
            clear X3 X4
            go_wp2_with fail
            go_ret
            exact ⟨rfl, X⟩
          · have c5d : ((b.length : Int) != 2) = false := by simp; omega
            by_cases c6 : c.length ≠ 2
            · have c6d : ((c.length : Int) != 2) = true := by rw [bne_iff_ne]; omega
              clear h h3 h10 c6
              have HN1 := Lib.hid (New_ok 3 1 1 w (by omega) (by omega) (by omega) (by omega) (by omega) (by omega))
              go_enter Tryd.func4, Tryd.ntmps4
              go_wp2_with fail
              refine HN1.out.mono ?_
              rintro e w1 ⟨A, rfl, hlo, hA, X1⟩
              have HP1 := Lib.hid (Poke_ok A (St.new 3 1 1) w1 2 0 [1] hA (show 2 < 3 by omega) (show 0 < 1 by omega) rfl (new_lost 3 1 1 2 0 (by omega)))
              go_wp2_with fail
              refine HP1.out.mono ?_
              rintro e w2 ⟨rfl, hA2, K2⟩
              have HS1 := Lib.hid (Row_any A ((St.new 3 1 1).setCell 2 0 [1]) 3 0 w2 hA2)
              have hsE : ((St.new 3 1 1).setCell 2 0 [1]).scrubE 3 0 = ((St.new 3 1 1).setCell 2 0 [1]).scrub 0 := scrubE_eq ((St.new 3 1 1).setCell 2 0 [1]) 0 (Nat.le_refl 3) (show 3 ≤ 10 by omega) (show 0 < 1 by omega)
              rw [hsE, show ((St.new 3 1 1).setCell 2 0 [1]).scrub 0 = ((((St.new 3 1 1).setCell 2 0 [1]).scrub 0).1, (2, 0)) by rw [← fact_scrub]] at HS1
              simp only [errV_zero] at HS1
              go_wp2_with fail
              refine HS1.out.mono ?_
              rintro e w3 ⟨rfl, hA3, K3⟩
              have X3 : Ext w w3 := Below.trans X1 ((K2.trans K3).below (by omega) X1.size)
              clear hA hA2 hA3 K2 K3 HN1 HP1 HS1 X1
              go_wp2_with fail
              refine (HN2.out w3).mono ?_
              rintro e w4 ⟨A4, rfl, -, -, X4⟩
              have X := X3.trans X4
              clear X3 X4
              go_wp2_with fail
              go_ret
              exact ⟨rfl, X⟩
            · have c6d : ((c.length : Int) != 2) = false := by simp; omega
              by_cases c7 : b = [0, 0]
              · have c7d : (b == [0, 0]) = true := by simpa using c7
                clear h h3 h10 c7
                have HN1 := Lib.hid (New_ok 3 1 1 w (by omega) (by omega) (by omega) (by omega) (by omega) (by omega))
                go_enter Tryd.func4, Tryd.ntmps4
                go_wp2_with fail
                refine HN1.out.mono ?_
                rintro e w1 ⟨A, rfl, hlo, hA, X1⟩
                have HP1 := Lib.hid (Poke_ok A (St.new 3 1 1) w1 2 0 [1] hA (show 2 < 3 by omega) (show 0 < 1 by omega) rfl (new_lost 3 1 1 2 0 (by omega)))
                go_wp2_with fail
                refine HP1.out.mono ?_
                rintro e w2 ⟨rfl, hA2, K2⟩
                have HS1 := Lib.hid (Row_any A ((St.new 3 1 1).setCell 2 0 [1]) 3 0 w2 hA2)
                have hsE : ((St.new 3 1 1).setCell 2 0 [1]).scrubE 3 0 = ((St.new 3 1 1).setCell 2 0 [1]).scrub 0 := scrubE_eq ((St.new 3 1 1).setCell 2 0 [1]) 0 (Nat.le_refl 3) (show 3 ≤ 10 by omega) (show 0 < 1 by omega)
                rw [hsE, show ((St.new 3 1 1).setCell 2 0 [1]).scrub 0 = ((((St.new 3 1 1).setCell 2 0 [1]).scrub 0).1, (2, 0)) by rw [← fact_scrub]] at HS1
                simp only [errV_zero] at HS1
                go_wp2_with fail
                refine HS1.out.mono ?_
                rintro e w3 ⟨rfl, hA3, K3⟩
                have X3 : Ext w w3 := Below.trans X1 ((K2.trans K3).below (by omega) X1.size)
                clear hA hA2 hA3 K2 K3 HN1 HP1 HS1 X1
                go_wp2_with fail
                refine (HN2.out w3).mono ?_
                rintro e w4 ⟨A4, rfl, -, -, X4⟩
                have X := X3.trans X4
                clear X3 X4
                go_wp2_with fail
                go_ret
                exact ⟨rfl, X⟩
              · have c7d : (b == [0, 0]) = false := by simpa using c7
                by_cases c8 : c = [0, 0]
                · have c8d : (c == [0, 0]) = true := by simpa using c8
                  clear h h3 h10 c8
                  have HN1 := Lib.hid (New_ok 3 1 1 w (by omega) (by omega) (by omega) (by omega) (by omega) (by omega))
                  go_enter Tryd.func4, Tryd.ntmps4
                  go_wp2_with fail
                  refine HN1.out.mono ?_
                  rintro e w1 ⟨A, rfl, hlo, hA, X1⟩
                  have HP1 := Lib.hid (Poke_ok A (St.new 3 1 1) w1 2 0 [1] hA (show 2 < 3 by omega) (show 0 < 1 by omega) rfl (new_lost 3 1 1 2 0 (by omega)))
                  go_wp2_with fail
                  refine HP1.out.mono ?_
                  rintro e w2 ⟨rfl, hA2, K2⟩
                  have HS1 := Lib.hid (Row_any A ((St.new 3 1 1).setCell 2 0 [1]) 3 0 w2 hA2)
                  have hsE : ((St.new 3 1 1).setCell 2 0 [1]).scrubE 3 0 = ((St.new 3 1 1).setCell 2 0 [1]).scrub 0 := scrubE_eq ((St.new 3 1 1).setCell 2 0 [1]) 0 (Nat.le_refl 3) (show 3 ≤ 10 by omega) (show 0 < 1 by omega)
                  rw [hsE, show ((St.new 3 1 1).setCell 2 0 [1]).scrub 0 = ((((St.new 3 1 1).setCell 2 0 [1]).scrub 0).1, (2, 0)) by rw [← fact_scrub]] at HS1
                  simp only [errV_zero] at HS1
                  go_wp2_with fail
                  refine HS1.out.mono ?_
                  rintro e w3 ⟨rfl, hA3, K3⟩
                  have X3 : Ext w w3 := Below.trans X1 ((K2.trans K3).below (by omega) X1.size)
                  clear hA hA2 hA3 K2 K3 HN1 HP1 HS1 X1
                  go_wp2_with fail
                  refine (HN2.out w3).mono ?_
                  rintro e w4 ⟨A4, rfl, -, -, X4⟩
                  have X := X3.trans X4
                  clear X3 X4
                  go_wp2_with fail
                  go_ret
                  exact ⟨rfl, X⟩
                · exact absurd ⟨by omega, by omega, by omega, by omega, by omega, c7, c8⟩ h

set_option maxHeartbeats 2000000 in
set_option maxRecDepth 100000 in
theorem two_good (n i k : Nat) (b c : Blk) (w : World) (hg : Laid w) (h3 : 3 ≤ n) (h10 : n ≤ 10) (hik : (i : Int) < (k : Int)) (hkn : (k : Int) < (n : Int)) (hb : b.length = 2) (hc : c.length = 2) (hbz : b ≠ [0, 0]) (hcz : c ≠ [0, 0]) :
    Calls Tryd.prog 4 #[.int .i64 (n : Int), .int .i64 (i : Int), .int .i64 (k : Int), Str b, Str c] w fun e w' => e = .returned (.bool true) ∧ Ext w w' := by
  have HN2 := Lib.hid (fun wx => New_ok n 1 2 wx (by omega) (by omega) (by omega) (by omega) (by omega) (by omega))
  have d1 : decide ((i : Int) < 0) = false := by simp
  have d2 : decide ((n : Int) ≤ (i : Int)) = false := by simp; omega
  have d3 : decide ((k : Int) ≤ (i : Int)) = false := by simp; omega
  have d4 : decide ((n : Int) ≤ (k : Int)) = false := by simp; omega
  have d5 : ((b.length : Int) != 2) = false := by simp; omega
  have d6 : ((c.length : Int) != 2) = false := by simp; omega
  have d7 : (b == [0, 0]) = false := by simpa using hbz
  have d8 : (c == [0, 0]) = false := by simpa using hcz
  have HPb := Lib.hid (fun wx A (h : IsArr wx A (St.new n 1 2)) => Poke_ok A (St.new n 1 2) wx i 0 b h (show i < n by omega) (show 0 < 1 by omega) hb (new_lost n 1 2 i 0 (by omega)))
  have HPc := Lib.hid (fun wx A (h : IsArr wx A ((St.new n 1 2).setCell i 0 b)) => Poke_ok A ((St.new n 1 2).setCell i 0 b) wx k 0 c h (show k < n by omega) (show 0 < 1 by omega) hc (new_lost n 1 2 k 0 (by omega)))
  have HSc := Lib.hid (fun wx A (h : IsArr wx A (twoPoked n i k b c)) => Row_any A (twoPoked n i k b c) (n : Int) 0 wx h)
  have hsE2 : (twoPoked n i k b c).scrubE n 0 = (twoPoked n i k b c).scrub 0 := scrubE_eq (twoPoked n i k b c) 0 h3 h10 (show 0 < 1 by omega)
  rw [hsE2] at HSc
  have HT := Lib.hid (two_seen n i k b c h3 h10 (by omega) (by omega) hb hc hbz)
  clear hsE2 hbz hcz hb hc
  have HN1 := Lib.hid (New_ok 3 1 1 w (by omega) (by omega) (by omega) (by omega) (by omega) (by omega))
  go_enter Tryd.func4, Tryd.ntmps4
  go_wp2_with fail
  refine HN1.out.mono ?_
  rintro e w1 ⟨A, rfl, hlo, hA, X1⟩
  have HP1 := Lib.hid (Poke_ok A (St.new 3 1 1) w1 2 0 [1] hA (show 2 < 3 by omega) (show 0 < 1 by omega) rfl (new_lost 3 1 1 2 0 (by omega)))
  go_wp2_with fail
  refine HP1.out.mono ?_
  rintro e w2 ⟨rfl, hA2, K2⟩
  have HS1 := Lib.hid (Row_any A ((St.new 3 1 1).setCell 2 0 [1]) 3 0 w2 hA2)
  have hsE : ((St.new 3 1 1).setCell 2 0 [1]).scrubE 3 0 = ((St.new 3 1 1).setCell 2 0 [1]).scrub 0 := scrubE_eq ((St.new 3 1 1).setCell 2 0 [1]) 0 (Nat.le_refl 3) (show 3 ≤ 10 by omega) (show 0 < 1 by omega)
  rw [hsE, show ((St.new 3 1 1).setCell 2 0 [1]).scrub 0 = ((((St.new 3 1 1).setCell 2 0 [1]).scrub 0).1, (2, 0)) by rw [← fact_scrub]] at HS1
  simp only [errV_zero] at HS1
  go_wp2_with fail
  refine HS1.out.mono ?_
  rintro e w3 ⟨rfl, hA3, K3⟩
  have X3 : Ext w w3 := Below.trans X1 ((K2.trans K3).below (by omega) X1.size)
  clear hA hA2 hA3 K2 K3 HN1 HP1 HS1 X1
  go_wp2_with fail
  refine (HN2.out w3).mono ?_
  rintro e w4 ⟨A4, rfl, hlo4, hA4, X4⟩
  go_wp2_with fail
  refine (HPb.out w4 A4 hA4).mono ?_
  rintro e w5 ⟨rfl, hA5, K5⟩
  go_wp2_with fail
  refine (HPc.out w5 A4 hA5).mono ?_
  rintro e w6 ⟨rfl, hA6, K6⟩
  go_wp2_with fail
  refine (HSc.out w6 A4 hA6).mono ?_
  rintro e w7 ⟨rfl, hA7, K7⟩
  have X47 : Below w3.heap.size w3 w7 := Below.trans X4 (((K5.trans K6).trans K7).below (by omega) X4.size)
  have X7 : Ext w w7 := X3.trans X47
  have HE := Lib.hid (fun q => error_any q 8 w7 (hg.ext X7))
  clear hA4 hA5 hA6 hA7 K5 K6 K7 X3 X4 X47 hsE
  generalize (twoPoked n i k b c).scrub 0 = r at *
  obtain ⟨t, x, f⟩ := r
  have HT2 := HT.out
  simp only at HT2
  rcases HT2 with rfl | ⟨rfl, hx⟩
  · have HE8 := HE.out 8
    rw [errV_pos 8 (by omega)] at HE8
    have HE9 := Lib.hid HE8
    simp only [errV_pos 8 (show 0 < 8 by omega)]
    clear HE8 HE HT
    go_wp2_with fail
    refine HE9.out.mono ?_
    rintro e w8 ⟨rfl, X8⟩
    go_wp2_with fail
    go_ret
    exact ⟨rfl, X7.trans X8⟩
  · have HE8 := HE.out 0
    rw [errV_zero] at HE8
    have HE9 := Lib.hid HE8
    simp only [errV_zero]
    have dx : decide (0 ≤ x) = true := by simpa using hx
    clear HE8 HE HT
    go_wp2_with fail
    refine HE9.out.mono ?_
    rintro e w8 ⟨rfl, X8⟩
    go_wp2_with fail
    go_ret
    exact ⟨rfl, X7.trans X8⟩

theorem two_all (n i k : Int) (b c : Blk) (w : World) (hg : Laid w) :
    Calls Tryd.prog 4 #[.int .i64 n, .int .i64 i, .int .i64 k, Str b, Str c] w fun e w' => e = .returned (.bool true) ∧ Ext w w' := by
  by_cases hb : n < 3 ∨ 10 < n
  · exact two_none n i k b c w hb
  · by_cases h : 0 ≤ i ∧ i < k ∧ k < n ∧ b.length = 2 ∧ c.length = 2 ∧ b ≠ [0, 0] ∧ c ≠ [0, 0]
    · obtain ⟨n, rfl⟩ : ∃ m : Nat, n = (m : Int) := ⟨n.toNat, by omega⟩
      obtain ⟨i, rfl⟩ : ∃ m : Nat, i = (m : Int) := ⟨i.toNat, by omega⟩
      obtain ⟨k, rfl⟩ : ∃ m : Nat, k = (m : Int) := ⟨k.toNat, by omega⟩
      exact two_good n i k b c w hg (by omega) (by omega) h.2.1 h.2.2.1 h.2.2.2.1 h.2.2.2.2.1 h.2.2.2.2.2.1 h.2.2.2.2.2.2
    · exact two_bad n i k b c w (by omega) (by omega) h

end Go.Proofs.YtmgppnceddnlmaaDoor
