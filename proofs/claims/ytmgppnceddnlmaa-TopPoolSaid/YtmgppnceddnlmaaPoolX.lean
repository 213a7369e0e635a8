/- Law TopPool: pq.Encode, the closed fact, the block of a number; the law where there is no array or no pool. -/
import Derived.Test.YtmgppnceddnlmaaPoolT
namespace Go.Proofs.Ytmgppnceddnlmaa
open Go.RowKit

/-- pq.Encode: P, Q, and the fault. -/
def encE (l : List Blk) : Blk × Blk × Nat := if l.length < 1 ∨ 10 < l.length then ([], [], 1) else if blocksE l ≠ 0 then ([], [], blocksE l) else (pOf l, qOf l, 0)
def EncRet (l : List Blk) (w : World) (e : Ending) (w' : World) : Prop := e = .returned (.tuple #[Str (encE l).1, Str (encE l).2.1, errV (encE l).2.2]) ∧ Ext w w'

set_option maxRecDepth 100000 in
theorem many_noI (z : Int) (w : World) (h : z ≤ 2 ∨ 12 < z) :
    Calls Try.prog 33 #[.int .i64 z] w fun e w' => e = .returned (.bool false) ∧ w = w' := by
  by_cases h2 : 2 < z
  · have h3 : decide (z ≤ 12) = false := by simp; omega
    clear h
    go_enter Try.func33, Try.ntmps33
    go_wp2_with fail
    go_ret
    exact ⟨rfl, rfl⟩
  · have hd : decide (2 < z) = false := by simpa using h2
    clear h
    go_enter Try.func33, Try.ntmps33
    go_wp2_with fail
    go_ret
    exact ⟨rfl, rfl⟩

set_option maxHeartbeats 400000 in
set_option maxRecDepth 100000 in
theorem pqenc_any (a : Option Addr) (n cap : Nat) (l : List Blk) (w : World) (h : Sl w Str a n cap l) :
    Calls Try.prog 8 #[.slice a n cap] w (EncRet l w) := by
  have hl := h.len
  have hb := h.bound
  by_cases h1 : n < 1 ∨ 10 < n
  · have HE : Hid (encE l = ([], [], 1)) := Lib.hid (if_pos (by rw [hl]; exact h1))
    by_cases hbig : (n : Int) ≤ 9223372036854775805
    · have HMh := Lib.hid (many_noI ((n : Int) + 2) w (by omega))
      clear h1 hl
      go_enter Try.func8, Try.ntmps8
      go_wp2_with fail
      refine HMh.out.mono ?_
      rintro e w' ⟨rfl, rfl⟩
      go_wp2_with fail
      refine bodyPost_ret (v := .tuple #[Str [], Str [], .iface 64 (.int .i64 1)]) (by simp [results, Try.results8, go_sem]) rfl ?_
      refine ⟨?_, Ext.refl _⟩
      rw [HE.out]
      rfl
    · have HMh := Lib.hid (many_noI (wrap64 ((n : Int) + 2)) w (by unfold wrap64; omega))
      clear h1 hl hbig
      go_enter Try.func8, Try.ntmps8
      go_wp2_with fail
      refine HMh.out.mono ?_
      rintro e w' ⟨rfl, rfl⟩
      go_wp2_with fail
      refine bodyPost_ret (v := .tuple #[Str [], Str [], .iface 64 (.int .i64 1)]) (by simp [results, Try.results8, go_sem]) rfl ?_
      refine ⟨?_, Ext.refl _⟩
      rw [HE.out]
      rfl
  · have hn10 : (n : Int) ≤ 10 := by omega
    have HM := many_yes (n + 2) w (by omega) (by omega)
    rw [show ((n + 2 : Nat) : Int) = (n : Int) + 2 by omega] at HM
    have HMh := Lib.hid HM
    have HB := Lib.hid (blocks_any a n cap l w h)
    by_cases h2 : blocksE l = 0
    · have hz := blocksE_zero h2
      have HO := Lib.hid (of_any a n cap l w h hz.1 (by omega) (by omega))
      have HE : Hid (encE l = (pOf l, qOf l, 0)) := Lib.hid (by rw [encE, if_neg (by rw [hl]; exact h1), if_neg (by omega)])
      rw [h2, errV_zero] at HB
      clear HM h1 hl h2 hz
      go_enter Try.func8, Try.ntmps8
      go_wp2_with fail
      refine HMh.out.mono ?_
      rintro e w' ⟨rfl, rfl⟩
      go_wp2_with fail
      refine HB.out.mono ?_
      rintro e w' ⟨rfl, rfl⟩
      go_wp2_with fail
      refine HO.out.mono ?_
      rintro e w1 ⟨rfl, X⟩
      go_wp2_with fail
      refine bodyPost_ret (v := .tuple #[Str (pOf l), Str (qOf l), .nilIface]) (by simp [results, Try.results8, go_sem]) rfl ?_
      refine ⟨?_, X⟩
      rw [HE.out]
      rfl
    · have HE : Hid (encE l = ([], [], blocksE l)) := Lib.hid (by rw [encE, if_neg (by rw [hl]; exact h1), if_pos h2])
      rw [errV_pos _ (by omega)] at HB
      have HP : Hid (errV (blocksE l) = .iface 64 (.int .i64 ((blocksE l : Nat) : Int))) := Lib.hid (errV_pos _ (by omega))
      clear HM h1 hl h2
      generalize hz : blocksE l = z at *
      clear hz
      go_enter Try.func8, Try.ntmps8
      go_wp2_with fail
      refine HMh.out.mono ?_
      rintro e w' ⟨rfl, rfl⟩
      go_wp2_with fail
      refine HB.out.mono ?_
      rintro e w' ⟨rfl, rfl⟩
      go_wp2_with fail
      refine bodyPost_ret (v := .tuple #[Str [], Str [], .iface 64 (.int .i64 (z : Int))]) (by simp [results, Try.results8, go_sem]) rfl ?_
      refine ⟨?_, Ext.refl _⟩
      rw [HE.out, ← HP.out]

theorem one_fact : encE [[5], [6]] = ([3], [9], 0) := by kernel_rfl
set_option maxRecDepth 100000 in
theorem one_true (w : World) : Calls Try.prog 6 #[] w fun e w' => e = .returned (.bool true) ∧ Ext w w' := by
  have hr : Row (w.alloc (.cells #[Str [5], Str [6]] 9)) w.heap.size 9 (([[5], [6]] : List Blk).map Str).toArray := Row.new _ _ _
  have HP := pqenc_any _ 2 2 [[5], [6]] _ (sl_row [[5], [6]] hr rfl (by unfold maxLen; omega))
  have HX : Hid (Ext w (w.alloc (.cells #[Str [5], Str [6]] 9))) := Lib.hid ((Below.refl _ _).alloc (Nat.le_refl _) _)
  have HPh := Lib.hid HP
  clear HP hr
  go_enter Try.func6, Try.ntmps6
  go_wp2_with fail
  refine HPh.out.mono ?_
  rintro e w1 ⟨rfl, X⟩
  rw [one_fact]
  simp only [errV_zero]
  go_wp2_with fail
  go_ret
  exact ⟨rfl, HX.out.trans X⟩

/-- The block of a number. -/
def blockV (x : Nat) : Blk := [UInt8.ofNat x, UInt8.ofNat (x / 7)]
theorem u8_mod (x : Nat) : ((UInt8.ofNat x).toNat : Int) = (x : Int) % 256 := by
  rw [UInt8.toNat_ofNat']
  omega
set_option maxRecDepth 100000 in
theorem blockv_any (x : Nat) (w : World) (hx : (x : Int) ≤ 9223372036854775807) : Calls Try.prog 17 #[.int .i64 (x : Int)] w fun e w' => e = .returned (Str (blockV x)) ∧ Ext w w' := by
  have hr : Row (w.alloc (.cells #[Byt (UInt8.ofNat x), Byt (UInt8.ofNat (x / 7))] 5)) w.heap.size 5 (rowB (blockV x)) := Row.new _ _ _
  have hcv := conv_bytes (sl_of_row (n := 2) hr rfl (by unfold maxLen; omega))
  have e1 := u8_mod x
  have e2 : ((UInt8.ofNat (x / 7)).toNat : Int) = (x : Int) / 7 % 256 := by
    rw [u8_mod]
    omega
  have hx0 : 0 ≤ (x : Int) := by omega
  have HX : Hid (Ext w (w.alloc (.cells #[Byt (UInt8.ofNat x), Byt (UInt8.ofNat (x / 7))] 5))) := Lib.hid ((Below.refl _ _).alloc (Nat.le_refl _) _)
  clear hr
  simp only [Byt, e1, e2] at hcv HX
  clear e1 e2
  go_enter Try.func17, Try.ntmps17
  go_wp2_with fail
  go_ret
  exact ⟨rfl, HX.out⟩

/-! ### no array, or no pool -/

set_option maxHeartbeats 2000000 in
set_option maxRecDepth 100000 in
theorem pool_nopool (n rows : Nat) (spares : Int) (wa fa : Option Addr) (wn wc fn fc : Nat) (w : World) (hn3 : 3 ≤ n) (hn10 : n ≤ 10) (hr1 : 1 ≤ rows) (hr20 : rows ≤ 20) (h : spares < 0 ∨ 10 < spares) :
    Calls Try.prog 4 #[.int .i64 (n : Int), .int .i64 (rows : Int), .int .i64 spares, .slice wa wn wc, .slice fa fn fc] w fun e w' => e = .returned (.bool true) ∧ Ext w w' := by
  have HO := Lib.hid (one_true w)
  have HA := Lib.hid (fun wx => New_ok n rows 2 wx hn3 hn10 hr1 hr20 (by omega) (by omega))
  have HP := Lib.hid (fun wx => pnew_no (n : Int) spares wx (by omega))
  have d1 : decide ((n : Int) < 3) = false := by simp; omega
  have d2 : decide (10 < (n : Int)) = false := by simp; omega
  have d3 : decide ((rows : Int) < 1) = false := by simp; omega
  have d4 : decide (20 < (rows : Int)) = false := by simp; omega
  rw [errV_pos 1 (by omega)] at HP
  by_cases c1 : spares < 0
  · have d5 : decide (spares < 0) = true := by simpa using c1
    clear h
    go_enter Try.func4, Try.ntmps4
    go_wp2_with fail
    refine HO.out.mono ?_
    rintro e w1 ⟨rfl, X1⟩
    go_wp2_with fail
    refine (HA.out w1).mono ?_
    rintro e w2 ⟨A, rfl, -, -, X2⟩
    go_wp2_with fail
    refine (HP.out w2).mono ?_
    rintro e w' ⟨rfl, rfl⟩
    go_wp2_with fail
    go_ret
    exact ⟨rfl, X1.trans X2⟩
  · have d5 : decide (spares < 0) = false := by simpa using c1
    have d6 : decide (10 < spares) = true := by simp; omega
    clear h
    go_enter Try.func4, Try.ntmps4
    go_wp2_with fail
    refine HO.out.mono ?_
    rintro e w1 ⟨rfl, X1⟩
    go_wp2_with fail
    refine (HA.out w1).mono ?_
    rintro e w2 ⟨A, rfl, -, -, X2⟩
    go_wp2_with fail
    refine (HP.out w2).mono ?_
    rintro e w' ⟨rfl, rfl⟩
    go_wp2_with fail
    go_ret
    exact ⟨rfl, X1.trans X2⟩

/-- pool.New whatever is asked. -/
def PNewAny (w : World) (e : Ending) (w' : World) : Prop := ∃ v z, e = .returned (.tuple #[v, z]) ∧ Ext w w'
theorem pnew_any (n spares : Int) (w : World) : Calls Try.prog 15 #[.int .i64 n, .int .i64 spares] w (PNewAny w) := by
  by_cases h : n < 1 ∨ 10 < n ∨ spares < 0 ∨ 10 < spares
  · exact (pnew_no n spares w h).mono fun _ _ ⟨h1, h2⟩ => ⟨_, _, h1, h2 ▸ Ext.refl _⟩
  · obtain ⟨n, rfl⟩ : ∃ m : Nat, n = (m : Int) := ⟨n.toNat, by omega⟩
    obtain ⟨spares, rfl⟩ : ∃ m : Nat, spares = (m : Int) := ⟨spares.toNat, by omega⟩
    exact (pnew_ok n spares w (by omega) (by omega) (by omega)).mono fun _ _ ⟨_, _, h1, h2⟩ => ⟨_, _, h1, h2.ext⟩

set_option maxHeartbeats 2000000 in
set_option maxRecDepth 100000 in
theorem pool_noarr (n rows spares : Int) (wa fa : Option Addr) (wn wc fn fc : Nat) (w : World) (h : n < 3 ∨ 10 < n ∨ rows < 1 ∨ 20 < rows) :
    Calls Try.prog 4 #[.int .i64 n, .int .i64 rows, .int .i64 spares, .slice wa wn wc, .slice fa fn fc] w fun e w' => e = .returned (.bool true) ∧ Ext w w' := by
  have HO := Lib.hid (one_true w)
  have HA := Lib.hid (fun wx => New_no n rows 2 wx (by omega))
  have HP := Lib.hid (fun wx => pnew_any n spares wx)
  rw [errV_pos 1 (by omega)] at HA
  by_cases c1 : n < 3
  · have d1 : decide (n < 3) = true := by simpa using c1
    clear h
    go_enter Try.func4, Try.ntmps4
    go_wp2_with fail
    refine HO.out.mono ?_
    rintro e w1 ⟨rfl, X1⟩
    go_wp2_with fail
    refine (HA.out w1).mono ?_
    rintro e w2 ⟨rfl, X2⟩
    go_wp2_with fail
    refine (HP.out w2).mono ?_
    rintro e w3 ⟨v, z, rfl, X3⟩
    go_wp2_with fail
    go_ret
    exact ⟨rfl, (X1.trans X2).trans X3⟩
  · have d1 : decide (n < 3) = false := by simpa using c1
    by_cases c2 : 10 < n
    · have d2 : decide (10 < n) = true := by simpa using c2
      clear h
      go_enter Try.func4, Try.ntmps4
      go_wp2_with fail
      refine HO.out.mono ?_
      rintro e w1 ⟨rfl, X1⟩
      go_wp2_with fail
      refine (HA.out w1).mono ?_
      rintro e w2 ⟨rfl, X2⟩
      go_wp2_with fail
      refine (HP.out w2).mono ?_
      rintro e w3 ⟨v, z, rfl, X3⟩
      go_wp2_with fail
      go_ret
      exact ⟨rfl, (X1.trans X2).trans X3⟩
    · have d2 : decide (10 < n) = false := by simpa using c2
      by_cases c3 : rows < 1
      · have d3 : decide (rows < 1) = true := by simpa using c3
        clear h
        go_enter Try.func4, Try.ntmps4
        go_wp2_with fail
        refine HO.out.mono ?_
        rintro e w1 ⟨rfl, X1⟩
        go_wp2_with fail
        refine (HA.out w1).mono ?_
        rintro e w2 ⟨rfl, X2⟩
        go_wp2_with fail
        refine (HP.out w2).mono ?_
        rintro e w3 ⟨v, z, rfl, X3⟩
        go_wp2_with fail
        go_ret
        exact ⟨rfl, (X1.trans X2).trans X3⟩
      · have d3 : decide (rows < 1) = false := by simpa using c3
        have d4 : decide (20 < rows) = true := by simp; omega
        clear h
        go_enter Try.func4, Try.ntmps4
        go_wp2_with fail
        refine HO.out.mono ?_
        rintro e w1 ⟨rfl, X1⟩
        go_wp2_with fail
        refine (HA.out w1).mono ?_
        rintro e w2 ⟨rfl, X2⟩
        go_wp2_with fail
        refine (HP.out w2).mono ?_
        rintro e w3 ⟨v, z, rfl, X3⟩
        go_wp2_with fail
        go_ret
        exact ⟨rfl, (X1.trans X2).trans X3⟩

end Go.Proofs.Ytmgppnceddnlmaa
