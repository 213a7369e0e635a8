/- Contracts of package layout: Check, pOf, disk, Data, Order. -/
import Derived.Test.YtmgppnceddnlmaaHealW
import Derived.BigQuiet
namespace Go.Proofs.Ytmgppnceddnlmaa
open Go.RowKit

set_option maxRecDepth 100000 in
theorem check_yes (n : Int) (w : World) (h1 : 3 ≤ n) (h2 : n ≤ 10) :
    Calls Try.prog 40 #[.int .i64 n] w fun e w' => e = .returned .nilIface ∧ w = w' := by
  have hd : decide (n < 3) = false := by simp; omega
  have h3 : ¬ n < 3 := by omega
  have h4 : ¬ 10 < n := by omega
  go_enter Try.func40, Try.ntmps40
  go_wp2
  go_ret
  exact ⟨rfl, rfl⟩
set_option maxRecDepth 100000 in
theorem check_no (n : Int) (w : World) (h : n < 3 ∨ 10 < n) :
    Calls Try.prog 40 #[.int .i64 n] w fun e w' => e = .returned (errV 1) ∧ w = w' := by
  by_cases h1 : n < 3
  · clear h
    go_enter Try.func40, Try.ntmps40
    go_wp2
    go_ret
    exact ⟨rfl, rfl⟩
  · have hd : decide (n < 3) = false := by simp; omega
    have h4 : 10 < n := by omega
    clear h
    go_enter Try.func40, Try.ntmps40
    go_wp2
    go_ret
    exact ⟨rfl, rfl⟩

set_option maxRecDepth 100000 in
theorem lpof_any (n row : Nat) (w : World) (h1 : 1 ≤ n) (h2 : n ≤ 1048576) (hr : row ≤ 1048576) :
    Calls Try.prog 86 #[.int .i64 (n : Int), .int .i64 (row : Int)] w fun e w' => e = .returned (Num (n - 1 - row % n)) ∧ w = w' := by
  have hlt := Nat.mod_lt row (show n > 0 by omega)
  have he : (row : Int) % (n : Int) = ((row % n : Nat) : Int) := by omega
  generalize row % n = m at *
  go_enter Try.func86, Try.ntmps86
  go_wp2
  go_ret
  exact ⟨ret_val (congrArg (Value.int .i64) (by omega)), rfl⟩

set_option maxRecDepth 100000 in
theorem ldisk_any (n row i : Nat) (w : World) (h1 : 1 ≤ n) (h2 : n ≤ 1048576) (hr : row ≤ 1048576) (hi : i ≤ 1048576) :
    Calls Try.prog 62 #[.int .i64 (n : Int), .int .i64 (row : Int), .int .i64 (i : Int)] w fun e w' => e = .returned (Num (lay n row i)) ∧ w = w' := by
  have HL : Hid (lay n row i = (n - 1 - row % n + 2 + i) % n) := Lib.hid rfl
  have HP := Lib.hid (lpof_any n row)
  have hb : n - 1 - row % n ≤ 1048576 := by omega
  generalize n - 1 - row % n = p at *
  have he : ((p : Int) + 2 + (i : Int)) % (n : Int) = (((p + 2 + i) % n : Nat) : Int) := by
    have e0 : (p : Int) + 2 + (i : Int) = ((p + 2 + i : Nat) : Int) := by omega
    rw [e0]
    exact (Int.natCast_emod _ _).symm
  have HE := Lib.hid he
  clear he
  go_enter Try.func62, Try.ntmps62
  go_wp2_with fail
  refine (HP.out _ h1 h2 hr).mono ?_
  rintro e w' ⟨rfl, rfl⟩
  go_wp2_with fail
  go_ret
  exact ⟨ret_val (congrArg (Value.int .i64) (by rw [HL.out]; exact HE.out)), rfl⟩

/-- A Spot as a value. -/
abbrev Spot (d r : Nat) : Value := .agg #[Num d, Num r]

set_option maxHeartbeats 400000 in
set_option maxRecDepth 100000 in
theorem data_any (n block : Nat) (w : World) (h1 : 3 ≤ n) (h2 : n ≤ 10) (hb : block / (n - 2) < 20) :
    Calls Try.prog 74 #[.int .i64 (n : Int), .int .i64 (block : Int)] w fun e w' =>
      e = .returned (.tuple #[Spot (lay n (block / (n - 2)) (block % (n - 2))) (block / (n - 2)), .nilIface]) ∧ Ext w w' := by
  have hm := Nat.mod_lt block (show n - 2 > 0 by omega)
  have hbb : block ≤ 1048576 := by
    have := Nat.div_add_mod block (n - 2)
    have h3 : (n - 2) * (block / (n - 2)) ≤ 8 * 20 := Nat.mul_le_mul (by omega) (by omega)
    omega
  obtain ⟨k, rfl⟩ : ∃ k, n = k + 2 := ⟨n - 2, by omega⟩
  have hk : k + 2 - 2 = k := by omega
  rw [hk] at hb hm ⊢
  have hd : (block : Int) / (k : Int) = ((block / k : Nat) : Int) := by omega
  have hmo : (block : Int) % (k : Int) = ((block % k : Nat) : Int) := by omega
  generalize block / k = q at *
  generalize block % k = r at *
  have HD := Lib.hid (ldisk_any (k + 2) q r)
  have hn0 : decide ((block : Int) < 0) = false := by simp
  clear hk
  go_enter Try.func74, Try.ntmps74
  go_wp2_with fail
  refine (check_yes _ _ (by omega) (by omega)).mono ?_
  rintro e w' ⟨rfl, rfl⟩
  go_wp2_with fail
  refine (HD.out _ (by omega) (by omega) (by omega) (by omega)).mono ?_
  rintro e w' ⟨rfl, rfl⟩
  go_wp2_with fail
  exact bodyPost_ret (v := .tuple #[Spot (lay (k + 2) q r) q, .nilIface]) (by simp [results, Try.results74, go_sem]) rfl ⟨rfl, (Below.refl _ _).alloc (Nat.le_refl _) _⟩

/-- What Order hands back. -/
def OrderRet (w : World) (n row : Nat) (e : Ending) (w' : World) : Prop :=
  ∃ a c, e = .returned (.tuple #[.slice a n c, .nilIface]) ∧ Sl w' Num a n c (order n row) ∧ Ext w w' ∧ ∀ x, a = some x → w.heap.size ≤ x.block

theorem order_length (n row : Nat) : (order n row).length = n := by simp [order]
theorem order_get (n row i : Nat) (h : i < n) : (order n row)[i]? = some (lay n row i) := by simp [order, h]

set_option maxHeartbeats 1000000 in
set_option maxRecDepth 100000 in
theorem order_any (n row : Nat) (w : World) (h1 : 3 ≤ n) (h2 : n ≤ 10) (hr : row < 20) :
    Calls Try.prog 27 #[.int .i64 (n : Int), .int .i64 (row : Int)] w (OrderRet w n row) := by
  have hn0 : decide ((row : Int) < 0) = false := by simp
  obtain ⟨ii, hi0, hz0, hz1, hz2⟩ := info_parts Try.infoInt
  have Hi := Lib.hid hi0
  have Hz0 := Lib.hid hz0
  have Hz1 := Lib.hid hz1
  have Hz2 := Lib.hid hz2
  have HD := Lib.hid (ldisk_any n row)
  clear hi0 hz0 hz1 hz2
  go_enter Try.func27, Try.ntmps27
  go_wp2_with fail
  refine (check_yes _ _ (by omega) (by omega)).mono ?_
  rintro e w' ⟨rfl, rfl⟩
  go_wp2_with fail
  go_loopw [7, 22] (fun v i wr => ∃ j : Nat, j ≤ n ∧ i = .int .i64 j ∧ Ext w wr ∧ wr.ownsRow w.heap.size 3 1 v j (((List.range j).map (lay n row)).map Num)) (fun _ i _ => n - (intOf i).toNat)
  case atStart => exact ⟨0, by omega, rfl, Ext.refl _, World.ownsRow_nil _ _ _ _⟩
  case round =>
    obtain ⟨j, hj, rfl, X, hown⟩ := hrel
    by_cases hlt : (j : Int) < (n : Int)
    · have HO := Lib.hid hown
      have HX := Lib.hid X
      have hsz := X.size
      clear hown
      go_wp2_with fail
      refine (HD.out j _ (by omega) (by omega) (by omega) (by omega)).mono ?_
      rintro e w' ⟨rfl, rfl⟩
      go_wp2_with (at_builtin; refine wpList_append_own _ rfl (.tmp 25) (.tmp 30) 39 rfl w.heap.size 3 ii _ 1 8 Try.underlying39 Hi.out Hz0.out Hz1.out Hz2.out rfl (by decide) _ _ _ rfl (HO.out.alloc _) ⟨wr.heap.size, 0, none⟩ 1 1 [Num (lay n row j)] rfl rfl ?c1 ?c2 ?c3 ?c4 ?c5 ?_)
      case c1 => exact cell_one_new _ _ _
      case c2 => intro u hu; simp at hu; subst hu; rfl
      case c3 => unfold maxLen; omega
      case c4 => omega
      case c5 => simp; omega
      intro v' w2 hown2 hgrow2 _
      have HO2 := Lib.hid hown2
      have HX2 : Hid (Ext w w2) := Lib.hid ((HX.out.alloc hsz _).grown hgrow2 (by simp; omega) (fun q hq => (HO.out.lt q hq).1))
      clear hown2
      go_wp2_with fail
      go_roundw
      case rel =>
        refine ⟨j + 1, by omega, by go_num, HX2.out, ?_⟩
        rw [List.range_succ]
        simp only [List.map_append, List.map_cons, List.map_nil, List.map_map]
        exact HO2.out
      case measure => simp [intOf]; omega
    · obtain ⟨ga, gc, rfl, hgs, hgb⟩ := sl_of_owns_at hown
      have hjn : j = n := by omega
      have HJ := Lib.hid hjn
      have hgs' : Sl wr Num ga n gc (order n row) := by rw [hjn] at hgs; exact hgs
      clear hown hjn hgs
      go_wp2_with fail
      go_ret2
      refine ⟨ga, gc, ?_, hgs', X, hgb⟩
      rw [HJ.out]
      rfl

set_option maxRecDepth 100000 in
theorem order_none (n row : Int) (w : World) (h1 : n < 3 ∨ 10 < n ∨ row < 0 ∨ 20 ≤ row) :
    Calls Try.prog 27 #[.int .i64 n, .int .i64 row] w fun e w' => e = .returned (.tuple #[.slice none 0 0, errV 1]) ∧ w = w' := by
  by_cases hn : n < 3 ∨ 10 < n
  · have HC := Lib.hid (check_no n w hn)
    rw [errV_pos 1 (by omega)] at HC
    clear h1 hn
    go_enter Try.func27, Try.ntmps27
    go_wp2_with fail
    refine HC.out.mono ?_
    rintro e w' ⟨rfl, rfl⟩
    go_wp2_with fail
    go_ret2
    exact ⟨rfl, rfl⟩
  · by_cases hr : row < 0
    · have HC := Lib.hid (check_yes n w (by omega) (by omega))
      clear h1 hn
      go_enter Try.func27, Try.ntmps27
      go_wp2_with fail
      refine HC.out.mono ?_
      rintro e w' ⟨rfl, rfl⟩
      go_wp2_with fail
      go_ret2
      exact ⟨rfl, rfl⟩
    · have HC := Lib.hid (check_yes n w (by omega) (by omega))
      have hd : decide (row < 0) = false := by simp; omega
      have hr2 : 20 ≤ row := by omega
      clear h1 hn
      go_enter Try.func27, Try.ntmps27
      go_wp2_with fail
      refine HC.out.mono ?_
      rintro e w' ⟨rfl, rfl⟩
      go_wp2_with fail
      go_ret2
      exact ⟨rfl, rfl⟩

end Go.Proofs.Ytmgppnceddnlmaa
