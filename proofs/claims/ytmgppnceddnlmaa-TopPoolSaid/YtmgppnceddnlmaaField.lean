/- Contracts of package field: Mul, Power, Inverse return what XGf's gm, gp, gi say; the world stays as it was. -/
import Derived.Test.YtmgppnceddnlmaaProg
import Derived.Test.YtmgppnceddnlmaaGf
import Derived.WalkKit
import Derived.Lib.Hide
import Derived.Laws.BitsAllLaws
namespace Go.Proofs.Ytmgppnceddnlmaa
open Go.RowKit

theorem xor_i64 (x y : Nat) (hx : x < 512) (hy : y < 512) : bits .xor .i64 (x : Int) (y : Int) = ((x ^^^ y : Nat) : Int) := by
  have h : x ^^^ y < 512 := Nat.xor_lt_two_pow (n := 9) hx hy
  have e : (BitVec.ofInt 64 (x : Int) ^^^ BitVec.ofInt 64 (y : Int)).toNat = x ^^^ y := by
    rw [BitVec.toNat_xor, BitVec.toNat_ofInt, BitVec.toNat_ofInt]
    congr 1 <;> omega
  show IntKind.i64.wrap ((BitVec.ofInt 64 (x : Int) ^^^ BitVec.ofInt 64 (y : Int)).toNat) = _
  rw [e]
  exact IntWalk.i64_in _ (by omega)

theorem and1_u8 (n : Nat) (h : n < 256) : bits .and .u8 (n : Int) 1 = ((n % 2 : Nat) : Int) := by
  have := u8_and_nat n 1 h (by omega)
  rw [Nat.and_one_is_mod] at this
  exact this

theorem and1_i64 (n : Nat) (h : n < 9223372036854775808) : bits .and .i64 (n : Int) 1 = ((n % 2 : Nat) : Int) := by
  have e : (BitVec.ofInt 64 (n : Int) &&& BitVec.ofInt 64 (1 : Int)).toNat = n % 2 := by
    rw [BitVec.toNat_and, BitVec.toNat_ofInt, BitVec.toNat_ofInt]
    have h1 : ((n : Int) % ((2 ^ 64 : Nat) : Int)).toNat = n := by omega
    have h2 : ((1 : Int) % ((2 ^ 64 : Nat) : Int)).toNat = 1 := by omega
    rw [h1, h2, Nat.and_one_is_mod]
  show IntKind.i64.wrap ((BitVec.ofInt 64 (n : Int) &&& BitVec.ofInt 64 (1 : Int)).toNat) = _
  rw [e]
  exact IntWalk.i64_in _ (by omega)

theorem xor_u8 (a b : UInt8) : bits .xor .u8 (a.toNat : Int) (b.toNat : Int) = ((a ^^^ b).toNat : Int) := by
  rw [u8_xor_nat _ _ (u8_lt a) (u8_lt b), UInt8.toNat_xor]

theorem xt_big (x : Nat) (h : x < 256) (hb : 256 ≤ (x : Int) * 2) : bits .xor .i64 ((x : Int) * 2) 285 = (xt x : Int) := by
  have e : (x : Int) * 2 = ((2 * x : Nat) : Int) := by omega
  rw [e]
  have := xor_i64 (2 * x) 285 (by omega) (by omega)
  rw [show ((285 : Nat) : Int) = 285 from rfl] at this
  rw [this, xt, if_pos (by omega)]
theorem xt_small (x : Nat) (hb : ¬ 256 ≤ (x : Int) * 2) : (x : Int) * 2 = (xt x : Int) := by
  rw [xt, if_neg (by omega)]; omega

theorem ret_int {k : IntKind} {a b : Int} (h : a = b) : Ending.returned (.int k a) = Ending.returned (.int k b) := by rw [h]
theorem val_eq {k : IntKind} {a b : Int} (h : a = b) : Value.int k a = Value.int k b := by rw [h]

set_option maxHeartbeats 400000 in
set_option maxRecDepth 100000 in
theorem mul_any (a b : UInt8) (w : World) :
    Calls Try.prog 70 #[.int .u8 (a.toNat : Int), .int .u8 (b.toNat : Int)] w fun e w' => e = .returned (.int .u8 ((gm a b).toNat : Int)) ∧ w = w' := by
  have ha := u8_lt a
  have hb := u8_lt b
  go_enter Try.func70, Try.ntmps70
  go_wp2
  go_loop [1, 5, 6] (fun c x s => ∃ cn xn sn : Nat, cn < 256 ∧ xn < 256 ∧ sn < 256 ∧ c = .int .u8 cn ∧ x = .int .i64 xn ∧ s = .int .i64 sn ∧ Hid (mulL 8 xn sn cn = mulN a.toNat b.toNat)) (fun c _ _ => (intOf c).toNat)
  case atStart => exact ⟨b.toNat, a.toNat, 0, by omega, by omega, by omega, rfl, rfl, rfl, Lib.hid rfl⟩
  case round =>
    obtain ⟨cn, xn, sn, hc, hx, hs, rfl, rfl, rfl, H⟩ := hrel
    by_cases h0 : (0 : Int) < (cn : Int)
    · have hsx : sn ^^^ xn < 256 := xor_lt hs hx
      have hxl := xt_lt xn hx
      by_cases ho : cn % 2 = 1 <;> by_cases hbig : 256 ≤ (xn : Int) * 2
      · have h1 : (bits .and .u8 (cn : Int) 1 == 1) = true := by rw [and1_u8 cn hc, ho]; rfl
        have h2 := xor_i64 sn xn (by omega) (by omega)
        have h3 := xt_big xn hx hbig
        have HR := Lib.hid (mulL_round xn sn cn hc)
        have HO := Lib.hid ho
        clear ho
        go_wp2
        go_round
        case rel => exact ⟨cn / 2, xt xn, sn ^^^ xn, by omega, hxl, hsx, by go_num, rfl, rfl, Lib.hid (by rw [← H.out, HR.out, if_pos HO.out])⟩
        case measure => simp [intOf]; omega
      · have h1 : (bits .and .u8 (cn : Int) 1 == 1) = true := by rw [and1_u8 cn hc, ho]; rfl
        have h2 := xor_i64 sn xn (by omega) (by omega)
        have H3 := Lib.hid (xt_small xn hbig)
        have HR := Lib.hid (mulL_round xn sn cn hc)
        have HO := Lib.hid ho
        clear ho
        go_wp2
        go_round
        case rel => exact ⟨cn / 2, xt xn, sn ^^^ xn, by omega, hxl, hsx, by go_num, val_eq H3.out, rfl, Lib.hid (by rw [← H.out, HR.out, if_pos HO.out])⟩
        case measure => simp [intOf]; omega
      · have h1 : (bits .and .u8 (cn : Int) 1 == 1) = false := by rw [and1_u8 cn hc, show cn % 2 = 0 by omega]; rfl
        have h3 := xt_big xn hx hbig
        have HR := Lib.hid (mulL_round xn sn cn hc)
        have HO := Lib.hid ho
        clear ho
        go_wp2
        go_round
        case rel => exact ⟨cn / 2, xt xn, sn, by omega, hxl, hs, by go_num, rfl, rfl, Lib.hid (by rw [← H.out, HR.out, if_neg HO.out])⟩
        case measure => simp [intOf]; omega
      · have h1 : (bits .and .u8 (cn : Int) 1 == 1) = false := by rw [and1_u8 cn hc, show cn % 2 = 0 by omega]; rfl
        have H3 := Lib.hid (xt_small xn hbig)
        have HR := Lib.hid (mulL_round xn sn cn hc)
        have HO := Lib.hid ho
        clear ho
        go_wp2
        go_round
        case rel => exact ⟨cn / 2, xt xn, sn, by omega, hxl, hs, by go_num, val_eq H3.out, rfl, Lib.hid (by rw [← H.out, HR.out, if_neg HO.out])⟩
        case measure => simp [intOf]; omega
    · have H0 : Hid (cn = 0) := Lib.hid (by omega)
      go_wp2
      go_ret
      exact ⟨ret_int (by rw [gm_toNat, ← H.out, H0.out, mulL_zero]), rfl⟩

set_option maxHeartbeats 400000 in
set_option maxRecDepth 100000 in
theorem power_any (a : UInt8) (n : Nat) (w : World) (hn : n < 9223372036854775808) :
    Calls Try.prog 87 #[.int .u8 (a.toNat : Int), .int .i64 (n : Int)] w fun e w' => e = .returned (.int .u8 ((gp a n).toNat : Int)) ∧ w = w' := by
  go_enter Try.func87, Try.ntmps87
  go_wp2
  go_loop [0, 1, 5] (fun x k o => ∃ (an on : UInt8) (kn f : Nat), kn < 9223372036854775808 ∧ Hid (kn < 2 ^ f) ∧ x = .int .u8 (an.toNat : Int) ∧ k = .int .i64 kn ∧ o = .int .u8 (on.toNat : Int) ∧ Hid (powL f on an kn = gp a n)) (fun _ k _ => (intOf k).toNat)
  case atStart => exact ⟨a, 1, n, 64, by omega, Lib.hid (by omega), rfl, rfl, rfl, Lib.hid rfl⟩
  case round =>
    obtain ⟨an, on, kn, f, hk, hf, rfl, rfl, rfl, H⟩ := hrel
    have ha := u8_lt an
    have hb := u8_lt on
    by_cases h0 : (0 : Int) < (kn : Int)
    · obtain ⟨g, hg, hkg, hr⟩ := powL_round f on an kn hf.out (by omega)
      have HG := Lib.hid hkg
      have HR := Lib.hid hr
      clear hg hkg hr
      by_cases ho : kn % 2 = 1
      · have h1 : (bits .and .i64 (kn : Int) 1 == 1) = true := by rw [and1_i64 kn hk, ho]; rfl
        have HO := Lib.hid ho
        clear ho
        go_wp2_with fail
        refine (mul_any on an _).mono ?_
        rintro e w' ⟨rfl, rfl⟩
        go_wp2_with fail
        refine (mul_any an an _).mono ?_
        rintro e w' ⟨rfl, rfl⟩
        go_wp2
        go_round
        case rel => exact ⟨gm an an, gm on an, kn / 2, g, by omega, HG, rfl, by go_num, rfl, Lib.hid (by rw [← H.out, HR.out, if_pos HO.out])⟩
        case measure => simp [intOf]; omega
      · have h1 : (bits .and .i64 (kn : Int) 1 == 1) = false := by rw [and1_i64 kn hk, show kn % 2 = 0 by omega]; rfl
        have HO := Lib.hid ho
        clear ho
        go_wp2_with fail
        refine (mul_any an an _).mono ?_
        rintro e w' ⟨rfl, rfl⟩
        go_wp2
        go_round
        case rel => exact ⟨gm an an, on, kn / 2, g, by omega, HG, rfl, by go_num, rfl, Lib.hid (by rw [← H.out, HR.out, if_neg HO.out])⟩
        case measure => simp [intOf]; omega
    · have H0 : Hid (kn = 0) := Lib.hid (by omega)
      go_wp2
      go_ret
      exact ⟨ret_int (by rw [← H.out, H0.out, powL_zero]), rfl⟩

set_option maxRecDepth 100000 in
theorem inverse_any (a : UInt8) (w : World) :
    Calls Try.prog 89 #[.int .u8 (a.toNat : Int)] w fun e w' => e = .returned (.int .u8 ((gi a).toNat : Int)) ∧ w = w' := by
  go_enter Try.func89, Try.ntmps89
  go_wp2_with fail
  refine (power_any a 254 _ (by omega)).mono ?_
  rintro e w' ⟨rfl, rfl⟩
  go_wp2
  go_ret
  exact ⟨rfl, rfl⟩

end Go.Proofs.Ytmgppnceddnlmaa
