/- plain.Told and paritysame's comparisons. -/
import Derived.Test.YtmgppnceddnlmaaAs
import Derived.Test.YtmgppnceddnlmaaScrub
namespace Go.Proofs.Ytmgppnceddnlmaa
open Go.RowKit

set_option maxRecDepth 100000 in
theorem texts_any (a b : Option Addr) (n m ca cb : Nat) (xs ys : List Blk) (w : World) (ha : Sl w Str a n ca xs) (hb : Sl w Str b m cb ys) :
    Calls Try.prog 12 #[.slice a n ca, .slice b m cb] w fun e w' => e = .returned (.bool (decide (xs = ys))) ∧ Ext w w' := by
  have hla := ha.len
  have hlb := hb.len
  have hba := ha.bound
  by_cases hnm : n = m
  · subst hnm
    have hne : ((n : Int) != (n : Int)) = false := by simp
    go_enter Try.func12, Try.ntmps12
    go_wp2_with fail
    go_loopw [5] (fun i wr => ∃ k : Nat, k ≤ n ∧ i = .int .i64 k ∧ Ext w wr ∧ Hid (∀ j, j < k → xs[j]? = ys[j]?)) (fun i _ => n - (intOf i).toNat)
    case atStart => exact ⟨0, by omega, rfl, Ext.refl _, Lib.hid fun j hj => absurd hj (Nat.not_lt_zero _)⟩
    case round =>
      obtain ⟨k, hk, rfl, X, HA⟩ := hrel
      by_cases hlt : (k : Int) < (n : Int)
      · obtain ⟨g, off, x, rfl, hx, hc⟩ := (ha.ext X).get (i := k) (by omega)
        obtain ⟨g2, off2, y, rfl, hy, hc2⟩ := (hb.ext X).get (i := k) (by omega)
        by_cases hxy : x = y
        · subst hxy
          have HN : Hid (∀ j, j < k + 1 → xs[j]? = ys[j]?) := Lib.hid fun j hj => by
            by_cases e : j = k
            · rw [e, hx, hy]
            · exact HA.out j (by omega)
          have hb0 : (x == x) = true := by simp
          have hb1 : (x != x) = false := by simp
          clear hx hy HA
          go_wp2_with fail
          go_quiet (fail)
          go_wp2_with fail
          go_roundw
          case rel => exact ⟨k + 1, by omega, by go_num, below_drewN X, HN⟩
          case measure => simp [intOf]; omega
        · have HN : Hid (¬ xs = ys) := Lib.hid fun e => by
            rw [e, hy] at hx
            exact hxy (Option.some.inj hx).symm
          have hb0 : (x == y) = false := beq_eq_false_iff_ne.2 hxy
          have hb1 : (x != y) = true := by rw [bne_iff_ne]; exact hxy
          clear hx hy HA hxy
          go_wp2_with fail
          go_quiet (fail)
          go_wp2_with fail
          go_ret
          exact ⟨ret_val (congrArg Value.bool (by rw [decide_eq_false HN.out])), below_drewN X⟩
      · have HN : Hid (xs = ys) := Lib.hid (List.ext_getElem? fun j => by
          by_cases hj : j < k
          · exact HA.out j hj
          · rw [List.getElem?_eq_none (by omega), List.getElem?_eq_none (by omega)])
        clear HA
        go_wp2_with fail
        go_ret
        exact ⟨ret_val (congrArg Value.bool (by rw [decide_eq_true HN.out])), X⟩
  · have HN : Hid (¬ xs = ys) := Lib.hid fun e => hnm (by rw [← hla, ← hlb, e])
    have hne : ((n : Int) != (m : Int)) = true := by rw [bne_iff_ne]; omega
    clear hla hlb hnm
    go_enter Try.func12, Try.ntmps12
    go_wp2_with fail
    go_ret
    exact ⟨ret_val (congrArg Value.bool (by rw [decide_eq_false HN.out])), Ext.refl _⟩

end Go.Proofs.Ytmgppnceddnlmaa
