/- plain.Told and paritysame's comparisons. -/
import Derived.Test.YtmgppnceddnlmaaDoorAs
import Derived.Test.YtmgppnceddnlmaaDoorScrub
namespace Go.Proofs.YtmgppnceddnlmaaDoor
open Go.RowKit

/-- errors.errorType is laid. -/
def Laid (w : World) : Prop := w.cell? ⟨0, 0, none⟩ = some (.iface 173 (.agg #[.pointer (some ⟨1, 24, none⟩)]))
theorem Laid.ext {w w' : World} (h : Laid w) (x : Ext w w') : Laid w' := x.cell h
theorem Laid.pos {w : World} (h : Laid w) : 0 < w.heap.size := World.block_lt_of_cell? w _ h
theorem Laid.keep {w w' : World} {lo hi : Nat} (h : Laid w) (x : Keep lo hi w w') (hl : 0 < lo) : Laid w' := x.cell h (.inl hl)

theorem as_errno (e : Int) (t : Addr) (old : Value) (w : World) (B : Nat) (hg : Laid w) (ht0 : w.cell? t = some old) (hf0 : w.frozen? t = false) (hB : B ≤ w.heap.size) (hBt : B ≤ t.block) :
    Calls Tryd.prog 71 #[.iface 104 (.int .i64 e), .iface 119 (.pointer (some t))] w fun ev w' =>
      ev = .returned (.bool true) ∧ w'.cell? t = some (.int .i64 e) ∧ w'.frozen? t = false ∧ Below B w w' := by
  refine (as_hit e t old w hg ht0 hf0).mono ?_
  rintro ev w' ⟨rfl, rfl⟩
  have htl : t.block < w.heap.size := World.block_lt_of_cell? w t ht0
  generalize hw : (((w.alloc _).alloc _).alloc _).alloc _ = w1
  have hE : Ext w w1 := by
    rw [← hw]
    exact ((((Below.refl _ _).alloc (Nat.le_refl _) _).alloc (by simp) _).alloc (by simp; omega) _).alloc (by simp; omega) _
  have h1 := hE.cell ht0
  have h2 : w1.frozen? t = false := (hE.frozen htl).trans hf0
  refine ⟨rfl, ?_, ?_, (Below.mono hE hB).setCell hBt _⟩
  · simp [World.cell?_setCell_same, h1]
  · simpa using h2

set_option maxRecDepth 100000 in
theorem told_any (n : Nat) (w : World) (hg : Laid w) :
    Calls Tryd.prog 63 #[errV n] w fun e w' => e = .returned (.int .i64 (n : Int)) ∧ Ext w w' := by
  by_cases hn : n = 0
  · subst hn
    rw [errV_zero]
    go_enter Tryd.func63, Tryd.ntmps63
    go_wp2_with fail
    go_ret
    exact ⟨rfl, Ext.refl _⟩
  · rw [errV_pos n (by omega)]
    have hA : Ext w (w.alloc (.cells #[.int .i64 0] 104)) := (Below.refl _ _).alloc (Nat.le_refl _) _
    have HA := Lib.hid (as_errno (n : Int) ⟨w.heap.size, 0, none⟩ (.int .i64 0) (w.alloc (.cells #[.int .i64 0] 104)) w.heap.size (hg.ext hA) (by simp) (by simp) (by simp) (Nat.le_refl _))
    go_enter Tryd.func63, Tryd.ntmps63
    go_wp2_with fail
    refine HA.out.mono ?_
    rintro e w' ⟨rfl, hc, hf, hb⟩
    go_wp2_with fail
    go_ret
    exact ⟨rfl, Below.trans hA hb⟩

set_option maxRecDepth 100000 in
theorem error_any (n : Nat) (m : Int) (w : World) (hg : Laid w) :
    Calls Tryd.prog 16 #[errV n, .int .i64 m] w fun e w' => e = .returned (.bool ((n : Int) == m)) ∧ Ext w w' := by
  have HT := Lib.hid (told_any n w hg)
  go_enter Tryd.func16, Tryd.ntmps16
  go_wp2_with fail
  refine HT.out.mono ?_
  rintro e w' ⟨rfl, X⟩
  go_wp2_with fail
  go_ret
  exact ⟨rfl, X⟩

set_option maxRecDepth 100000 in
theorem texts_any (a b : Option Addr) (n m ca cb : Nat) (xs ys : List Blk) (w : World) (ha : Sl w Str a n ca xs) (hb : Sl w Str b m cb ys) :
    Calls Tryd.prog 23 #[.slice a n ca, .slice b m cb] w fun e w' => e = .returned (.bool (decide (xs = ys))) ∧ Ext w w' := by
  have hla := ha.len
  have hlb := hb.len
  have hba := ha.bound
  by_cases hnm : n = m
  · subst hnm
    have hne : ((n : Int) != (n : Int)) = false := by simp
    go_enter Tryd.func23, Tryd.ntmps23
    go_wp2_with fail
    go_loopw [5] (fun i wr => ∃ k : Nat, k ≤ n ∧ i = .int .i64 k ∧ Ext w wr ∧ Hid (∀ j, j < k → xs[j]? = ys[j]?)) (fun i _ => n - (intOf i).toNat)
    case atStart => exact ⟨0, by omega, rfl, Ext.refl _, Lib.hid fun j hj => absurd hj (Nat.not_lt_zero _)⟩
    case round =>
      obtain ⟨k, hk, rfl, X, HA⟩ := hrel
      by_cases hlt : (k : Int) < (n : Int)
      · obtain ⟨g, off, x, rfl, hx, hc⟩ := (ha.ext X).get (i := k) (by omega)
        obtain ⟨g2, off2, y, rfl, hy, hc2⟩ := (hb.ext X).get (i := k) (by omega)
        by_cases hxy : x = y
        · subst hxy
          have HN : Hid (∀ j, j < k + 1 → xs[j]? = ys[j]?) := Lib.hid fun j hj => by
            by_cases e : j = k
            · rw [e, hx, hy]
            · exact HA.out j (by omega)
          have hb0 : (x == x) = true := by simp
          have hb1 : (x != x) = false := by simp
          clear hx hy HA
          go_wp2_with fail
          go_quiet (fail)
          go_wp2_with fail
          go_roundw
          case rel => exact ⟨k + 1, by omega, by go_num, below_drewN X, HN⟩
          case measure => simp [intOf]; omega
        · have HN : Hid (¬ xs = ys) := Lib.hid fun e => by
            rw [e, hy] at hx
            exact hxy (Option.some.inj hx).symm
          have hb0 : (x == y) = false := beq_eq_false_iff_ne.2 hxy
          have hb1 : (x != y) = true := by rw [bne_iff_ne]; exact hxy
          clear hx hy HA hxy
          go_wp2_with fail
          go_quiet (fail)
          go_wp2_with fail
          go_ret
          exact ⟨ret_val (congrArg Value.bool (by rw [decide_eq_false HN.out])), below_drewN X⟩
      · have HN : Hid (xs = ys) := Lib.hid (List.ext_getElem? fun j => by
          by_cases hj : j < k
          · exact HA.out j hj
          · rw [List.getElem?_eq_none (by omega), List.getElem?_eq_none (by omega)])
        clear HA
        go_wp2_with fail
        go_ret
        exact ⟨ret_val (congrArg Value.bool (by rw [decide_eq_true HN.out])), X⟩
  · have HN : Hid (¬ xs = ys) := Lib.hid fun e => hnm (by rw [← hla, ← hlb, e])
    have hne : ((n : Int) != (m : Int)) = true := by rw [bne_iff_ne]; omega
    clear hla hlb hnm
    go_enter Tryd.func23, Tryd.ntmps23
    go_wp2_with fail
    go_ret
    exact ⟨ret_val (congrArg Value.bool (by rw [decide_eq_false HN.out])), Ext.refl _⟩

set_option maxRecDepth 100000 in
theorem bools_any (a b : Option Addr) (n m ca cb : Nat) (xs ys : List Bool) (w : World) (ha : Sl w Boo a n ca xs) (hb : Sl w Boo b m cb ys) :
    Calls Tryd.prog 38 #[.slice a n ca, .slice b m cb] w fun e w' => e = .returned (.bool (decide (xs = ys))) ∧ Ext w w' := by
  have hla := ha.len
  have hlb := hb.len
  have hba := ha.bound
  by_cases hnm : n = m
  · subst hnm
    have hne : ((n : Int) != (n : Int)) = false := by simp
    go_enter Tryd.func38, Tryd.ntmps38
    go_wp2_with fail
    go_loopw [5] (fun i wr => ∃ k : Nat, k ≤ n ∧ i = .int .i64 k ∧ Ext w wr ∧ Hid (∀ j, j < k → xs[j]? = ys[j]?)) (fun i _ => n - (intOf i).toNat)
    case atStart => exact ⟨0, by omega, rfl, Ext.refl _, Lib.hid fun j hj => absurd hj (Nat.not_lt_zero _)⟩
    case round =>
      obtain ⟨k, hk, rfl, X, HA⟩ := hrel
      by_cases hlt : (k : Int) < (n : Int)
      · obtain ⟨g, off, x, rfl, hx, hc⟩ := (ha.ext X).get (i := k) (by omega)
        obtain ⟨g2, off2, y, rfl, hy, hc2⟩ := (hb.ext X).get (i := k) (by omega)
        by_cases hxy : x = y
        · subst hxy
          have HN : Hid (∀ j, j < k + 1 → xs[j]? = ys[j]?) := Lib.hid fun j hj => by
            by_cases e : j = k
            · rw [e, hx, hy]
            · exact HA.out j (by omega)
          clear hx hy HA
          cases x with
          | true =>
            go_wp2_with fail
            go_quiet (fail)
            go_wp2_with fail
            go_roundw
            case rel => exact ⟨k + 1, by omega, by go_num, below_drewN X, HN⟩
            case measure => simp [intOf]; omega
          | false =>
            go_wp2_with fail
            go_quiet (fail)
            go_wp2_with fail
            go_roundw
            case rel => exact ⟨k + 1, by omega, by go_num, below_drewN X, HN⟩
            case measure => simp [intOf]; omega
        · have HN : Hid (¬ xs = ys) := Lib.hid fun e => by
            rw [e, hy] at hx
            exact hxy (Option.some.inj hx).symm
          clear hx hy HA
          cases x with
          | true =>
            cases y with
            | true => exact absurd rfl hxy
            | false =>
              clear hxy
              go_wp2_with fail
              go_quiet (fail)
              go_wp2_with fail
              go_ret
              exact ⟨ret_val (congrArg Value.bool (by rw [decide_eq_false HN.out])), below_drewN X⟩
          | false =>
            cases y with
            | false => exact absurd rfl hxy
            | true =>
              clear hxy
              go_wp2_with fail
              go_quiet (fail)
              go_wp2_with fail
              go_ret
              exact ⟨ret_val (congrArg Value.bool (by rw [decide_eq_false HN.out])), below_drewN X⟩
      · have HN : Hid (xs = ys) := Lib.hid (List.ext_getElem? fun j => by
          by_cases hj : j < k
          · exact HA.out j hj
          · rw [List.getElem?_eq_none (by omega), List.getElem?_eq_none (by omega)])
        clear HA
        go_wp2_with fail
        go_ret
        exact ⟨ret_val (congrArg Value.bool (by rw [decide_eq_true HN.out])), X⟩
  · have HN : Hid (¬ xs = ys) := Lib.hid fun e => hnm (by rw [← hla, ← hlb, e])
    have hne : ((n : Int) != (m : Int)) = true := by rw [bne_iff_ne]; omega
    clear hla hlb hnm
    go_enter Tryd.func38, Tryd.ntmps38
    go_wp2_with fail
    go_ret
    exact ⟨ret_val (congrArg Value.bool (by rw [decide_eq_false HN.out])), Ext.refl _⟩
end Go.Proofs.YtmgppnceddnlmaaDoor
