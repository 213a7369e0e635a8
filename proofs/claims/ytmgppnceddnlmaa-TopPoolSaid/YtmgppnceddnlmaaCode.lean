/- Contracts of package code: Blocks, Sum. -/
import Derived.Test.YtmgppnceddnlmaaMem
import Derived.Test.YtmgppnceddnlmaaField
import Derived.Test.YtmgppnceddnlmaaHeal
import Derived.StillTailTactics
import Derived.Deep.QuietTactic
import Derived.BigQuiet
namespace Go.Proofs.Ytmgppnceddnlmaa
open Go.RowKit

theorem blocksE_bad {l : List Blk} {k : Nat} {x : Blk} (hx : l[k]? = some x) (h : x.length ≠ bsize l) : blocksE l = 3 := by
  rw [blocksE, if_pos]
  rw [List.any_eq_true]
  exact ⟨x, List.mem_of_getElem? hx, by simpa using h⟩
theorem blocksE_good {l : List Blk} (h : ∀ (j : Nat) (x : Blk), l[j]? = some x → x.length = bsize l) : blocksE l = if 16 < bsize l then 1 else 0 := by
  rw [blocksE, if_neg]
  intro hn
  rw [List.any_eq_true] at hn
  obtain ⟨x, hm, hx⟩ := hn
  obtain ⟨j, hj⟩ := List.getElem?_of_mem hm
  have := h j x hj
  simp [this] at hx
theorem bsize_zero {l : List Blk} {x : Blk} (h : l[0]? = some x) : bsize l = x.length := by
  cases l with
  | nil => simp at h
  | cons y l => simp at h; subst h; rfl

set_option maxHeartbeats 400000 in
set_option maxRecDepth 100000 in
theorem blocks_any (a : Option Addr) (n cap : Nat) (l : List Blk) (w : World) (h : Sl w Str a n cap l) :
    Calls Try.prog 31 #[.slice a n cap] w fun e w' => e = .returned (errV (blocksE l)) ∧ w = w' := by
  have hb := h.bound
  go_enter Try.func31, Try.ntmps31
  go_wp2
  go_loop [7] (fun i => ∃ k : Nat, k ≤ n ∧ i = .int .i64 k ∧ Hid (∀ (j : Nat) (x : Blk), j < k → l[j]? = some x → x.length = bsize l)) (fun i => n - (intOf i).toNat)
  case atStart => exact ⟨0, Nat.zero_le _, rfl, Lib.hid (fun j x hj => absurd hj (Nat.not_lt_zero j))⟩
  case round =>
    obtain ⟨k, hk, rfl, H⟩ := hrel
    by_cases hlt : (k : Int) < (n : Int)
    · obtain ⟨g, off, x, rfl, hx, c1⟩ := h.get (i := k) (by omega)
      obtain ⟨g', off', x0, e, hx0, c0⟩ := h.get (i := 0) (by omega)
      simp only [Option.some.injEq, Addr.mk.injEq, and_true] at e
      obtain ⟨rfl, rfl⟩ := e
      have hs := Lib.hid (bsize_zero hx0)
      have HX := Lib.hid hx
      rw [Nat.add_zero] at c0
      clear hx hx0
      have hp : (0 : Int) < (n : Int) := by omega
      by_cases he : x.length = x0.length
      · have he' : ((x.length : Int) != (x0.length : Int)) = false := by simp [he]
        have HE := Lib.hid he
        clear he
        go_wp2
        go_round
        case rel =>
          refine ⟨k + 1, by omega, by go_num, Lib.hid fun j y hj hy => ?_⟩
          by_cases hjk : j = k
          · subst hjk
            rw [HX.out] at hy
            obtain rfl := Option.some.inj hy
            rw [hs.out, HE.out]
          · exact H.out j y (by omega) hy
        case measure => simp [intOf]; omega
      · have he' : ((x.length : Int) != (x0.length : Int)) = true := by rw [bne_iff_ne]; omega
        have HE := Lib.hid he
        clear he
        go_wp2
        go_ret
        refine ⟨ret_val ?_, rfl⟩
        rw [blocksE_bad HX.out (by rw [hs.out]; exact HE.out)]
        rfl
    · have HK := Lib.hid (show k = n by omega)
      have HG := Lib.hid (blocksE_good (l := l) (fun j x hx => H.out j x (by have := (List.getElem?_eq_some_iff.1 hx).1; have := h.len; have := HK.out; omega) hx))
      by_cases hn : (0 : Int) < (n : Int)
      · obtain ⟨g, off, x0, rfl, hx0, c0⟩ := h.get (i := 0) (by omega)
        rw [Nat.add_zero] at c0
        have hs := Lib.hid (bsize_zero hx0)
        clear hx0
        by_cases h16 : (16 : Int) < (x0.length : Int)
        · go_wp2
          go_ret
          refine ⟨ret_val ?_, rfl⟩
          rw [HG.out, hs.out, if_pos (by omega)]
          rfl
        · go_wp2
          go_ret
          refine ⟨ret_val ?_, rfl⟩
          rw [HG.out, hs.out, if_neg (by omega)]
          rfl
      · have hd : decide ((0 : Int) < (n : Int)) = false := by simpa using hn
        go_wp2
        go_ret
        refine ⟨ret_val ?_, rfl⟩
        have hl : l = [] := List.eq_nil_of_length_eq_zero (by rw [h.len]; omega)
        rw [HG.out, hl]
        rfl

/-! ### Sum -/
theorem dot_snoc : ∀ (l : List Blk) (t : List UInt8) (k : Nat) (b : Blk) (c : UInt8) (j : Nat), l[k]? = some b → t[k]? = some c →
    dot (l.take (k + 1)) (t.take (k + 1)) j = dot (l.take k) (t.take k) j ^^^ gm c (b.getD j 0)
  | [], _, _, _, _, _, h, _ => by simp at h
  | _ :: _, [], _, _, _, _, _, h => by simp at h
  | x :: l, y :: t, 0, b, c, j, h, h' => by
    simp at h h'
    subst h h'
    simp only [List.take_succ_cons, List.take_zero, dot, xor_zero8, zero_xor8]
  | x :: l, y :: t, k + 1, b, c, j, h, h' => by
    simp only [List.take_succ_cons, dot]
    rw [dot_snoc l t k b c j (by simpa using h) (by simpa using h')]
    ac_rfl

/-- The sum of the first k, and of one more up to place j. -/
def accAt (l : List Blk) (t : List UInt8) (sz k j : Nat) : Blk :=
  (List.range sz).map fun i => if i < j then dot (l.take (k + 1)) (t.take (k + 1)) i else dot (l.take k) (t.take k) i
theorem accAt_length (l : List Blk) (t : List UInt8) (sz k j : Nat) : (accAt l t sz k j).length = sz := by simp [accAt]
theorem accAt_zero (l : List Blk) (t : List UInt8) (sz : Nat) : accAt l t sz 0 0 = zeros sz := by
  simp [accAt, zeros, dot, List.map_const']
theorem accAt_full (l : List Blk) (t : List UInt8) (sz k : Nat) : accAt l t sz k sz = accAt l t sz (k + 1) 0 := by
  apply List.map_congr_left
  intro i hi
  have : i < sz := by simpa using hi
  simp [this]
theorem accAt_get (l : List Blk) (t : List UInt8) (sz k j : Nat) (h : j < sz) : (accAt l t sz k j)[j]? = some (dot (l.take k) (t.take k) j) := by
  simp [accAt, h]
theorem accAt_set (l : List Blk) (t : List UInt8) (sz k j : Nat) (b : Blk) (c u : UInt8) (_h : j < sz) (hb : l[k]? = some b) (hc : t[k]? = some c) (hu : b[j]? = some u) :
    (accAt l t sz k j).set j (dot (l.take k) (t.take k) j ^^^ gm c u) = accAt l t sz k (j + 1) := by
  have hd : b.getD j 0 = u := by simp [List.getD_eq_getElem?_getD, hu]
  apply List.ext_getElem (by simp [accAt])
  intro i h1 h2
  rw [List.getElem_set]
  split
  · rename_i e
    subst e
    simp only [accAt, List.getElem_map, List.getElem_range]
    rw [if_pos (by omega), dot_snoc l t k b c _ hb hc, hd]
  · simp only [accAt, List.getElem_map, List.getElem_range]
    by_cases h3 : i < j
    · rw [if_pos h3, if_pos (by omega)]
    · rw [if_neg h3, if_neg (by omega)]
theorem accAt_end (l : List Blk) (t : List UInt8) (h : t.length = l.length) : accAt l t (bsize l) l.length 0 = bsum l t := by
  apply List.map_congr_left
  intro i hi
  simp [← h]
  rw [h, List.take_length]

set_option maxHeartbeats 1000000 in
set_option maxRecDepth 100000 in
theorem sum_any (la ta : Option Addr) (ln lc tn tc : Nat) (l : List Blk) (t : List UInt8) (w : World) (hl : Sl w Str la ln lc l) (ht : Sl w Byt ta tn tc t)
    (hlen : t.length = l.length) (hu : ∀ b, b ∈ l → b.length = bsize l) (hsz : bsize l ≤ 1048576) :
    Calls Try.prog 38 #[.slice la ln lc, .slice ta tn tc] w fun e w' => e = .returned (Str (bsum l t)) ∧ Ext w w' := by
  have hb := hl.bound
  by_cases hn : ln = 0
  · subst hn
    have hl0 : l = [] := List.eq_nil_of_length_eq_zero hl.len
    subst hl0
    go_enter Try.func38, Try.ntmps38
    go_wp2
    go_ret
    exact ⟨rfl, Ext.refl _⟩
  · obtain ⟨gl, offl, x0, rfl, hx0, c0⟩ := hl.get (i := 0) (by omega)
    rw [Nat.add_zero] at c0
    have hne : ((ln : Int) == 0) = false := by rw [beq_eq_false_iff_ne]; omega
    have hp : (0 : Int) < (ln : Int) := by omega
    have HX0 := Lib.hid hx0
    have Hlen := Lib.hid hlen
    have hx0l : x0.length ≤ 1048576 := by rw [← bsize_zero hx0]; exact hsz
    have hmk := fun wx => run_make_bytes wx x0.length (by omega)
    have hcv := fun wx s => run_bytes_of_string (P := Try.prog) wx 9 70 5 s Try.underlying9 Try.underlying70 Try.underlying5
    clear hx0 hlen hn
    go_enter Try.func38, Try.ntmps38
    go_wp2
    obtain ⟨B0, hB0⟩ : ∃ B0, B0 = w.heap.size := ⟨_, rfl⟩
    rw [← hB0]
    have HB0 := Lib.hid hB0
    clear hB0
    go_loopw [20] (fun i wr => ∃ k : Nat, k ≤ ln ∧ i = .int .i64 k ∧ Below w.heap.size w wr ∧ Row wr B0 5 (rowB (accAt l t x0.length k 0))) (fun i _ => ln - (intOf i).toNat)
    case atStart =>
      refine ⟨0, Nat.zero_le _, rfl, (Below.refl _ _).alloc (Nat.le_refl _) _, ?_⟩
      rw [accAt_zero, HB0.out]
      exact Row.new _ _ _
    case round =>
      obtain ⟨k, hk, rfl, hbel, hrow⟩ := hrel
      by_cases hlt : (k : Int) < (ln : Int)
      · obtain ⟨g2, off2, b, e2, hbk, c1⟩ := (hl.ext hbel).get (i := k) (by omega)
        simp only [Option.some.injEq, Addr.mk.injEq, and_true] at e2
        obtain ⟨rfl, rfl⟩ := e2
        obtain ⟨gt, offt, c, rfl, htk, ct⟩ := ht.get (i := k) (by rw [← ht.len, Hlen.out, hl.len]; omega)
        have ctr := hbel.cell (World.block_lt_of_cell? _ _ ct) |>.trans ct
        have Hct := Lib.hid ct
        have hkt : (k : Int) < (tn : Int) := by have := ht.len; have := hl.len; have := Hlen.out; omega
        have Hbl : Hid (b.length = x0.length) := by
          have h1 := hu b (List.mem_of_getElem? hbk)
          have h2 := bsize_zero HX0.out
          exact Lib.hid (by omega)
        have HBK := Lib.hid hbk
        have HTK := Lib.hid htk
        have hbl : b.length ≤ 1048576 := by have := Hbl.out; omega
        clear hbk htk ct
        go_wp2
        obtain ⟨w1, rfl⟩ : ∃ w1 : World, w1 = wr := ⟨_, rfl⟩
        have hB1 : B0 < w1.heap.size := hrow.lt
        go_loopw [28] (fun i w3 => ∃ j : Nat, j ≤ b.length ∧ i = .int .i64 j ∧ Below w.heap.size w w3 ∧ Row w3 B0 5 (rowB (accAt l t x0.length k j)) ∧ (∀ (i : Nat) (x : UInt8), b[i]? = some x → w3.cell? ⟨w1.heap.size, i, none⟩ = some (Byt x))) (fun i _ => b.length - (intOf i).toNat)
        case atStart =>
          refine ⟨0, Nat.zero_le _, rfl, hbel.drew.alloc (by have := hbel.size; simpa using this) _, ?_, fun i x hx => ?_⟩
          · exact Row.alloc (w := w1.drew) hrow _
          · exact (World.cell?_alloc_mark w1.drew _ _ _ i).trans (bytesRow_get b _ i x hx)
        case round =>
          obtain ⟨j, hj, rfl, hbel3, hrow3, hc3⟩ := hrel
          by_cases hjt : (j : Int) < (b.length : Int)
          · obtain ⟨u, hu3⟩ : ∃ u, b[j]? = some u := ⟨_, List.getElem?_eq_getElem (by omega)⟩
            have cu := hc3 j u hu3
            have HU := Lib.hid hu3
            have hjx : j < x0.length := by have := Hbl.out; omega
            have hjx' : (j : Int) < (x0.length : Int) := by omega
            have co : wr.cell? ⟨B0, j, none⟩ = some (Byt (dot (l.take k) (t.take k) j)) := by
              rw [hrow3.cell]
              exact rowB_get _ _ _ (accAt_get l t x0.length k j hjx)
            have cf := hrow3.free j
            have ct3 := (hbel3.cell (World.block_lt_of_cell? _ _ Hct.out)).trans Hct.out
            have hxr := xor_u8 (dot (l.take k) (t.take k) j) (gm c u)
            clear hu3
            go_wp2
            go_still_tail 12, (by kernel_rfl)
            still_call ((mul_any c u _).mono fun _ _ ⟨h1, h2⟩ => ⟨h1, h2.symm⟩)
            repeat still_step
            refine wpStill_nil ?_
            go_wp2
            go_roundw
            case rel =>
              rw [← UInt8.toNat_xor]
              refine ⟨j + 1, by omega, by go_num, (hbel3.setCell (show w.heap.size ≤ B0 by have := HB0.out; omega) _).drew, ?_, fun i x hx => ?_⟩
              · have h1 := Row.set hrow3 j (Byt (dot (l.take k) (t.take k) j ^^^ gm c u))
                rw [rowB_set, accAt_set l t x0.length k j b c u hjx HBK.out HTK.out HU.out] at h1
                exact h1
              · show World.cell? (wr.setCell _ _) _ = _
                rw [World.cell?_setCell_other]
                · exact hc3 i x hx
                · intro e
                  have := congrArg Addr.block e
                  simp at this
                  omega
            case measure => simp [intOf]; omega
          · have HJ := Lib.hid (show j = x0.length by have := Hbl.out; omega)
            go_wp2
            go_roundw
            case rel =>
              refine ⟨k + 1, by omega, by go_num, hbel3, ?_⟩
              rw [← accAt_full]
              rw [HJ.out] at hrow3
              exact hrow3
            case measure => simp [intOf]; omega
      · have HK := Lib.hid (show k = l.length by have := hl.len; omega)
        have hend : accAt l t x0.length k 0 = bsum l t := by
          have h1 := bsize_zero HX0.out
          rw [HK.out, ← h1]
          exact accAt_end l t Hlen.out
        have hcb := run_convert_bytes_back (P := Try.prog) wr 70 9 5 ⟨B0, 0, none⟩ x0.length (bsum l t) Try.underlying70 Try.underlying5 Try.underlying9 (fun j hj => by
          have : (⟨B0, 0, none⟩ : Addr).add j = ⟨B0, j, none⟩ := by unfold Addr.add; split <;> simp_all
          rw [this, hrow.cell, hend]
          exact rowB_get _ _ _ (List.getElem?_eq_getElem hj))
        rw [bsum_length, bsize_zero HX0.out] at hcb
        clear hend
        go_wp2
        go_ret
        exact ⟨rfl, hbel⟩

end Go.Proofs.Ytmgppnceddnlmaa
