/- Contracts of package pq. -/
import Derived.Test.YtmgppnceddnlmaaCode
import Derived.Deep.DeepCutAuto
import Derived.RegionTactic
import Derived.Deep.RegionWith
import Derived.BigRegion
namespace Go.Proofs.Ytmgppnceddnlmaa
open Go.RowKit

/-- Of n bytes the first k by f, then noughts. -/
def upto (n k : Nat) (f : Nat → UInt8) : Blk := (List.range n).map fun i => if i < k then f i else 0
theorem upto_zero (n : Nat) (f : Nat → UInt8) : upto n 0 f = zeros n := by simp [upto, zeros, List.map_const']
theorem upto_full (n : Nat) (f : Nat → UInt8) : upto n n f = (List.range n).map f := by
  apply List.map_congr_left
  intro i hi
  have : i < n := by simpa using hi
  simp [this]
theorem upto_length (n k : Nat) (f : Nat → UInt8) : (upto n k f).length = n := by simp [upto]
theorem upto_get (n k : Nat) (f : Nat → UInt8) (h : k < n) : (upto n k f)[k]? = some 0 := by simp [upto, h]
theorem upto_set (n k : Nat) (f : Nat → UInt8) : (upto n k f).set k (f k) = upto n (k + 1) f := by
  apply List.ext_getElem (by simp [upto])
  intro i h1 h2
  rw [List.getElem_set]
  simp only [upto, List.getElem_map, List.getElem_range]
  split
  · rename_i e; subst e; rw [if_pos (by omega)]
  · by_cases h : i < k
    · rw [if_pos h, if_pos (by omega)]
    · rw [if_neg h, if_neg (by omega)]
theorem ones_eq (n : Nat) : (List.range n).map (fun _ => (1 : UInt8)) = ones n := by simp [ones, List.map_const']

theorem sl_of_row {w : World} {g : Nat} {l : Blk} {n : Nat} (h : Row w g 5 (rowB l)) (hn : l.length = n) (hm : n ≤ maxLen) : Sl w Byt (some ⟨g, 0, none⟩) n n l :=
  ⟨hn, Nat.le_refl _, hm, fun _ => ⟨g, 0, rfl, fun i x hx => by rw [Nat.zero_add, h.cell]; exact rowB_get l i x hx⟩⟩

set_option maxRecDepth 100000 in
theorem many_yes (n : Nat) (w : World) (h2 : (2 : Int) < (n : Int)) (h3 : (n : Int) ≤ 12) :
    Calls Try.prog 33 #[.int .i64 (n : Int)] w fun e w' => e = .returned (.bool true) ∧ w = w' := by
  go_enter Try.func33, Try.ntmps33
  go_wp2
  go_ret
  exact ⟨rfl, rfl⟩
set_option maxRecDepth 100000 in
theorem many_no (n : Nat) (w : World) (h : ¬ ((2 : Int) < (n : Int) ∧ (n : Int) ≤ 12)) :
    Calls Try.prog 33 #[.int .i64 (n : Int)] w fun e w' => e = .returned (.bool false) ∧ w = w' := by
  by_cases h2 : (2 : Int) < (n : Int)
  · have h3 : ¬ (n : Int) ≤ 12 := fun h3 => h ⟨h2, h3⟩
    clear h
    go_enter Try.func33, Try.ntmps33
    go_wp2
    go_ret
    exact ⟨rfl, rfl⟩
  · have hd : decide ((2 : Int) < (n : Int)) = false := by simpa using h2
    clear h
    go_enter Try.func33, Try.ntmps33
    go_wp2
    go_ret
    exact ⟨rfl, rfl⟩

/-- What the two new rows are. -/
def TwoRows (w0 w : World) (n k : Nat) (a b : Value) : Prop :=
  ∃ g1 g2, a = .slice (some ⟨g1, 0, none⟩) n n ∧ b = .slice (some ⟨g2, 0, none⟩) n n ∧ g1 ≠ g2 ∧ w0.heap.size ≤ g1 ∧ w0.heap.size ≤ g2 ∧ Below w0.heap.size w0 w ∧
    Row w g1 5 (rowB (upto n k fun _ => 1)) ∧ Row w g2 5 (rowB (upto n k (gp 2)))

theorem two_rows (w : World) (n : Nat) : ∀ x y, (x = w.heap.size ∧ y = w.heap.size + 1 ∨ x = w.heap.size + 1 ∧ y = w.heap.size) →
    TwoRows w ((w.alloc (.cells (rowB (zeros n)) 5)).alloc (.cells (rowB (zeros n)) 5)).drew n 0 (.slice (some ⟨x, 0, none⟩) n n) (.slice (some ⟨y, 0, none⟩) n n) := by
  intro x y h
  have h1 : Row (((w.alloc (.cells (rowB (zeros n)) 5)).alloc (.cells (rowB (zeros n)) 5)).drew) w.heap.size 5 (rowB (zeros n)) := Row.alloc (Row.new w _ _) _
  have h2 : Row (((w.alloc (.cells (rowB (zeros n)) 5)).alloc (.cells (rowB (zeros n)) 5)).drew) (w.heap.size + 1) 5 (rowB (zeros n)) := by
    have := Row.new (w.alloc (.cells (rowB (zeros n)) 5)) (rowB (zeros n)) 5
    rw [World.size_alloc] at this
    exact this
  have hb : Below w.heap.size w (((w.alloc (.cells (rowB (zeros n)) 5)).alloc (.cells (rowB (zeros n)) 5)).drew) := (((Below.refl _ _).alloc (Nat.le_refl _) _).alloc (by simp) _).drew
  refine ⟨x, y, rfl, rfl, by omega, by omega, by omega, hb, ?_, ?_⟩
  · rw [upto_zero]; rcases h with ⟨rfl, rfl⟩ | ⟨rfl, rfl⟩ <;> assumption
  · rw [upto_zero]; rcases h with ⟨rfl, rfl⟩ | ⟨rfl, rfl⟩ <;> assumption

set_option maxHeartbeats 1000000 in
set_option maxRecDepth 100000 in
theorem weights_any (n : Nat) (w : World) (hn : n ≤ 1048576) :
    Calls Try.prog 63 #[.int .i64 (n : Int)] w fun e w' => ∃ a b, e = .returned (.tuple #[.slice a n n, .slice b n n]) ∧ Sl w' Byt a n n (ones n) ∧ Sl w' Byt b n n (pows n) ∧ Ext w w' := by
  have hmk := fun wx => run_make_bytes wx n (by omega)
  go_enter Try.func63, Try.ntmps63
  go_upto_region 1 with (fail)
  go_cut [4, 5] (fun a b w1 => TwoRows w w1 n 0 a b)
  case first =>
    go_region
    all_goals
      go_wp2
      go_meet
      case rel =>
        exact two_rows w n _ _ (by omega)
  case rest =>
    obtain ⟨g1, g2, rfl, rfl, hne, hg1, hg2, hbel, hr1, hr2⟩ := hcut
    go_wp2
    go_loopw [12] (fun i wr => ∃ k : Nat, k ≤ n ∧ i = .int .i64 k ∧ Below w.heap.size w wr ∧ Row wr g1 5 (rowB (upto n k fun _ => 1)) ∧ Row wr g2 5 (rowB (upto n k (gp 2)))) (fun i _ => n - (intOf i).toNat)
    case atStart => exact ⟨0, Nat.zero_le _, rfl, hbel, hr1, hr2⟩
    case round =>
      obtain ⟨k, hk, rfl, hbelr, hr1r, hr2r⟩ := hrel
      by_cases hlt : (k : Int) < (n : Int)
      · have hkn : k < n := by omega
        have c1 := (hr1r.cell k).trans (rowB_get _ _ _ (upto_get n k _ hkn))
        have c2 := (hr2r.cell k).trans (rowB_get _ _ _ (upto_get n k _ hkn))
        have f1 := hr1r.free k
        have f2 := hr2r.free k
        have hne2 : ¬ g2 = g1 := fun e => hne e.symm
        go_wp2_with fail
        refine (power_any 2 k _ (by omega)).mono ?_
        rintro e w' ⟨rfl, rfl⟩
        go_wp2
        go_roundw
        case rel =>
          refine ⟨k + 1, by omega, by go_num, ?_, ?_, ?_⟩
          · exact (hbelr.setCell (show w.heap.size ≤ g1 from hg1) _).setCell (show w.heap.size ≤ g2 from hg2) _
          · have h1 := (hr1r.set k (Byt 1)).set_ne ⟨g2, k, none⟩ hne (Byt (gp 2 k))
            rw [rowB_set] at h1
            have h2 := upto_set n k (fun _ => 1)
            rw [show (upto n k fun _ => 1).set k 1 = upto n (k + 1) fun _ => 1 from h2] at h1
            exact h1
          · have h1 := (hr2r.set_ne ⟨g1, k, none⟩ hne2 (Byt 1)).set k (Byt (gp 2 k))
            rw [rowB_set, upto_set] at h1
            exact h1
        case measure => simp [intOf]; omega
      · have HK := Lib.hid (show k = n by omega)
        go_wp2
        go_ret2
        rw [HK.out] at hr1r hr2r
        refine ⟨_, _, rfl, sl_of_row (l := ones n) ?_ (ones_length n) (by unfold maxLen; omega), sl_of_row (l := pows n) ?_ (pows_length n) (by unfold maxLen; omega), hbelr⟩
        · rw [upto_full, ones_eq] at hr1r; exact hr1r
        · rw [upto_full] at hr2r; exact hr2r

set_option maxHeartbeats 400000 in
set_option maxRecDepth 100000 in
theorem of_any (a : Option Addr) (n cap : Nat) (l : List Blk) (w : World) (h : Sl w Str a n cap l) (hu : ∀ b, b ∈ l → b.length = bsize l) (hsz : bsize l ≤ 1048576) (hn : n ≤ 1048576) :
    Calls Try.prog 34 #[.slice a n cap] w fun e w' => e = .returned (.tuple #[Str (pOf l), Str (qOf l)]) ∧ Ext w w' := by
  have hl := Lib.hid h.len
  go_enter Try.func34, Try.ntmps34
  go_wp2_with fail
  refine (weights_any n _ hn).mono ?_
  rintro e w1 ⟨a1, a2, rfl, h1, h2, x1⟩
  go_wp2_with fail
  refine (sum_any _ _ _ _ _ _ l (ones n) _ (h.ext x1) h1 (by rw [ones_length, hl.out]) hu hsz).mono ?_
  rintro e w2 ⟨rfl, x2⟩
  go_wp2_with fail
  refine (sum_any _ _ _ _ _ _ l (pows n) _ ((h.ext x1).ext x2) (h2.ext x2) (by rw [pows_length, hl.out]) hu hsz).mono ?_
  rintro e w3 ⟨rfl, x3⟩
  go_wp2
  go_ret2
  refine ⟨?_, (x1.trans x2).trans x3⟩
  rw [pOf, qOf, hl.out]
  rfl

set_option maxHeartbeats 400000 in
set_option maxRecDepth 100000 in
theorem plus_any (a b : Blk) (w : World) (hl : b.length = a.length) (hsz : a.length ≤ 1048576) :
    Calls Try.prog 95 #[Str a, Str b] w fun e w' => e = .returned (Str (bplus a b)) ∧ Ext w w' := by
  have HL := Lib.hid hl
  clear hl
  go_enter Try.func95, Try.ntmps95
  have hE : Ext w ((w.alloc (.cells #[Str a, Str b] 9)).alloc (.cells #[Byt 1, Byt 1] 5)) := ((Below.refl _ _).alloc (Nat.le_refl _) _).alloc (by simp) _
  have r1 : Row ((w.alloc (.cells #[Str a, Str b] 9)).alloc (.cells #[Byt 1, Byt 1] 5)) w.heap.size 9 (([a, b] : List Blk).map Str).toArray := Row.alloc (Row.new w _ _) _
  have r2 : Row ((w.alloc (.cells #[Str a, Str b] 9)).alloc (.cells #[Byt 1, Byt 1] 5)) (w.heap.size + 1) 5 (([1, 1] : List UInt8).map Byt).toArray := by
    have := Row.new (w.alloc (.cells #[Str a, Str b] 9)) #[Byt 1, Byt 1] 5
    rw [World.size_alloc] at this
    exact this
  have H := sum_any _ _ 2 2 2 2 [a, b] [1, 1] _ (sl_row [a, b] r1 rfl (by decide)) (sl_row [1, 1] r2 rfl (by decide)) rfl
    (by intro x hx; simp at hx; rcases hx with rfl | rfl; rfl; exact HL.out) hsz
  have HH := Lib.hid H
  have HE := Lib.hid hE
  clear r1 r2 H hE
  go_wp2_with fail
  refine HH.out.mono ?_
  rintro e w1 ⟨rfl, x1⟩
  go_wp2
  go_ret
  exact ⟨rfl, HE.out.trans x1⟩

set_option maxHeartbeats 400000 in
set_option maxRecDepth 100000 in
theorem times_any (a : Blk) (c : UInt8) (w : World) (hsz : a.length ≤ 1048576) :
    Calls Try.prog 96 #[Str a, Byt c] w fun e w' => e = .returned (Str (btimes a c)) ∧ Ext w w' := by
  go_enter Try.func96, Try.ntmps96
  have hE : Ext w ((w.alloc (.cells #[Str a] 9)).alloc (.cells #[Byt c] 5)) := ((Below.refl _ _).alloc (Nat.le_refl _) _).alloc (by simp) _
  have r1 : Row ((w.alloc (.cells #[Str a] 9)).alloc (.cells #[Byt c] 5)) w.heap.size 9 (([a] : List Blk).map Str).toArray := Row.alloc (Row.new w _ _) _
  have r2 : Row ((w.alloc (.cells #[Str a] 9)).alloc (.cells #[Byt c] 5)) (w.heap.size + 1) 5 (([c] : List UInt8).map Byt).toArray := by
    have := Row.new (w.alloc (.cells #[Str a] 9)) #[Byt c] 5
    rw [World.size_alloc] at this
    exact this
  have H := sum_any _ _ 1 1 1 1 [a] [c] _ (sl_row [a] r1 rfl (by decide)) (sl_row [c] r2 rfl (by decide)) rfl
    (by intro x hx; simp at hx; rcases hx with rfl; rfl) hsz
  have HH := Lib.hid H
  have HE := Lib.hid hE
  clear r1 r2 H hE
  go_wp2_with fail
  refine HH.out.mono ?_
  rintro e w1 ⟨rfl, x1⟩
  go_wp2
  go_ret
  exact ⟨rfl, HE.out.trans x1⟩

end Go.Proofs.Ytmgppnceddnlmaa
