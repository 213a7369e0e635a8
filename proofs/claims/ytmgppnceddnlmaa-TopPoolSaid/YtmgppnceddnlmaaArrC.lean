/- How an array's memory turns with its state; contracts of array's Lost, spot, Raw, Fail, Replace, Poke. -/
import Derived.Test.YtmgppnceddnlmaaArrS
namespace Go.Proofs.Ytmgppnceddnlmaa
open Go.RowKit

theorem below_drewN {B n : Nat} {a w : World} (h : Below B a w) : Below B a (w.drewN n) := ⟨h.os, h.tape, h.output, h.size, h.block⟩

namespace IsArr
variable {w w' : World} {A : Lay} {s : St}
theorem kp (h : IsArr w A s) {d : Nat} (hd : d < s.n) : A.p ≠ A.k d := by
  obtain ⟨D, hD, _⟩ := h.disk d hd
  exact h.head.ne hD (by decide)
theorem kL (h : IsArr w A s) {d : Nat} (hd : d < s.n) : A.L ≠ A.k d := by
  obtain ⟨D, hD, _⟩ := h.disk d hd
  obtain ⟨c, hl⟩ := h.list
  exact hl.ne hD (by decide)
theorem km (h : IsArr w A s) {d d' : Nat} (hd : d < s.n) (hd' : d' < s.n) : A.m d' ≠ A.k d := by
  obtain ⟨D, hD, _⟩ := h.disk d hd
  exact (h.mem d' hd').ne hD (by decide)
theorem mp (h : IsArr w A s) {d : Nat} (hd : d < s.n) : A.p ≠ A.m d := h.head.ne (h.mem d hd) (by decide)
theorem mL (h : IsArr w A s) {d : Nat} (hd : d < s.n) : A.L ≠ A.m d := by
  obtain ⟨c, hl⟩ := h.list
  exact hl.ne (h.mem d hd) (by decide)

/-- One disk turned. -/
theorem turn (h : IsArr w A s) {d : Nat} (hd : d < s.n) {D : DS} (hD : IsDisk w' (A.k d) D) (hg : w.grownBy w' (some (A.k d))) (F : Nat → Bool) (C : Nat → Nat → Blk)
    (hm : D.many = s.rows) (hs : D.size = s.size) (hf : D.failed = F d)
    (hc : ∀ r, r < s.rows → ({ s with failed := F, cell := C } : St).lost d r = false → D.c r = C d r)
    (ho : ∀ e, e ≠ d → F e = s.failed e ∧ ∀ r, C e r = s.cell e r) (hok : St.Ok { s with failed := F, cell := C }) :
    IsArr w' A { s with failed := F, cell := C } where
  plo := h.plo
  phi := h.phi
  Llo := h.Llo
  Lhi := h.Lhi
  hiw := Nat.le_trans h.hiw hg.size
  head := (hg.block _ h.head.lt fun e => h.kp hd (Option.some.inj e)).trans h.head
  ncap := h.ncap
  capm := h.capm
  list := h.list.grown hg (h.kL hd)
  mem := fun e he => (hg.block _ (h.mem e he).lt fun x => h.km hd he (Option.some.inj x)).trans (h.mem e he)
  mlo := h.mlo
  klo := h.klo
  disk := fun e he => by
    by_cases x : e = d
    · subst x
      exact ⟨D, hD, hm, hs, hf, hc⟩
    · obtain ⟨E, r, q1, q2, q3, q4⟩ := h.disk e he
      refine ⟨E, (hg.block _ r.lt fun y => x (h.kinj _ _ he hd (Option.some.inj y))).trans r, q1, q2, q3.trans (ho e x).1.symm, fun r hr hl => ?_⟩
      rw [show ({ s with failed := F, cell := C } : St).lost e r = s.lost e r by simp only [St.lost, (ho e x).1]] at hl
      exact (q4 r hr hl).trans ((ho e x).2 r).symm
  minj := h.minj
  kinj := h.kinj
  ok := hok

/-- How far a disk is built turned. -/
theorem turnBuilt (h : IsArr w A s) {d : Nat} (hd : d < s.n) (k : Nat) {D : DS} (hD : IsDisk w (A.k d) D) (hm : D.many = s.rows) (hs : D.size = s.size) (hf : D.failed = s.failed d)
    (hc : ∀ r, r < s.rows → (s.setBuilt d k).lost d r = false → D.c r = s.cell d r) (hok : St.Ok (s.setBuilt d k)) :
    IsArr (w.setCell ⟨A.m d, 1, none⟩ (Num k)) A (s.setBuilt d k) where
  plo := h.plo
  phi := h.phi
  Llo := h.Llo
  Lhi := h.Lhi
  hiw := by simpa using h.hiw
  head := Row.set_ne h.head ⟨A.m d, 1, none⟩ (h.mp hd) _
  ncap := h.ncap
  capm := h.capm
  list := Pre.set_ne h.list ⟨A.m d, 1, none⟩ (h.mL hd) _
  mem := fun e he => by
    by_cases x : e = d
    · subst x
      have := (h.mem e he).set 1 (Num k)
      show Row _ _ _ #[Ptr (A.k e), Num (if e = e then k else s.built e)]
      rw [if_pos rfl]
      exact this
    · have := Row.set_ne (h.mem e he) ⟨A.m d, 1, none⟩ (fun y => x (h.minj _ _ he hd y)) (Num k)
      show Row _ _ _ #[Ptr (A.k e), Num (if e = d then k else s.built e)]
      rw [if_neg x]
      exact this
  mlo := h.mlo
  klo := h.klo
  disk := fun e he => by
    by_cases x : e = d
    · subst x
      exact ⟨D, Row.set_ne hD ⟨A.m e, 1, none⟩ (fun y => h.km hd hd y.symm) _, hm, hs, hf, hc⟩
    · obtain ⟨E, r, q1, q2, q3, q4⟩ := h.disk e he
      refine ⟨E, Row.set_ne r ⟨A.m d, 1, none⟩ (fun y => h.km he hd y.symm) _, q1, q2, q3, fun r hr hl => q4 r hr ?_⟩
      rw [show (s.setBuilt d k).lost e r = s.lost e r by simp only [St.lost, St.setBuilt, if_neg x]] at hl
      exact hl
  minj := h.minj
  kinj := h.kinj
  ok := hok
end IsArr

section
variable (A : Lay) (s : St) (w : World)

/-- How many parts of a row are lost, and the fault. -/
def St.lostE (s : St) (row : Int) : Nat × Nat := if row < 0 ∨ (s.rows : Int) ≤ row then (0, 1) else (s.lostN row.toNat, 0)
def lostUpto (s : St) (row j : Nat) : Nat := ((List.range j).filter fun d => s.lost d row).length
theorem lostUpto_succ (s : St) (row j : Nat) : lostUpto s row (j + 1) = lostUpto s row j + if s.lost j row then 1 else 0 := by
  simp only [lostUpto, List.range_succ, List.filter_append, List.length_append, List.filter_cons, List.filter_nil]
  split <;> rfl
theorem lostUpto_le (s : St) (row j : Nat) : lostUpto s row j ≤ j := by
  have := List.length_filter_le (fun d => s.lost d row) (List.range j)
  simpa [lostUpto] using this

/-- Where a block stands, and the fault. -/
def St.spotE (s : St) (block : Int) : Nat × Nat × Nat :=
  if block < 0 ∨ (s.rows * (s.n - 2) : Nat) ≤ block then (0, 0, 1) else (lay s.n (block.toNat / (s.n - 2)) (block.toNat % (s.n - 2)), block.toNat / (s.n - 2), 0)

set_option maxRecDepth 100000 in
theorem spot_any (block : Int) (h : IsArr w A s) :
    Calls Try.prog 42 #[Ptr A.p, .int .i64 block] w fun e w' => e = .returned (.tuple #[Spot (s.spotE block).1 (s.spotE block).2.1, errV (s.spotE block).2.2]) ∧ Ext w w' := by
  have c1 := h.cl
  have c2 := h.crows
  have hn3 := h.ok.n3
  have hn10 := h.ok.n10
  have hr20 := h.ok.r20
  have hprod : ((s.rows : Int) * ((s.n : Int) - 2)) = ((s.rows * (s.n - 2) : Nat) : Int) := by
    rw [Int.natCast_mul, show ((s.n - 2 : Nat) : Int) = (s.n : Int) - 2 by omega]
  have hpb : s.rows * (s.n - 2) ≤ 20 * 8 := Nat.mul_le_mul hr20 (by omega)
  by_cases hr : block < 0
  · have HE : Hid (s.spotE block = (0, 0, 1)) := Lib.hid (if_pos (.inl hr))
    have hd : decide (block < 0) = true := by simpa using hr
    clear hprod hpb
    go_enter Try.func42, Try.ntmps42
    go_upto_region 1 with (fail)
    generalize hw : w.alloc _ = w1
    have X : Ext w w1 := by rw [← hw]; exact (Below.refl _ _).alloc (Nat.le_refl _) _
    have ca1 := (h.ext X).cl
    have ca2 := (h.ext X).crows
    go_quiet (fail)
    have hrow : Row (w1.drewN nq) w.heap.size 90 #[Value.int .i64 0, Value.int .i64 0] := by rw [← hw]; exact Row.new _ _ _
    have hr0 := hrow.cell 0
    have hr1 := hrow.cell 1
    have hf0 := hrow.free 0
    have hf1 := hrow.free 1
    have q0 : ((w1.drewN nq).setCell ⟨w.heap.size, 0, none⟩ (Value.int .i64 0)).cell? ⟨w.heap.size, 0, none⟩ = some (Value.int .i64 0) := (hrow.set 0 (Value.int .i64 0)).cell 0
    have q1 : (((w1.drewN nq).setCell ⟨w.heap.size, 0, none⟩ (Value.int .i64 0)).setCell ⟨w.heap.size, 1, none⟩ (Value.int .i64 0)).cell? ⟨w.heap.size, 1, none⟩ = some (Value.int .i64 0) := ((hrow.set 0 (Value.int .i64 0)).set 1 (Value.int .i64 0)).cell 1
    clear hw
    go_wp2_with fail
    refine bodyPost_ret (v := .tuple #[Spot 0 0, errV 1]) (by simp [results, Try.results42, go_sem, errV, q0, q1]) rfl ⟨by rw [HE.out], ?_⟩
    exact ((below_drewN (n := nq) X).setCell (Nat.le_refl _) _).setCell (Nat.le_refl _) _
  · obtain ⟨b, rfl⟩ : ∃ b : Nat, block = (b : Int) := ⟨block.toNat, by omega⟩
    have hd : decide ((b : Int) < 0) = false := by simp
    by_cases hr2 : ((s.rows * (s.n - 2) : Nat) : Int) ≤ (b : Int)
    · have HE : Hid (s.spotE b = (0, 0, 1)) := Lib.hid (if_pos (.inr hr2))
      clear hr
      go_enter Try.func42, Try.ntmps42
      go_upto_region 1 with (fail)
      generalize hw : w.alloc _ = w1
      have X : Ext w w1 := by rw [← hw]; exact (Below.refl _ _).alloc (Nat.le_refl _) _
      have ca1 := (h.ext X).cl
      have ca2 := (h.ext X).crows
      generalize s.rows * (s.n - 2) = q at *
      go_quiet (fail)
      have hrow : Row (w1.drewN nq) w.heap.size 90 #[Value.int .i64 0, Value.int .i64 0] := by rw [← hw]; exact Row.new _ _ _
      have hr0 := hrow.cell 0
      have hr1 := hrow.cell 1
      have hf0 := hrow.free 0
      have hf1 := hrow.free 1
      have q0 : ((w1.drewN nq).setCell ⟨w.heap.size, 0, none⟩ (Value.int .i64 0)).cell? ⟨w.heap.size, 0, none⟩ = some (Value.int .i64 0) := (hrow.set 0 (Value.int .i64 0)).cell 0
      have q1 : (((w1.drewN nq).setCell ⟨w.heap.size, 0, none⟩ (Value.int .i64 0)).setCell ⟨w.heap.size, 1, none⟩ (Value.int .i64 0)).cell? ⟨w.heap.size, 1, none⟩ = some (Value.int .i64 0) := ((hrow.set 0 (Value.int .i64 0)).set 1 (Value.int .i64 0)).cell 1
      clear hw
      go_wp2_with fail
      refine bodyPost_ret (v := .tuple #[Spot 0 0, errV 1]) (by simp [results, Try.results42, go_sem, errV, q0, q1]) rfl ⟨by rw [HE.out], ?_⟩
      exact ((below_drewN (n := nq) X).setCell (Nat.le_refl _) _).setCell (Nat.le_refl _) _
    · have HE : Hid (s.spotE b = (lay s.n (b / (s.n - 2)) (b % (s.n - 2)), b / (s.n - 2), 0)) := Lib.hid (if_neg (by omega))
      have HD := Lib.hid (data_any s.n b)
      have hlt : b / (s.n - 2) < 20 := by
        have : b / (s.n - 2) < s.rows := (Nat.div_lt_iff_lt_mul (by omega)).2 (by omega)
        omega
      have hr3 : (b : Int) < ((s.rows * (s.n - 2) : Nat) : Int) := by omega
      clear hr hr2
      go_enter Try.func42, Try.ntmps42
      go_upto_region 1 with (fail)
      generalize hw : w.alloc _ = w1
      have X : Ext w w1 := by rw [← hw]; exact (Below.refl _ _).alloc (Nat.le_refl _) _
      have ca1 := (h.ext X).cl
      have ca2 := (h.ext X).crows
      generalize s.rows * (s.n - 2) = q at *
      go_quiet (fail)
      have hrow : Row (w1.drewN nq) w.heap.size 90 #[Value.int .i64 0, Value.int .i64 0] := by rw [← hw]; exact Row.new _ _ _
      clear hw
      go_wp2_with fail
      refine (HD.out _ hn3 hn10 hlt).mono ?_
      rintro e w2 ⟨rfl, X2⟩
      have X3 := Lib.hid (Ext.trans (below_drewN (n := nq) X) X2)
      have hrow2 := hrow.ext X2
      generalize b / (s.n - 2) = rw1 at *
      generalize lay s.n rw1 (b % (s.n - 2)) = dk1 at *
      have hr0 := hrow2.cell 0
      have hr1 := hrow2.cell 1
      have hf0 := hrow2.free 0
      have hf1 := hrow2.free 1
      have q0 : ((w2).setCell ⟨w.heap.size, 0, none⟩ (Num dk1)).cell? ⟨w.heap.size, 0, none⟩ = some (Num dk1) := (hrow2.set 0 (Num dk1)).cell 0
      have q1 : (((w2).setCell ⟨w.heap.size, 0, none⟩ (Num dk1)).setCell ⟨w.heap.size, 1, none⟩ (Num rw1)).cell? ⟨w.heap.size, 1, none⟩ = some (Num rw1) := ((hrow2.set 0 (Num dk1)).set 1 (Num rw1)).cell 1
      go_wp2_with fail
      refine bodyPost_ret (v := .tuple #[Spot dk1 rw1, .nilIface]) (by simp [results, Try.results42, go_sem, q0, q1]) rfl ⟨by rw [HE.out]; rfl, ?_⟩
      exact (X3.out.setCell (Nat.le_refl _) _).setCell (Nat.le_refl _) _

end
end Go.Proofs.Ytmgppnceddnlmaa
