/- How an array of disks lies in memory ('IsArr'), and the contracts of array's has, hasRow, lost, Lost, spot. -/
import Derived.Test.YtmgppnceddnlmaaDisk
import Derived.Test.YtmgppnceddnlmaaLocate
namespace Go.Proofs.Ytmgppnceddnlmaa
open Go.RowKit

/-- A state that there may be. -/
structure St.Ok (s : St) : Prop where
  n3 : 3 ≤ s.n
  n10 : s.n ≤ 10
  r1 : 1 ≤ s.rows
  r20 : s.rows ≤ 20
  s1 : 1 ≤ s.size
  s16 : s.size ≤ 16
  built : ∀ d, s.built d ≤ s.rows
  len : ∀ d r, d < s.n → r < s.rows → s.lost d r = false → (s.cell d r).length = s.size

/-- Where an array lies: its own block, that of its list, those of its members and disks; all of them from lo on, below hi. -/
structure Lay where
  p : Nat
  L : Nat
  cap : Nat
  lo : Nat
  hi : Nat
  m : Nat → Nat
  k : Nat → Nat

abbrev Ptr (b : Nat) : Value := .pointer (some ⟨b, 0, none⟩)

structure IsArr (w : World) (A : Lay) (s : St) : Prop where
  plo : A.lo ≤ A.p
  phi : A.p < A.hi
  Llo : A.lo ≤ A.L
  Lhi : A.L < A.hi
  hiw : A.hi ≤ w.heap.size
  head : Row w A.p 80 #[.slice (some ⟨A.L, 0, none⟩) s.n A.cap, Num s.rows, Num s.size]
  ncap : s.n ≤ A.cap
  capm : A.cap ≤ maxLen
  list : Pre w A.L 84 ((List.range s.n).map fun d => Ptr (A.m d))
  mem : ∀ d, d < s.n → Row w (A.m d) 86 #[Ptr (A.k d), Num (s.built d)]
  mlo : ∀ d, d < s.n → A.lo ≤ A.m d ∧ A.m d < A.hi
  klo : ∀ d, d < s.n → A.lo ≤ A.k d ∧ A.k d < A.hi
  disk : ∀ d, d < s.n → ∃ D, IsDisk w (A.k d) D ∧ D.many = s.rows ∧ D.size = s.size ∧ D.failed = s.failed d ∧ ∀ r, r < s.rows → s.lost d r = false → D.c r = s.cell d r
  minj : ∀ d d', d < s.n → d' < s.n → A.m d = A.m d' → d = d'
  kinj : ∀ d d', d < s.n → d' < s.n → A.k d = A.k d' → d = d'
  ok : s.Ok

/-- Only blocks from lo on, below hi, may have turned, of those that there were. -/
structure Keep (lo hi : Nat) (w w' : World) : Prop where
  os : w'.os = w.os
  tape : w'.tape = w.tape
  output : w'.output = w.output
  size : w.heap.size ≤ w'.heap.size
  block : ∀ b, b < w.heap.size → b < lo ∨ hi ≤ b → w'.heap[b]? = w.heap[b]?

theorem Keep.refl (lo hi : Nat) (w : World) : Keep lo hi w w := ⟨rfl, rfl, rfl, Nat.le_refl _, fun _ _ _ => rfl⟩
theorem Keep.trans {lo hi : Nat} {a b c : World} (h : Keep lo hi a b) (k : Keep lo hi b c) : Keep lo hi a c :=
  ⟨k.os.trans h.os, k.tape.trans h.tape, k.output.trans h.output, Nat.le_trans h.size k.size, fun i hi hb => (k.block i (Nat.lt_of_lt_of_le hi h.size) hb).trans (h.block i hi hb)⟩
theorem Keep.of_ext {lo hi : Nat} {a b : World} (h : Ext a b) : Keep lo hi a b := ⟨h.os, h.tape, h.output, h.size, fun i hi _ => h.block i hi⟩
theorem Keep.of_grown {lo hi r : Nat} {a b : World} (h : a.grownBy b (some r)) (h1 : lo ≤ r) (h2 : r < hi) : Keep lo hi a b :=
  ⟨h.os, h.tape, h.output, h.size, fun i hi hb => h.block i hi (fun e => by have := Option.some.inj e; omega)⟩
theorem Keep.below {lo hi B : Nat} {a b : World} (h : Keep lo hi a b) (hB : B ≤ lo) (hs : B ≤ a.heap.size) : Below B a b :=
  ⟨h.os, h.tape, h.output, h.size, fun i hi => h.block i (by omega) (.inl (by omega))⟩
theorem Keep.row {lo hi : Nat} {a b : World} (h : Keep lo hi a b) {g e : Nat} {xs : Array Value} (r : Row a g e xs) (hg : g < lo ∨ hi ≤ g) : Row b g e xs := (h.block g r.lt hg).trans r
theorem Keep.setCell {lo hi : Nat} (w : World) {a : Addr} (v : Value) (h1 : lo ≤ a.block) (h2 : a.block < hi) : Keep lo hi w (w.setCell a v) := Keep.of_grown (grownBy_setCell w a v) h1 h2

namespace IsArr
variable {w w' : World} {A : Lay} {s : St}

theorem carry (h : IsArr w A s) (hs : w.heap.size ≤ w'.heap.size) (hk : ∀ b, A.lo ≤ b → b < A.hi → w'.heap[b]? = w.heap[b]?) : IsArr w' A s where
  plo := h.plo
  phi := h.phi
  Llo := h.Llo
  Lhi := h.Lhi
  hiw := Nat.le_trans h.hiw hs
  head := (hk _ h.plo h.phi).trans h.head
  ncap := h.ncap
  capm := h.capm
  list := let ⟨c, r⟩ := h.list; ⟨c, (hk _ h.Llo h.Lhi).trans r⟩
  mem := fun d hd => (hk _ (h.mlo d hd).1 (h.mlo d hd).2).trans (h.mem d hd)
  mlo := h.mlo
  klo := h.klo
  disk := fun d hd => let ⟨D, r, q⟩ := h.disk d hd; ⟨D, (hk _ (h.klo d hd).1 (h.klo d hd).2).trans r, q⟩
  minj := h.minj
  kinj := h.kinj
  ok := h.ok

theorem ext (h : IsArr w A s) (x : Ext w w') : IsArr w' A s := h.carry x.size fun b _ hb => x.block b (Nat.lt_of_lt_of_le hb h.hiw)
theorem keep {lo hi : Nat} (h : IsArr w A s) (x : Keep lo hi w w') (hd : hi ≤ A.lo ∨ A.hi ≤ lo) : IsArr w' A s :=
  h.carry x.size fun b h1 h2 => x.block b (Nat.lt_of_lt_of_le h2 h.hiw) (by omega)

theorem cl (h : IsArr w A s) : w.cell? ⟨A.p, 0, none⟩ = some (.slice (some ⟨A.L, 0, none⟩) s.n A.cap) := by rw [h.head.cell]; rfl
theorem crows (h : IsArr w A s) : w.cell? ⟨A.p, 1, none⟩ = some (Num s.rows) := by rw [h.head.cell]; rfl
theorem csize (h : IsArr w A s) : w.cell? ⟨A.p, 2, none⟩ = some (Num s.size) := by rw [h.head.cell]; rfl
theorem cm (h : IsArr w A s) {d : Nat} (hd : d < s.n) : w.cell? ⟨A.L, d, none⟩ = some (Ptr (A.m d)) := h.list.cell (by simp [hd])
theorem ck (h : IsArr w A s) {d : Nat} (hd : d < s.n) : w.cell? ⟨A.m d, 0, none⟩ = some (Ptr (A.k d)) := by rw [(h.mem d hd).cell]; rfl
theorem cb (h : IsArr w A s) {d : Nat} (hd : d < s.n) : w.cell? ⟨A.m d, 1, none⟩ = some (Num (s.built d)) := by rw [(h.mem d hd).cell]; rfl
theorem fb (h : IsArr w A s) {d : Nat} (hd : d < s.n) : w.frozen? ⟨A.m d, 1, none⟩ = false := (h.mem d hd).free 1
end IsArr

section
variable (A : Lay) (s : St) (w : World)

set_option maxRecDepth 100000 in
theorem has_yes (d : Nat) (h : IsArr w A s) (hd : (d : Int) < (s.n : Int)) :
    Calls Try.prog 48 #[Ptr A.p, .int .i64 (d : Int)] w fun e w' => e = .returned (.bool true) ∧ w = w' := by
  have c := h.cl
  have h0 : decide ((0 : Int) ≤ (d : Int)) = true := by simp
  go_enter Try.func48, Try.ntmps48
  go_wp2
  go_ret
  exact ⟨rfl, rfl⟩
set_option maxRecDepth 100000 in
theorem has_no (d : Int) (h : IsArr w A s) (hd : d < 0 ∨ (s.n : Int) ≤ d) :
    Calls Try.prog 48 #[Ptr A.p, .int .i64 d] w fun e w' => e = .returned (.bool false) ∧ w = w' := by
  have c := h.cl
  by_cases h1 : d < 0
  · have h0 : decide ((0 : Int) ≤ d) = false := by simpa using h1
    clear hd
    go_enter Try.func48, Try.ntmps48
    go_wp2
    go_ret
    exact ⟨rfl, rfl⟩
  · have h0 : decide ((0 : Int) ≤ d) = true := by simp; omega
    have h2 : decide (d < (s.n : Int)) = false := by simp; omega
    clear hd
    go_enter Try.func48, Try.ntmps48
    go_wp2
    go_ret
    exact ⟨rfl, rfl⟩
set_option maxRecDepth 100000 in
theorem lost_any (d row : Nat) (h : IsArr w A s) (hd : d < s.n) :
    Calls Try.prog 52 #[Ptr A.p, .int .i64 (d : Int), .int .i64 (row : Int)] w fun e w' => e = .returned (.bool (s.lost d row)) ∧ w = w' := by
  have c1 := h.cl
  have c2 := h.cm hd
  have c3 := h.ck hd
  have c4 := h.cb hd
  have hd' : (d : Int) < (s.n : Int) := by omega
  obtain ⟨D, hD, -, -, hf, -⟩ := h.disk d hd
  have HW := Lib.hid (works_any (A.k d) D w hD)
  rw [hf] at HW
  clear hf
  cases hx : s.failed d with
  | true =>
    have HR : Hid (s.lost d row = true) := Lib.hid (by rw [St.lost, hx]; rfl)
    rw [hx] at HW
    clear hx
    go_enter Try.func52, Try.ntmps52
    go_wp2_with fail
    refine HW.out.mono ?_
    rintro e w' ⟨rfl, rfl⟩
    go_wp2_with fail
    go_ret
    exact ⟨ret_val (by rw [HR.out]; rfl), rfl⟩
  | false =>
    have HR : Hid (s.lost d row = decide (s.built d ≤ row)) := Lib.hid (by rw [St.lost, hx]; rfl)
    rw [hx] at HW
    clear hx
    go_enter Try.func52, Try.ntmps52
    go_wp2_with fail
    refine HW.out.mono ?_
    rintro e w' ⟨rfl, rfl⟩
    go_wp2_with fail
    go_ret
    exact ⟨ret_val (by rw [HR.out]; simp), rfl⟩
end

end Go.Proofs.Ytmgppnceddnlmaa
