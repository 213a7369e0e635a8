/- Contracts of package disk. A disk is a block of 24 cells: twenty rows, how many there are, their size, whether it failed, writes. -/
import Derived.Test.YtmgppnceddnlmaaLayout
import Derived.RegionTactic
import Derived.BigRegion
namespace Go.Proofs.Ytmgppnceddnlmaa
open Go.RowKit

structure DS where
  c : Nat → Blk
  many : Nat
  size : Nat
  failed : Bool
  wr : Int

def dcell (D : DS) (i : Nat) : Value :=
  if i < 20 then Str (D.c i) else if i = 20 then Num D.many else if i = 21 then Num D.size else if i = 22 then Boo D.failed else .int .i64 D.wr
def dcells (D : DS) : Array Value := ((List.range 24).map (dcell D)).toArray
/-- Block k is this disk. -/
def IsDisk (w : World) (k : Nat) (D : DS) : Prop := Row w k 119 (dcells D)

theorem dcells_get (D : DS) (i : Nat) (h : i < 24) : (dcells D)[i]? = some (dcell D i) := by simp [dcells, h]
theorem dcells_set (D D' : DS) (i : Nat) (v : Value) (h : ∀ j, j < 24 → dcell D' j = if j = i then v else dcell D j) : (dcells D).setIfInBounds i v = dcells D' := by
  apply Array.ext'
  simp only [dcells, Array.toList_setIfInBounds]
  apply List.ext_getElem (by simp)
  intro j h1 h2
  have hj : j < 24 := by simpa using h2
  rw [List.getElem_set]
  simp only [List.getElem_map, List.getElem_range, h j hj]
  by_cases e : i = j
  · subst e; simp
  · have : ¬ j = i := fun x => e x.symm
    simp [e, this]

namespace IsDisk
variable {w w' : World} {k : Nat} {D : DS}
theorem row (h : IsDisk w k D) {i : Nat} (hi : i < 20) : w.cell? ⟨k, i, none⟩ = some (Str (D.c i)) := by
  rw [Row.cell h, dcells_get D i (by omega), dcell, if_pos hi]
theorem many (h : IsDisk w k D) : w.cell? ⟨k, 20, none⟩ = some (Num D.many) := by rw [Row.cell h, dcells_get D 20 (by omega)]; rfl
theorem size (h : IsDisk w k D) : w.cell? ⟨k, 21, none⟩ = some (Num D.size) := by rw [Row.cell h, dcells_get D 21 (by omega)]; rfl
theorem failed (h : IsDisk w k D) : w.cell? ⟨k, 22, none⟩ = some (Boo D.failed) := by rw [Row.cell h, dcells_get D 22 (by omega)]; rfl
theorem wr (h : IsDisk w k D) : w.cell? ⟨k, 23, none⟩ = some (.int .i64 D.wr) := by rw [Row.cell h, dcells_get D 23 (by omega)]; rfl
theorem free (h : IsDisk w k D) (i : Nat) : w.frozen? ⟨k, i, none⟩ = false := Row.free h i
theorem ext (h : IsDisk w k D) (x : Ext w w') : IsDisk w' k D := Row.ext h x
theorem setRow (h : IsDisk w k D) {i : Nat} (hi : i < 20) (b : Blk) : IsDisk (w.setCell ⟨k, i, none⟩ (Str b)) k { D with c := fun r => if r = i then b else D.c r } := by
  have := Row.set h i (Str b)
  rw [dcells_set D { D with c := fun r => if r = i then b else D.c r } i (Str b)] at this
  · exact this
  · intro j hj
    by_cases h1 : j < 20
    · simp only [dcell, if_pos h1]
      by_cases h2 : j = i <;> simp [h2]
    · have h2 : ¬ j = i := by omega
      simp only [dcell, if_neg h1, if_neg h2]
theorem setFailed (h : IsDisk w k D) (x : Bool) : IsDisk (w.setCell ⟨k, 22, none⟩ (Boo x)) k { D with failed := x } := by
  have := Row.set h 22 (Boo x)
  rw [dcells_set D { D with failed := x } 22 (Boo x)] at this
  · exact this
  · intro j hj
    by_cases h1 : j = 22
    · subst h1; rfl
    · simp only [dcell, if_neg h1]
theorem setWr (h : IsDisk w k D) (x : Int) : IsDisk (w.setCell ⟨k, 23, none⟩ (.int .i64 x)) k { D with wr := x } := by
  have := Row.set h 23 (.int .i64 x)
  rw [dcells_set D { D with wr := x } 23 (.int .i64 x)] at this
  · exact this
  · intro j hj
    by_cases h1 : j = 23
    · subst h1; rfl
    · simp only [dcell]
      repeat' split
      all_goals first | rfl | omega
end IsDisk

section
variable (k : Nat) (D : DS) (w : World)

set_option maxRecDepth 100000 in
theorem works_any (h : IsDisk w k D) :
    Calls Try.prog 51 #[.pointer (some ⟨k, 0, none⟩)] w fun e w' => e = .returned (.bool (!D.failed)) ∧ w = w' := by
  have c := h.failed
  go_enter Try.func51, Try.ntmps51
  go_wp2
  go_ret
  exact ⟨rfl, rfl⟩

set_option maxRecDepth 100000 in
theorem ready_ok (row : Nat) (h : IsDisk w k D) (hf : D.failed = false) (hr : (row : Int) < (D.many : Int)) :
    Calls Try.prog 75 #[.pointer (some ⟨k, 0, none⟩), .int .i64 (row : Int)] w fun e w' => e = .returned .nilIface ∧ w = w' := by
  have c1 := h.failed
  have c2 := h.many
  rw [hf] at c1
  have hd : decide ((row : Int) < 0) = false := by simp
  clear hf
  go_enter Try.func75, Try.ntmps75
  go_wp2
  go_ret
  exact ⟨rfl, rfl⟩

set_option maxRecDepth 100000 in
theorem read_ok (row : Nat) (h : IsDisk w k D) (hf : D.failed = false) (hr : (row : Int) < (D.many : Int)) (hr2 : (row : Int) < 20) :
    Calls Try.prog 53 #[.pointer (some ⟨k, 0, none⟩), .int .i64 (row : Int)] w fun e w' => e = .returned (.tuple #[Str (D.c row), .nilIface]) ∧ w = w' := by
  have c1 := h.row (i := row) (by omega)
  have HR := Lib.hid (ready_ok k D w row h hf hr)
  clear hf
  go_enter Try.func53, Try.ntmps53
  go_wp2_with fail
  refine HR.out.mono ?_
  rintro e w' ⟨rfl, rfl⟩
  go_wp2_with fail
  go_ret2
  exact ⟨rfl, rfl⟩

/-- What a call leaves that writes to one disk. -/
def DiskPost (k : Nat) (w : World) (D : DS) (v : Value) (e : Ending) (w' : World) : Prop := e = .returned v ∧ (∃ x, IsDisk w' k { D with wr := x }) ∧ w.grownBy w' (some k)

set_option maxRecDepth 100000 in
theorem write_ok (row : Nat) (b : Blk) (h : IsDisk w k D) (hf : D.failed = false) (hr : (row : Int) < (D.many : Int)) (hr2 : (row : Int) < 20) (hb : b.length = D.size) :
    Calls Try.prog 44 #[.pointer (some ⟨k, 0, none⟩), .int .i64 (row : Int), Str b] w
      (DiskPost k w { D with c := fun r => if r = row then b else D.c r } .nilIface) := by
  have c1 := h.row (i := row) (by omega)
  have c2 := h.size
  have f1 := h.free row
  have f2 := h.free 23
  have hne : ((b.length : Int) != (D.size : Int)) = false := by simp [hb]
  have HR := Lib.hid (ready_ok k D w row h hf hr)
  have H1 := Lib.hid (h.setRow (i := row) (by omega) b)
  have c3 := H1.out.wr
  have hrw : ¬ (23 : Int) = (row : Int) := by omega
  clear hf hb
  go_enter Try.func44, Try.ntmps44
  go_wp2_with fail
  refine HR.out.mono ?_
  rintro e w' ⟨rfl, rfl⟩
  go_wp2_with fail
  go_ret
  exact ⟨rfl, ⟨_, H1.out.setWr _⟩, grownBy_trans (grownBy_setCell w ⟨k, row, none⟩ (Str b)) (grownBy_setCell _ ⟨k, 23, none⟩ _)⟩

set_option maxRecDepth 100000 in
theorem fail_ok (h : IsDisk w k D) (hf : D.failed = false) :
    Calls Try.prog 49 #[.pointer (some ⟨k, 0, none⟩)] w (DiskPost k w { D with failed := true } .nilIface) := by
  have c1 := h.failed
  have f1 := h.free 22
  have H1 := Lib.hid (h.setFailed true)
  rw [hf] at c1
  clear hf
  go_enter Try.func49, Try.ntmps49
  go_wp2_with fail
  go_ret
  exact ⟨rfl, ⟨D.wr, H1.out⟩, grownBy_setCell w ⟨k, 22, none⟩ _⟩
set_option maxRecDepth 100000 in
theorem fail_no (h : IsDisk w k D) (hf : D.failed = true) :
    Calls Try.prog 49 #[.pointer (some ⟨k, 0, none⟩)] w fun e w' => e = .returned (errV 6) ∧ w = w' := by
  have c1 := h.failed
  rw [hf] at c1
  clear hf
  go_enter Try.func49, Try.ntmps49
  go_wp2_with fail
  go_ret
  exact ⟨rfl, rfl⟩
end

/-- The rows, those below j blank. -/
def blankTo (D : DS) (j : Nat) : DS := { D with c := fun r => if r < j then zeros D.size else D.c r }

set_option maxHeartbeats 1000000 in
set_option maxRecDepth 100000 in
theorem blank_any (k : Nat) (D : DS) (w : World) (h : IsDisk w k D) (hm : D.many ≤ 20) (hs : D.size ≤ 16) :
    Calls Try.prog 73 #[.pointer (some ⟨k, 0, none⟩)] w (DiskPost k w (blankTo D D.many) (.tuple #[])) := by
  have c0 := h.many
  have hmk := fun wx => run_make_bytes wx D.size (by omega)
  go_enter Try.func73, Try.ntmps73
  go_wp2_with fail
  go_loopw [7] (fun i wr => ∃ j : Nat, j ≤ D.many ∧ i = .int .i64 j ∧ IsDisk wr k (blankTo D j) ∧ w.grownBy wr (some k)) (fun i _ => D.many - (intOf i).toNat)
  case atStart =>
    refine ⟨0, by omega, rfl, ?_, grownBy_refl _ _⟩
    have : blankTo D 0 = D := by simp [blankTo]
    rw [this]
    exact h
  case round =>
    obtain ⟨j, hj, rfl, hd, hg⟩ := hrel
    by_cases hlt : (j : Int) < (D.many : Int)
    · have c1 := hd.size
      have hs0 : (blankTo D j).size = D.size := rfl
      rw [hs0] at c1
      have hcb := run_convert_bytes_back (P := Try.prog) (wr.alloc (.cells (rowB (zeros D.size)) 5)).drew 70 9 5 ⟨wr.heap.size, 0, none⟩ D.size (zeros D.size) Try.underlying70 Try.underlying5 Try.underlying9 (fun i hi => by
        rw [add_lit, Nat.zero_add]
        exact ((Row.new wr (rowB (zeros D.size)) 5).cell i).trans (rowB_get _ _ _ (List.getElem?_eq_getElem hi)))
      rw [zeros_length] at hcb
      have hda : IsDisk (wr.alloc (.cells (rowB (zeros D.size)) 5)) k (blankTo D j) := Row.alloc hd _
      have ca := hda.row (i := j) (by omega)
      have fa := hda.free j
      have HD := Lib.hid (hda.setRow (i := j) (by omega) (zeros D.size))
      have HE : Hid ({ blankTo D j with c := fun r => if r = j then zeros D.size else (blankTo D j).c r } = blankTo D (j + 1)) := by
        refine Lib.hid ?_
        simp only [blankTo, DS.mk.injEq, and_self, and_true]
        funext r
        by_cases h1 : r = j
        · subst h1; simp
        · by_cases h2 : r < j
          · have : r < j + 1 := by omega
            simp [h1, h2, this]
          · have : ¬ r < j + 1 := by omega
            simp [h1, h2, this]
      have hj20 : (j : Int) < 20 := by omega
      have hg2 := Lib.hid (grownBy_trans hg (grownBy_trans (grownBy_ext (a := wr) ((Below.refl _ _).alloc (Nat.le_refl _) (.cells (rowB (zeros D.size)) 5)) (some k)) (grownBy_setCell _ ⟨k, j, none⟩ (Str (zeros D.size)))))
      clear hs0
      go_wp2_with fail
      go_region
      all_goals
        go_wp2_with fail
        go_roundw
        case rel =>
          refine ⟨j + 1, by omega, by go_num, ?_, grownBy_drew hg2.out⟩
          rw [← HE.out]
          exact HD.out
        case measure => simp [intOf]; omega
    · go_wp2_with fail
      go_end0
      have : j = D.many := by omega
      rw [this] at hd
      exact ⟨rfl, ⟨D.wr, hd⟩, hg⟩

set_option maxRecDepth 100000 in
theorem replace_ok (k : Nat) (D : DS) (w : World) (h : IsDisk w k D) (hf : D.failed = true) (hm : D.many ≤ 20) (hs : D.size ≤ 16) :
    Calls Try.prog 50 #[.pointer (some ⟨k, 0, none⟩)] w (DiskPost k w (blankTo { D with failed := false } D.many) .nilIface) := by
  have c1 := h.failed
  have f1 := h.free 22
  have HB := Lib.hid (blank_any k { D with failed := false } _ (h.setFailed false) hm hs)
  rw [hf] at c1
  clear hf
  go_enter Try.func50, Try.ntmps50
  go_wp2_with fail
  refine HB.out.mono ?_
  rintro e w2 ⟨rfl, hd, hg⟩
  go_wp2_with fail
  go_ret
  exact ⟨rfl, hd, grownBy_trans (grownBy_setCell w ⟨k, 22, none⟩ _) hg⟩
set_option maxRecDepth 100000 in
theorem replace_no (k : Nat) (D : DS) (w : World) (h : IsDisk w k D) (hf : D.failed = false) :
    Calls Try.prog 50 #[.pointer (some ⟨k, 0, none⟩)] w fun e w' => e = .returned (errV 6) ∧ w = w' := by
  have c1 := h.failed
  rw [hf] at c1
  clear hf
  go_enter Try.func50, Try.ntmps50
  go_wp2_with fail
  go_ret
  exact ⟨rfl, rfl⟩

/-- A new disk. -/
def newDisk (rows size : Nat) : DS := { c := fun r => if r < rows then zeros size else [], many := rows, size := size, failed := false, wr := 0 }

theorem dcells_new (rows size : Nat) : dcells { newDisk rows size with c := fun _ => [] } = #[Str [], Str [], Str [], Str [], Str [], Str [], Str [], Str [], Str [], Str [], Str [], Str [], Str [], Str [], Str [], Str [], Str [], Str [], Str [], Str [], Num rows, Num size, Boo false, .int .i64 0] := rfl

set_option maxHeartbeats 1000000 in
set_option maxRecDepth 100000 in
theorem dnew_ok (rows size : Nat) (w : World) (h1 : 1 ≤ rows) (h2 : rows ≤ 20) (h3 : 1 ≤ size) (h4 : size ≤ 16) :
    Calls Try.prog 41 #[.int .i64 (rows : Int), .int .i64 (size : Int)] w fun e w' =>
      e = .returned (.tuple #[.pointer (some ⟨w.heap.size, 0, none⟩), .nilIface]) ∧ (∃ x, IsDisk w' w.heap.size { newDisk rows size with wr := x }) ∧ Ext w w' := by
  have d1 : decide ((rows : Int) < 1) = false := by simp; omega
  have d2 : decide (20 < (rows : Int)) = false := by simp; omega
  have d3 : decide ((size : Int) < 1) = false := by simp; omega
  have d4 : decide (16 < (size : Int)) = false := by simp; omega
  have HD : Hid (IsDisk (w.alloc (.cells (dcells { newDisk rows size with c := fun _ => [] }) 119)) w.heap.size { newDisk rows size with c := fun _ => [] }) := Lib.hid (Row.new _ _ _)
  have HB := Lib.hid (blank_any w.heap.size { newDisk rows size with c := fun _ => [] } _ HD.out h2 h4)
  have HE := Lib.hid (show blankTo { newDisk rows size with c := fun _ => [] } rows = newDisk rows size from rfl)
  go_enter Try.func41, Try.ntmps41
  go_wp2_with fail
  rw [dcells_new] at HB
  refine HB.out.mono ?_
  rintro e w2 ⟨rfl, ⟨x, hx⟩, hg⟩
  go_wp2_with fail
  go_ret2
  have hx2 : IsDisk w2 w.heap.size { newDisk rows size with wr := x } := hx
  refine ⟨rfl, ⟨x, hx2⟩, ?_⟩
  exact ((Below.refl _ _).alloc (Nat.le_refl _) _).grown hg (by simp) (fun q hq => by have := Option.some.inj hq; omega)

set_option maxRecDepth 100000 in
theorem dnew_no (rows size : Int) (w : World) (h : rows < 1 ∨ 20 < rows ∨ size < 1 ∨ 16 < size) :
    Calls Try.prog 41 #[.int .i64 rows, .int .i64 size] w fun e w' => e = .returned (.tuple #[.pointer none, errV 1]) ∧ w = w' := by
  by_cases a1 : rows < 1
  · have d1 : decide (rows < 1) = true := by simpa using a1
    clear h
    go_enter Try.func41, Try.ntmps41
    go_wp2_with fail
    go_ret2
    exact ⟨rfl, rfl⟩
  · have d1 : decide (rows < 1) = false := by simpa using a1
    by_cases a2 : 20 < rows
    · have d2 : decide (20 < rows) = true := by simpa using a2
      clear h
      go_enter Try.func41, Try.ntmps41
      go_wp2_with fail
      go_ret2
      exact ⟨rfl, rfl⟩
    · have d2 : decide (20 < rows) = false := by simpa using a2
      by_cases a3 : size < 1
      · have d3 : decide (size < 1) = true := by simpa using a3
        clear h
        go_enter Try.func41, Try.ntmps41
        go_wp2_with fail
        go_ret2
        exact ⟨rfl, rfl⟩
      · have d3 : decide (size < 1) = false := by simpa using a3
        have d4 : decide (16 < size) = true := by simp; omega
        clear h
        go_enter Try.func41, Try.ntmps41
        go_wp2_with fail
        go_ret2
        exact ⟨rfl, rfl⟩

end Go.Proofs.Ytmgppnceddnlmaa
