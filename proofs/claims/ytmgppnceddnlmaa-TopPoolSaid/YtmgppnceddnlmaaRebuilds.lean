/- Law ArrayRebuilds: the walk of the good way. -/
import Derived.Test.YtmgppnceddnlmaaHoldB
import Derived.Test.YtmgppnceddnlmaaTwo
import Derived.Test.YtmgppnceddnlmaaThree
import Derived.Test.YtmgppnceddnlmaaOpen
namespace Go.Proofs.Ytmgppnceddnlmaa
open Go.RowKit

/-- All disks work, and are built. -/
structure Fresh (s : St) (n rows0 size0 : Nat) : Prop where
  n : s.n = n
  rows : s.rows = rows0
  size : s.size = size0
  failed : ∀ d, s.failed d = false
  built : ∀ d, s.built d = rows0
theorem fresh_new (n rows size : Nat) : Fresh (St.new n rows size) n rows size := ⟨rfl, rfl, rfl, fun _ => rfl, fun _ => rfl⟩
theorem Fresh.cell {s : St} {n rows size : Nat} (h : Fresh s n rows size) (C : Nat → Nat → Blk) : Fresh { s with cell := C } n rows size := ⟨h.n, h.rows, h.size, h.failed, h.built⟩
theorem Fresh.lost {s : St} {n rows size : Nat} (h : Fresh s n rows size) (d row : Nat) (hr : row < rows) : s.lost d row = false := by
  rw [St.lost, h.failed, h.built, Bool.false_or]
  exact decide_eq_false (by omega)
theorem Fresh.whole {s : St} {n rows size : Nat} (h : Fresh s n rows size) (row : Nat) (hr : row < rows) : Whole s row := fun d _ => h.lost d row hr
theorem lostN_zero {s : St} {row : Nat} (h : ∀ d, d < s.n → s.lost d row = false) : s.lostN row = 0 := by
  rw [St.lostN, List.length_eq_zero_iff, List.filter_eq_nil_iff]
  intro d hd
  rw [h d (by simpa using hd)]
  decide
theorem Fresh.few {s : St} {n rows size : Nat} (h : Fresh s n rows size) : Few s := fun row hr => by
  rw [lostN_zero fun d _ => h.lost d row (by rw [← h.rows]; exact hr)]
  omega
/-- What a whole row that holds data has. -/
theorem whole_parts {s : St} {row : Nat} {data : List Blk} (h : Whole s row) (hr : HoldsRow s row data) : s.parts row = rowOf data := by
  have hl := hr.len
  refine list_ext_getD (d := []) s.n (parts_length s row) (by rw [rowOf_length]; omega) fun i hi => ?_
  rw [h.parts i hi]
  exact hr.cell i hi (h _ (lay_lt _ _ _ (by omega)))

end Go.Proofs.Ytmgppnceddnlmaa
