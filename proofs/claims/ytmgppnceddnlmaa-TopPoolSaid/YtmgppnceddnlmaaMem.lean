/- What memory says: a slice whose cells read as a list ('Sl'), carried over every world in which what was there still stands; errors as values. -/
import Derived.WalkKit
import Derived.WalkLawsBesides
import Derived.WalkSpells
import Derived.Lib.Hide
import Derived.Test.YtmgppnceddnlmaaSpec
import Derived.Test.YtmgppnceddnlmaaProg
namespace Go.Proofs.Ytmgppnceddnlmaa
open Go.RowKit

/-- A block as a value. -/
abbrev Str (b : Blk) : Value := .string ⟨b.toArray⟩
abbrev Byt (u : UInt8) : Value := .int .u8 (u.toNat : Int)
abbrev Num (n : Nat) : Value := .int .i64 (n : Int)
/-- An error as a value: of number 0 nil. -/
def errV (n : Nat) : Value := if n = 0 then .nilIface else .iface 64 (.int .i64 (n : Int))
theorem errV_zero : errV 0 = .nilIface := rfl
theorem errV_pos (n : Nat) (h : 0 < n) : errV n = .iface 64 (.int .i64 (n : Int)) := by rw [errV, if_neg (by omega)]

theorem ret_val {a b : Value} (h : a = b) : Ending.returned a = Ending.returned b := by rw [h]

/-- What was there stands as it was. -/
abbrev Ext (w w' : World) : Prop := Below w.heap.size w w'

theorem Ext.refl (w : World) : Ext w w := Below.refl _ _
theorem Ext.trans {a b c : World} (h : Ext a b) (k : Ext b c) : Ext a c := Below.trans h (Below.mono k h.size)
theorem Ext.of_eq {a b : World} (h : a = b) : Ext a b := h ▸ Ext.refl a
theorem Ext.cell {w w' : World} (h : Ext w w') {a : Addr} {v : Value} (hc : w.cell? a = some v) : w'.cell? a = some v :=
  (Below.cell h (World.block_lt_of_cell? w a hc)).trans hc

/-- A slice that reads as a list, each element by 'f'. -/
structure Sl {α : Type} (w : World) (f : α → Value) (a : Option Addr) (n cap : Nat) (xs : List α) : Prop where
  len : xs.length = n
  le : n ≤ cap
  max : cap ≤ maxLen
  cells : 0 < n → ∃ g off, a = some ⟨g, off, none⟩ ∧ ∀ i x, xs[i]? = some x → w.cell? ⟨g, off + i, none⟩ = some (f x)

namespace Sl
variable {α : Type} {w w' : World} {f : α → Value} {a : Option Addr} {n cap : Nat} {xs : List α}
theorem nil (w : World) (f : α → Value) : Sl w f none 0 0 [] := ⟨rfl, Nat.le_refl _, Nat.zero_le _, fun h => absurd h (Nat.lt_irrefl 0)⟩
theorem bound (h : Sl w f a n cap xs) : n ≤ 9223372036854775807 := by
  have := h.le; have := h.max; unfold maxLen at this; omega
theorem carry (h : Sl w f a n cap xs) (k : ∀ p v, w.cell? p = some v → w'.cell? p = some v) : Sl w' f a n cap xs :=
  ⟨h.len, h.le, h.max, fun hn => let ⟨g, off, e, hc⟩ := h.cells hn; ⟨g, off, e, fun i x hx => k _ _ (hc i x hx)⟩⟩
theorem ext (h : Sl w f a n cap xs) (k : Ext w w') : Sl w' f a n cap xs := h.carry fun _ _ hc => k.cell hc
theorem get (h : Sl w f a n cap xs) {i : Nat} (hi : i < n) : ∃ g off x, a = some ⟨g, off, none⟩ ∧ xs[i]? = some x ∧ w.cell? ⟨g, off + i, none⟩ = some (f x) := by
  obtain ⟨g, off, e, hc⟩ := h.cells (by omega)
  have hl : i < xs.length := by rw [h.len]; exact hi
  exact ⟨g, off, xs[i], e, List.getElem?_eq_getElem hl, hc i _ (List.getElem?_eq_getElem hl)⟩
/-- The part of a slice from i to j. -/
theorem sub (h : Sl w f a n cap xs) (i j : Nat) (hij : i ≤ j) (hj : j ≤ n) :
    Sl w f (if cap = i then a else a.map (·.add i)) (j - i) (cap - i) ((xs.take j).drop i) := by
  refine ⟨by have := h.len; simp; omega, by have := h.le; omega, by have := h.max; omega, fun hn => ?_⟩
  obtain ⟨g, off, e, hc⟩ := h.cells (by omega)
  have hci : ¬ cap = i := by have := h.le; omega
  refine ⟨g, off + i, ?_, fun k x hx => ?_⟩
  · rw [if_neg hci, e]
    simp only [Option.map_some, Addr.add]
    split
    · rename_i h0; subst h0; rfl
    · rfl
  · rw [List.getElem?_drop, List.getElem?_take] at hx
    split at hx
    · have := hc (i + k) x hx
      rwa [Nat.add_assoc]
    · cases hx
end Sl

/-- A row that the call owns, read as a slice. -/
theorem sl_of_owns {α : Type} {w : World} {f : α → Value} {base e : Nat} {v : Value} {n : Nat} {xs : List α}
    (h : w.ownsRow base e 1 v n (xs.map f)) : ∃ a cap, v = .slice a n cap ∧ Sl w f a n cap xs := by
  obtain ⟨h1, h2⟩ := h
  have hl : xs.length = n := by simpa using h1
  rcases h2 with ⟨rfl, rfl⟩ | ⟨g, cap, cur, rfl, hb, hg, hn, hm, hs, ht⟩
  · have : xs = [] := List.eq_nil_of_length_eq_zero hl
    subst this
    exact ⟨none, 0, rfl, Sl.nil w f⟩
  · refine ⟨_, cap, rfl, ⟨hl, hn, hm, fun _ => ⟨g, 0, rfl, fun i x hx => ?_⟩⟩⟩
    have hi : i < n := by
      rw [← hl]
      exact (List.getElem?_eq_some_iff.1 hx).1
    rw [Nat.zero_add, cell_of_row w g i cur e (0, 0) hg]
    have : (cur.toList.take (n * 1))[i]? = some (f x) := by rw [ht, List.getElem?_map, hx]; rfl
    rw [List.getElem?_take, if_pos (by omega)] at this
    simpa using this

theorem sl_of_owns_at {α : Type} {w : World} {f : α → Value} {base e : Nat} {v : Value} {n : Nat} {xs : List α}
    (h : w.ownsRow base e 1 v n (xs.map f)) : ∃ a cap, v = .slice a n cap ∧ Sl w f a n cap xs ∧ ∀ x, a = some x → base ≤ x.block := by
  obtain ⟨a, cap, rfl, hs⟩ := sl_of_owns h
  refine ⟨a, cap, rfl, hs, fun x hx => ?_⟩
  subst hx
  exact (h.lt x.block rfl).1

/-! ### Rows of the call's own -/
/-- Block g is this row of cells, none of them frozen. -/
def Row (w : World) (g e : Nat) (xs : Array Value) : Prop := w.heap[g]? = some (.cells xs e (0, 0))

namespace Row
variable {w w' : World} {g e : Nat} {xs : Array Value}
theorem new (w : World) (C : Array Value) (e : Nat) : Row (w.alloc (.cells C e)) w.heap.size e C := heap_alloc_new w _
theorem lt (h : Row w g e xs) : g < w.heap.size := (Array.getElem?_eq_some_iff.1 h).1
theorem below {B : Nat} (h : Row w g e xs) (k : Below B w w') (hg : g < B) : Row w' g e xs := (k.block g hg).trans h
theorem ext (h : Row w g e xs) (k : Ext w w') : Row w' g e xs := h.below k h.lt
theorem alloc (h : Row w g e xs) (o : Obj) : Row (w.alloc o) g e xs := (Below.heap_alloc w o g h.lt).trans h
theorem cell (h : Row w g e xs) (i : Nat) : w.cell? ⟨g, i, none⟩ = xs[i]? := cell_of_row w g i xs e (0, 0) h
theorem free (h : Row w g e xs) (i : Nat) : w.frozen? ⟨g, i, none⟩ = false := by
  unfold Row at h
  unfold World.frozen?
  rw [h]
  simp
theorem set (h : Row w g e xs) (i : Nat) (v : Value) : Row (w.setCell ⟨g, i, none⟩ v) g e (xs.setIfInBounds i v) := by
  unfold Row at h ⊢
  simp only [World.setCell, Array.getElem?_modify, if_true, h]
  rfl
theorem set_ne (h : Row w g e xs) (a : Addr) (hne : g ≠ a.block) (v : Value) : Row (w.setCell a v) g e xs := (Below.heap_setCell w a v g hne).trans h
end Row

theorem sl_row {α : Type} {w : World} {f : α → Value} {g e n : Nat} (xs : List α) (h : Row w g e (xs.map f).toArray) (hn : xs.length = n) (hm : n ≤ maxLen) : Sl w f (some ⟨g, 0, none⟩) n n xs :=
  ⟨hn, Nat.le_refl _, hm, fun _ => ⟨g, 0, rfl, fun i x hx => by rw [Nat.zero_add, h.cell]; simp [hx]⟩⟩

/-- Block g begins with these cells; none of it is frozen. -/
def Pre (w : World) (g e : Nat) (xs : List Value) : Prop := ∃ rest : Array Value, Row w g e (xs.toArray ++ rest)

namespace Pre
variable {w w' : World} {g e : Nat} {xs : List Value}
theorem of_row (h : Row w g e xs.toArray) : Pre w g e xs := ⟨#[], by simpa using h⟩
theorem lt (h : Pre w g e xs) : g < w.heap.size := let ⟨_, r⟩ := h; r.lt
theorem below {B : Nat} (h : Pre w g e xs) (k : Below B w w') (hg : g < B) : Pre w' g e xs := let ⟨c, r⟩ := h; ⟨c, r.below k hg⟩
theorem ext (h : Pre w g e xs) (k : Ext w w') : Pre w' g e xs := let ⟨c, r⟩ := h; ⟨c, r.ext k⟩
theorem grown {r : Nat} (h : Pre w g e xs) (k : w.grownBy w' (some r)) (hne : g ≠ r) : Pre w' g e xs :=
  let ⟨c, q⟩ := h; ⟨c, (k.block g q.lt (fun e => hne (Option.some.inj e))).trans q⟩
theorem alloc (h : Pre w g e xs) (o : Obj) : Pre (w.alloc o) g e xs := let ⟨c, r⟩ := h; ⟨c, r.alloc o⟩
theorem drew (h : Pre w g e xs) : Pre w.drew g e xs := h
theorem cell (h : Pre w g e xs) {i : Nat} {v : Value} (hi : xs[i]? = some v) : w.cell? ⟨g, i, none⟩ = some v := by
  obtain ⟨c, r⟩ := h
  have hl : i < xs.length := (List.getElem?_eq_some_iff.1 hi).1
  rw [r.cell, Array.getElem?_append_left (by simpa using hl)]
  simpa using hi
theorem free (h : Pre w g e xs) (i : Nat) : w.frozen? ⟨g, i, none⟩ = false := let ⟨_, r⟩ := h; r.free i
theorem set (h : Pre w g e xs) (i : Nat) (hi : i < xs.length) (v : Value) : Pre (w.setCell ⟨g, i, none⟩ v) g e (xs.set i v) := by
  obtain ⟨c, r⟩ := h
  refine ⟨c, ?_⟩
  have := r.set i v
  rw [show (xs.set i v).toArray ++ c = (xs.toArray ++ c).setIfInBounds i v from ?_]
  · exact this
  · apply Array.ext'
    simp [List.set_append_left _ _ hi]
theorem set_ne (h : Pre w g e xs) (a : Addr) (hne : g ≠ a.block) (v : Value) : Pre (w.setCell a v) g e xs := let ⟨c, r⟩ := h; ⟨c, r.set_ne a hne v⟩
theorem of_owns {base n cap : Nat} (h : w.ownsRow base e 1 (.slice (some ⟨g, 0, none⟩) n cap) n xs) : Pre w g e xs := by
  obtain ⟨h1, h2⟩ := h
  rcases h2 with ⟨h2, _⟩ | ⟨g', cap', cur, hv, hb, hg, hn, hm, hs, ht⟩
  · cases h2
  · simp only [Value.slice.injEq, Option.some.injEq, Addr.mk.injEq, and_true, true_and] at hv
    obtain ⟨rfl, rfl⟩ := hv
    refine ⟨(cur.toList.drop (n * 1)).toArray, ?_⟩
    rw [← ht]
    rw [show (cur.toList.take (n * 1)).toArray ++ (cur.toList.drop (n * 1)).toArray = cur from by apply Array.ext'; simp]
    exact hg
theorem sl {α : Type} {f : α → Value} {l : List α} (h : Pre w g e (l.map f)) {n cap : Nat} (hn : l.length = n) (hc : n ≤ cap) (hm : cap ≤ maxLen) : Sl w f (some ⟨g, 0, none⟩) n cap l :=
  ⟨hn, hc, hm, fun _ => ⟨g, 0, rfl, fun i x hx => by rw [Nat.zero_add]; exact h.cell (by rw [List.getElem?_map, hx]; rfl)⟩⟩
/-- The beginning of it as a slice. -/
theorem sl_left {α : Type} {f : α → Value} {l r : List α} (h : Pre w g e ((l ++ r).map f)) {n cap : Nat} (hn : l.length = n) (hc : n ≤ cap) (hm : cap ≤ maxLen) : Sl w f (some ⟨g, 0, none⟩) n cap l :=
  ⟨hn, hc, hm, fun _ => ⟨g, 0, rfl, fun i x hx => by
    rw [Nat.zero_add]
    exact h.cell (by rw [List.getElem?_map, List.getElem?_append_left (List.getElem?_eq_some_iff.1 hx).1, hx]; rfl)⟩⟩
end Pre

theorem grownBy_refl (w : World) (r : Option Nat) : w.grownBy w r := ⟨rfl, rfl, rfl, Nat.le_refl _, fun _ _ _ => rfl⟩
theorem grownBy_trans {a b c : World} {r : Option Nat} (h : a.grownBy b r) (k : b.grownBy c r) : a.grownBy c r :=
  ⟨k.os.trans h.os, k.tape.trans h.tape, k.output.trans h.output, Nat.le_trans h.size k.size, fun i hi hr => (k.block i (Nat.lt_of_lt_of_le hi h.size) hr).trans (h.block i hi hr)⟩
theorem grownBy_ext {a b : World} (h : Ext a b) (r : Option Nat) : a.grownBy b r := ⟨h.os, h.tape, h.output, h.size, fun i hi _ => h.block i hi⟩
theorem grownBy_setCell (w : World) (a : Addr) (v : Value) : w.grownBy (w.setCell a v) (some a.block) :=
  ⟨rfl, rfl, rfl, by simp, fun i _ hr => Below.heap_setCell w a v i (fun e => hr (by rw [e]))⟩
theorem grownBy_drew {a b : World} {r : Option Nat} (h : a.grownBy b r) : a.grownBy b.drew r := ⟨h.os, h.tape, h.output, h.size, h.block⟩
theorem Sl.grown {α : Type} {w w' : World} {f : α → Value} {a : Option Addr} {n cap : Nat} {xs : List α} {r : Nat} (h : Sl w f a n cap xs) (k : w.grownBy w' (some r)) (hne : ∀ x, a = some x → x.block ≠ r) : Sl w' f a n cap xs :=
  ⟨h.len, h.le, h.max, fun hn => let ⟨g, off, e, hc⟩ := h.cells hn; ⟨g, off, e, fun i x hx => k.cell (hc i x hx) (fun e2 => hne _ e (Option.some.inj e2))⟩⟩

/-- Bytes as cells. -/
def rowB (l : Blk) : Array Value := (l.map Byt).toArray
theorem rowB_get (l : Blk) (i : Nat) (u : UInt8) (h : l[i]? = some u) : (rowB l)[i]? = some (Byt u) := by simp [rowB, h]
theorem rowB_size (l : Blk) : (rowB l).size = l.length := by simp [rowB]
theorem rowB_set (l : Blk) (i : Nat) (u : UInt8) : (rowB l).setIfInBounds i (Byt u) = rowB (l.set i u) := by
  apply Array.ext'
  simp [rowB, List.map_set]

theorem Try.infoByte : (Try.prog.info? 5).map (fun i => (i.zero, i.size, i.bytes)) = some (some (.int .u8 0), 1, 1) := by kernel_rfl
theorem made_bytes (n : Nat) : madeCells (Value.int .u8 0).cells (n * 1) = rowB (zeros n) := by
  apply Array.ext
  · simp [madeCells, rowB, zeros]
  · intro i h1 h2
    have : i < n := by simpa [madeCells] using h1
    simp [madeCells, rowB, zeros, Value.cells, Nat.mod_one]
theorem run_make_bytes (w : World) (n : Nat) (h : n ≤ 1099511627776) :
    (Instr.makeSlice 70 (.int .i64 (n : Int)) (.int .i64 (n : Int))).run Try.prog w = .ok (.slice (some ⟨w.heap.size, 0, none⟩) n n) (w.alloc (.cells (rowB (zeros n)) 5)) := by
  obtain ⟨i, hi, hz0, hz1, hz2⟩ := info_parts Try.infoByte
  have hr := run_make (P := Try.prog) w 70 5 i _ Try.underlying70 hi hz0 .i64 .i64 n n (by omega) (by omega) (by rw [hz2]; omega) (by omega)
  rw [hz1] at hr
  simp only [Int.toNat_natCast] at hr
  rw [hr, made_bytes]

/-- '[]byte(s)': the cells of what it lays. -/
theorem bytesRow_get (b : Blk) (cap i : Nat) (u : UInt8) (h : b[i]? = some u) : (bytesRow ⟨b.toArray⟩ cap)[i]? = some (Byt u) := by
  have hi : i < b.length := (List.getElem?_eq_some_iff.1 h).1
  have hs : i < (b.toArray.map (fun b => Value.int .u8 (b.toNat : Int))).size := by simpa using hi
  simp only [bytesRow]
  rw [Array.getElem?_append_left hs]
  simp [h]

end Go.Proofs.Ytmgppnceddnlmaa
