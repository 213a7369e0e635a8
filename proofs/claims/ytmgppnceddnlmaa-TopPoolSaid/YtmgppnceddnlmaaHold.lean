/- Plain law: what a row of disks holds; no two rows that hold are alike but in two places; reads, writes, failures, new disks and scrubs keep what is held. -/
import Derived.Test.YtmgppnceddnlmaaArrC
import Derived.Test.YtmgppnceddnlmaaScrub
import Derived.Test.YtmgppnceddnlmaaHeal
namespace Go.Proofs.Ytmgppnceddnlmaa

/-- Two places are lost. -/
def lostTwo (n i k : Nat) : List Bool := ((List.replicate n false).set i true).set k true
theorem lostTwo_length (n i k : Nat) : (lostTwo n i k).length = n := by simp [lostTwo]
theorem lostTwo_getD (n i k j : Nat) (hi : i < n) (hk : k < n) : (lostTwo n i k).getD j false = (decide (j = k) || decide (j = i)) := by
  unfold lostTwo
  rw [getD_set _ _ _ _ _ (by simpa using hk), getD_set _ _ _ _ _ (by simpa using hi)]
  by_cases e1 : j = k
  · simp [e1]
  · by_cases e2 : j = i
    · simp [e2]
    · simp only [e1, e2, if_false, decide_false, Bool.or_self]
      rw [List.getD_eq_getElem?_getD, List.getElem?_replicate]
      split <;> rfl
theorem lostTwo_gone (n i k : Nat) (hi : i < n) (hk : k < n) : (goneOf n (lostTwo n i k)).length ≤ 2 := by
  have hsub : ∀ x, x ∈ goneOf n (lostTwo n i k) → x ∈ [i, k] := by
    intro x hx
    have := (mem_gone.1 hx).2
    rw [lostTwo_getD n i k x hi hk] at this
    simp at this
    simp [this.symm]
  have hnd := gone_nodup n (lostTwo n i k)
  generalize goneOf n (lostTwo n i k) = l at *
  match l, hnd, hsub with
  | [], _, _ => simp
  | [_], _, _ => simp
  | [_, _], _, _ => simp
  | a :: b :: c :: r, hnd, hsub =>
    have ha := hsub a (by simp)
    have hb := hsub b (by simp)
    have hc := hsub c (by simp)
    simp at ha hb hc hnd
    omega

/-- Two rows that hold, alike but in two places, are alike. -/
theorem row_unique {m : Nat} {data data' : List Blk} (h : Uni m data) (h' : Uni m data') (hd : data ≠ []) (hten : data.length ≤ 10) (hl : data'.length = data.length) (i k : Nat) (hi : i < data.length + 2) (hk : k < data.length + 2)
    (hag : ∀ j, j < data.length + 2 → j ≠ i → j ≠ k → (rowOf data).getD j [] = (rowOf data').getD j []) : rowOf data = rowOf data' := by
  have hd' : data' ≠ [] := by
    intro e
    rw [e] at hl
    exact hd (List.eq_nil_of_length_eq_zero hl.symm)
  have a1 := heal_good h hd hten (rowOf data) (lostTwo (data.length + 2) i k) (rowOf_length data) (lostTwo_length _ _ _) (fun _ _ _ => rfl) (lostTwo_gone _ _ _ hi hk)
  have a2 := heal_good h' hd' (by omega) (rowOf data) (lostTwo (data.length + 2) i k) (by rw [rowOf_length]; omega) (by rw [lostTwo_length]; omega) (fun j hj hx => by
    rw [lostTwo_getD _ _ _ _ hi hk] at hx
    simp at hx
    exact hag j (by omega) hx.2 hx.1) (by rw [hl]; exact lostTwo_gone _ _ _ hi hk)
  exact a1.symm.trans a2
theorem rowOf_inj {data data' : List Blk} (hl : data'.length = data.length) (h : rowOf data = rowOf data') : data = data' := by
  have := congrArg (List.take data.length) h
  unfold rowOf at this
  rwa [List.take_left' rfl, ← hl, List.take_left' rfl] at this

/-- A row of an array holds this data: what is not lost is as it is with their P and Q. -/
structure HoldsRow (s : St) (row : Nat) (data : List Blk) : Prop where
  len : data.length + 2 = s.n
  uni : Uni s.size data
  cell : ∀ i, i < s.n → s.lost (lay s.n row i) row = false → s.cell (lay s.n row i) row = (rowOf data).getD i []

namespace HoldsRow
variable {s : St} {row : Nat} {data : List Blk}
theorem ne (h : HoldsRow s row data) (ok : s.Ok) : data ≠ [] := by
  intro e
  have h1 := h.len
  have h2 := ok.n3
  rw [e] at h1
  simp at h1
  omega
theorem ten (h : HoldsRow s row data) (ok : s.Ok) : data.length ≤ 10 := by
  have h1 := h.len
  have h2 := ok.n10
  omega
theorem healed (h : HoldsRow s row data) (ok : s.Ok) (hk : s.lostN row ≤ 2) : healS (s.parts row) (s.losts row) = rowOf data := by
  have hl := h.len
  have hn := ok.n3
  refine heal_good h.uni (h.ne ok) (h.ten ok) _ _ (by rw [parts_length]; omega) (by rw [losts_length]; omega) (fun i hi hx => ?_) ?_
  · rw [losts_getD s row i (by omega)] at hx
    rw [parts_getD s row i (by omega), St.part, hx]
    exact h.cell i (by omega) hx
  · rw [hl, lostN_gone s row (by omega)]
    exact hk
theorem healE (h : HoldsRow s row data) (ok : s.Ok) (hr : row < s.rows) (hk : s.lostN row ≤ 2) : healE (s.parts row) (s.losts row) = (rowOf data, 0) := by
  rw [heal_row ok hr, if_neg (by omega), h.healed ok hk]
end HoldsRow

/-- An array holds these data. -/
def Holds (s : St) (D : Nat → List Blk) : Prop := ∀ row, row < s.rows → HoldsRow s row (D row)
/-- In no row more than two are lost. -/
def Few (s : St) : Prop := ∀ row, row < s.rows → s.lostN row ≤ 2

/-- Block b of the data. -/
def blockOf (s : St) (D : Nat → List Blk) (b : Nat) : Blk := (D (b / (s.n - 2))).getD (b % (s.n - 2)) []

theorem read_holds {s : St} {D : Nat → List Blk} (ok : s.Ok) (h : Holds s D) (hf : Few s) (b : Nat) (hb : b < s.rows * (s.n - 2)) : s.read b = (blockOf s D b, 0) := by
  have hn := ok.n3
  have hrow : b / (s.n - 2) < s.rows := (Nat.div_lt_iff_lt_mul (by omega)).2 hb
  have him := Nat.mod_lt b (show s.n - 2 > 0 by omega)
  have hR := h _ hrow
  have hl := hR.len
  rw [St.read, if_neg (by omega)]
  simp only [Int.toNat_natCast]
  cases hx : s.lost (lay s.n (b / (s.n - 2)) (b % (s.n - 2))) (b / (s.n - 2)) with
  | false =>
    rw [if_pos rfl, hR.cell _ (by omega) hx, rowOf_data _ _ (by omega)]
    rfl
  | true =>
    rw [if_neg (by decide), hR.healE ok hrow (hf _ hrow), if_neg (fun q => q rfl)]
    simp only
    rw [rowOf_data _ _ (by omega)]
    rfl

/-! ### writes -/
theorem putTo_cell (s : St) (row : Nat) (l : List Blk) (j i : Nat) (hj : j ≤ s.n) (hi : i < s.n) (hl : s.lost (lay s.n row i) row = false) :
    (s.putTo row l j).cell (lay s.n row i) row = if i < j then l.getD i [] else s.cell (lay s.n row i) row := by
  induction j with
  | zero => simp [St.putTo]
  | succ j ih =>
    rw [St.putTo]
    by_cases e : i = j
    · subst e
      rw [if_neg (by rw [hl]; decide), if_pos (by omega)]
      show (if lay s.n row i = lay s.n row i ∧ row = row then l.getD i [] else _) = _
      rw [if_pos ⟨rfl, rfl⟩]
    · have hne : lay s.n row i ≠ lay s.n row j := fun x => e (lay_inj s.n row i j hi (by omega) x)
      have key : (if s.lost (lay s.n row j) row = true then s.putTo row l j else (s.putTo row l j).setCell (lay s.n row j) row (l.getD j [])).cell (lay s.n row i) row = (s.putTo row l j).cell (lay s.n row i) row := by
        split
        · rfl
        · show (if lay s.n row i = lay s.n row j ∧ row = row then l.getD j [] else _) = _
          rw [if_neg (fun x => hne x.1)]
      rw [key, ih (by omega)]
      by_cases c : i < j
      · rw [if_pos c, if_pos (by omega)]
      · rw [if_neg c, if_neg (by omega)]
theorem putTo_other (s : St) (row : Nat) (l : List Blk) (j d r : Nat) (hr : r ≠ row) : (s.putTo row l j).cell d r = s.cell d r := by
  induction j with
  | zero => rfl
  | succ j ih =>
    rw [St.putTo]
    split
    · exact ih
    · show (if d = lay s.n row j ∧ r = row then _ else (s.putTo row l j).cell d r) = _
      rw [if_neg (fun x => hr x.2), ih]

def updD (D : Nat → List Blk) (row : Nat) (x : List Blk) : Nat → List Blk := fun r => if r = row then x else D r

theorem write_holds {s : St} {D : Nat → List Blk} (ok : s.Ok) (h : Holds s D) (hf : Few s) (b : Nat) (hb : b < s.rows * (s.n - 2)) (x : Blk) (hx : x.length = s.size) :
    ∃ C, s.write b x = ({ s with cell := C }, 0) ∧ St.Ok { s with cell := C } ∧ Holds { s with cell := C } (updD D (b / (s.n - 2)) ((D (b / (s.n - 2))).set (b % (s.n - 2)) x)) := by
  have hn := ok.n3
  have hrow : b / (s.n - 2) < s.rows := (Nat.div_lt_iff_lt_mul (by omega)).2 hb
  have him := Nat.mod_lt b (show s.n - 2 > 0 by omega)
  have hR := h _ hrow
  have hl := hR.len
  have hw : s.write b x = (s.putRow (b / (s.n - 2)) (rowWith (rowOf (D (b / (s.n - 2)))) (b % (s.n - 2)) x), 0) := by
    rw [St.write, if_neg (by omega), if_neg (by omega)]
    simp only [Int.toNat_natCast]
    rw [hR.healE ok hrow (hf _ hrow), if_neg (fun q => q rfl)]
  have hrw : rowWith (rowOf (D (b / (s.n - 2)))) (b % (s.n - 2)) x = rowOf ((D (b / (s.n - 2))).set (b % (s.n - 2)) x) := by
    unfold rowWith
    rw [rowOf_length]
    have e : ((rowOf (D (b / (s.n - 2)))).set (b % (s.n - 2)) x).take ((D (b / (s.n - 2))).length + 2 - 2) = (D (b / (s.n - 2))).set (b % (s.n - 2)) x := by
      rw [rowOf, List.set_append_left _ _ (by omega), show (D (b / (s.n - 2))).length + 2 - 2 = ((D (b / (s.n - 2))).set (b % (s.n - 2)) x).length by simp, List.take_left' rfl]
    rw [e]
    rfl
  rw [hrw] at hw
  generalize hdd : D (b / (s.n - 2)) = dat at *
  generalize hq : b / (s.n - 2) = row at *
  generalize b % (s.n - 2) = i at *
  have hu : Uni s.size (dat.set i x) := hR.uni.set i hx
  have hne : dat.set i x ≠ [] := set_ne_nil (hR.ne ok) i x
  obtain ⟨C, hC⟩ := putTo_shape s row (rowOf (dat.set i x)) s.n
  have hok : (s.putTo row (rowOf (dat.set i x)) s.n).Ok := ok.putTo row _ s.n fun j hj => (rowOf_uni hu hne).getD (by rw [rowOf_length]; simp; omega)
  refine ⟨C, by rw [hw, St.putRow, hC], by rw [← hC]; exact hok, ?_⟩
  intro r hr
  by_cases e : r = row
  · subst e
    unfold updD
    rw [if_pos rfl]
    refine ⟨by simpa using hl, hu, fun j hj hlost => ?_⟩
    have := putTo_cell s r (rowOf (dat.set i x)) s.n j (Nat.le_refl _) hj hlost
    rw [if_pos hj, hC] at this
    exact this
  · unfold updD
    rw [if_neg e]
    have hRr := h r hr
    refine ⟨hRr.len, hRr.uni, fun j hj hlost => ?_⟩
    have := putTo_other s row (rowOf (dat.set i x)) s.n (lay s.n r j) r e
    rw [hC] at this
    exact this.trans (hRr.cell j hj hlost)

end Go.Proofs.Ytmgppnceddnlmaa
