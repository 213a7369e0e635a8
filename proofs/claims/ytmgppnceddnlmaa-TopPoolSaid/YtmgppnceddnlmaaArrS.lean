/- Plain facts about the state of an array, and how its memory turns with it. -/
import Derived.Test.YtmgppnceddnlmaaArrB
import Derived.Test.YtmgppnceddnlmaaHealE
namespace Go.Proofs.Ytmgppnceddnlmaa
open Go.RowKit

/-! ### moves keep what they don't touch -/
theorem putTo_shape (s : St) (row : Nat) (l : List Blk) (j : Nat) : ∃ C, s.putTo row l j = { s with cell := C } := by
  induction j with
  | zero => exact ⟨s.cell, rfl⟩
  | succ j ih =>
    obtain ⟨C, hC⟩ := ih
    rw [St.putTo]
    split
    · exact ⟨C, hC⟩
    · rw [hC]; exact ⟨_, rfl⟩
theorem bldTo_shape (s : St) (d row : Nat) (l : List Blk) (j : Nat) : ∃ C, s.bldTo d row l j = { s with cell := C } := by
  induction j with
  | zero => exact ⟨s.cell, rfl⟩
  | succ j ih =>
    obtain ⟨C, hC⟩ := ih
    rw [St.bldTo]
    split
    · rw [hC]; exact ⟨_, rfl⟩
    · exact ⟨C, hC⟩

section
variable (s : St) (row : Nat) (l : List Blk) (j d r : Nat)
theorem putTo_n : (s.putTo row l j).n = s.n := by obtain ⟨C, h⟩ := putTo_shape s row l j; rw [h]
theorem putTo_rows : (s.putTo row l j).rows = s.rows := by obtain ⟨C, h⟩ := putTo_shape s row l j; rw [h]
theorem putTo_size : (s.putTo row l j).size = s.size := by obtain ⟨C, h⟩ := putTo_shape s row l j; rw [h]
theorem putTo_failed : (s.putTo row l j).failed = s.failed := by obtain ⟨C, h⟩ := putTo_shape s row l j; rw [h]
theorem putTo_built : (s.putTo row l j).built = s.built := by obtain ⟨C, h⟩ := putTo_shape s row l j; rw [h]
theorem putTo_lost : (s.putTo row l j).lost d r = s.lost d r := by obtain ⟨C, h⟩ := putTo_shape s row l j; rw [h]; rfl
theorem bldTo_n : (s.bldTo d row l j).n = s.n := by obtain ⟨C, h⟩ := bldTo_shape s d row l j; rw [h]
theorem bldTo_rows : (s.bldTo d row l j).rows = s.rows := by obtain ⟨C, h⟩ := bldTo_shape s d row l j; rw [h]
theorem bldTo_size : (s.bldTo d row l j).size = s.size := by obtain ⟨C, h⟩ := bldTo_shape s d row l j; rw [h]
theorem bldTo_failed : (s.bldTo d row l j).failed = s.failed := by obtain ⟨C, h⟩ := bldTo_shape s d row l j; rw [h]
theorem bldTo_built : (s.bldTo d row l j).built = s.built := by obtain ⟨C, h⟩ := bldTo_shape s d row l j; rw [h]
theorem bldTo_lost (k : Nat) : (s.bldTo d row l j).lost k r = s.lost k r := by obtain ⟨C, h⟩ := bldTo_shape s d row l j; rw [h]; rfl
end

/-! ### St.Ok is kept -/
theorem St.Ok.setCell {s : St} (h : s.Ok) (d row : Nat) (b : Blk) (hb : b.length = s.size) : (s.setCell d row b).Ok where
  n3 := h.n3
  n10 := h.n10
  r1 := h.r1
  r20 := h.r20
  s1 := h.s1
  s16 := h.s16
  built := h.built
  len := fun d' r' hd hr hl => by
    show (if d' = d ∧ r' = row then b else s.cell d' r').length = s.size
    split
    · exact hb
    · exact h.len d' r' hd hr hl
theorem St.Ok.setFailed {s : St} (h : s.Ok) (d : Nat) : (s.setFailed d true).Ok where
  n3 := h.n3
  n10 := h.n10
  r1 := h.r1
  r20 := h.r20
  s1 := h.s1
  s16 := h.s16
  built := h.built
  len := fun d' r' hd hr hl => by
    refine h.len d' r' hd hr ?_
    simp only [St.lost, St.setFailed, Bool.or_eq_false_iff, decide_eq_false_iff_not] at hl ⊢
    refine ⟨?_, of_decide_eq_false hl.2⟩
    split at hl
    · cases hl.1
    · exact hl.1
theorem St.Ok.replaced {s : St} (h : s.Ok) (d : Nat) : ((s.setFailed d false).setBuilt d 0).Ok where
  n3 := h.n3
  n10 := h.n10
  r1 := h.r1
  r20 := h.r20
  s1 := h.s1
  s16 := h.s16
  built := fun d' => by
    show (if d' = d then 0 else s.built d') ≤ s.rows
    split
    · omega
    · exact h.built d'
  len := fun d' r' hd hr hl => by
    refine h.len d' r' hd hr ?_
    simp only [St.lost, St.setFailed, St.setBuilt, Bool.or_eq_false_iff, decide_eq_false_iff_not] at hl ⊢
    by_cases e : d' = d
    · subst e
      simp at hl
    · simp only [if_neg e] at hl
      exact ⟨hl.1, of_decide_eq_false hl.2⟩
theorem St.Ok.putTo {s : St} (h : s.Ok) (row : Nat) (l : List Blk) (j : Nat) (hl : ∀ i, i < j → (l.getD i []).length = s.size) : (s.putTo row l j).Ok := by
  induction j with
  | zero => exact h
  | succ j ih =>
    have h1 := ih fun i hi => hl i (by omega)
    rw [St.putTo]
    split
    · exact h1
    · exact h1.setCell _ _ _ (by rw [putTo_size]; exact hl j (by omega))
theorem St.Ok.bldTo {s : St} (h : s.Ok) (d row : Nat) (l : List Blk) (j : Nat) (hl : ∀ i, i < j → (l.getD i []).length = s.size) : (s.bldTo d row l j).Ok := by
  induction j with
  | zero => exact h
  | succ j ih =>
    have h1 := ih fun i hi => hl i (by omega)
    rw [St.bldTo]
    split
    · exact h1.setCell _ _ _ (by rw [bldTo_size]; exact hl j (by omega))
    · exact h1

theorem parts_getD (s : St) (row i : Nat) (hi : i < s.n) : (s.parts row).getD i [] = s.part row (lay s.n row i) := by
  simp [St.parts, order, List.getD_eq_getElem?_getD, hi]
theorem losts_getD (s : St) (row i : Nat) (hi : i < s.n) : (s.losts row).getD i false = s.lost (lay s.n row i) row := by
  simp [St.losts, order, List.getD_eq_getElem?_getD, hi]

theorem haveOf_all (P : Blk → Prop) : ∀ (l : List Blk) (x : List Bool), (∀ i, i < l.length → x.getD i false = false → P (l.getD i [])) → ∀ b, b ∈ haveOf l x → P b
  | [], x, _, b, hb => by cases x <;> simp [haveOf] at hb
  | _ :: _, [], _, b, hb => by simp [haveOf] at hb
  | a :: l, t :: x, h, b, hb => by
    have ih := haveOf_all P l x (fun i hi hx => by simpa using h (i + 1) (by simp; omega) (by simpa using hx)) b
    cases t with
    | true => rw [haveOf, if_pos rfl] at hb; exact ih hb
    | false =>
      rw [haveOf, if_neg (by decide)] at hb
      rcases List.mem_cons.1 hb with rfl | hb
      · simpa using h 0 (by simp) (by simp)
      · exact ih hb

theorem blocksE_of_uni {n : Nat} {l : List Blk} (h : Uni n l) (hn : n ≤ 16) : blocksE l = 0 := by
  cases l with
  | nil => rfl
  | cons a l =>
    have hb := h.size (List.cons_ne_nil a l)
    unfold blocksE
    rw [if_neg, if_neg]
    · omega
    · rw [hb]
      simp only [List.any_eq_true, not_exists, not_and, bne_iff_ne, ne_eq, Decidable.not_not]
      exact fun b hbm => h b hbm

/-- What heals of parts of one length has that length. -/
theorem healS_uni (n : Nat) (parts : List Blk) (lost : List Bool) (h3 : 3 ≤ parts.length) (hlen : lost.length = parts.length)
    (hu : ∀ i, i < parts.length → lost.getD i false = false → (parts.getD i []).length = n) (hl : lastLen parts lost 0 = n) : Uni n (healS parts lost) := by
  have hc : Uni n (cleaned parts lost n) := by
    intro b hb
    obtain ⟨i, hi, rfl⟩ := List.getElem_of_mem hb
    have hi' : i < parts.length := by rwa [cleaned_length] at hi
    have e := cleaned_getD parts lost n i hlen.symm hi'
    rw [List.getD_eq_getElem?_getD, List.getElem?_eq_getElem hi, Option.getD_some] at e
    rw [e]
    cases hx : lost.getD i false with
    | true => simp [zeros]
    | false => simpa using hu i hi' hx
  have hcl : (cleaned parts lost n).length = parts.length := cleaned_length _ _ _
  have hd : Uni n ((cleaned parts lost n).take (parts.length - 2)) := fun b hb => hc b (List.mem_of_mem_take hb)
  have hne : (cleaned parts lost n).take (parts.length - 2) ≠ [] := by
    intro e
    have := congrArg List.length e
    simp only [List.length_take, hcl, List.length_nil] at this
    omega
  unfold healS
  rw [hl]
  have h2 := healedS_uni hd hne (goneOf (parts.length - 2) lost) ((cleaned parts lost n).getD (parts.length - 2) []) ((cleaned parts lost n).getD (parts.length - 2 + 1) []) (lost.getD (parts.length - 2) false) (lost.getD (parts.length - 2 + 1) false)
  refine rowOf_uni h2.2 fun e => hne ?_
  have := h2.1
  rw [e] at this
  exact List.eq_nil_of_length_eq_zero this.symm

/-! ### the order of a row has each disk once -/
theorem order_split (n row : Nat) (h : 0 < n) : ∃ c, c < n ∧ order n row = List.range' c (n - c) ++ List.range c := by
  have hc := Nat.mod_lt (n - 1 - row % n + 2) h
  generalize hcc : (n - 1 - row % n + 2) % n = c at hc
  refine ⟨c, hc, ?_⟩
  apply List.ext_getElem
  · simp [order]; omega
  · intro i h1 h2
    have hi : i < n := by simpa [order] using h1
    simp only [order, List.getElem_map, List.getElem_range, lay]
    rw [Nat.add_mod, hcc, Nat.mod_eq_of_lt hi]
    by_cases hlt : i < n - c
    · rw [List.getElem_append_left (by simpa using hlt), List.getElem_range', Nat.mod_eq_of_lt (by omega)]
      omega
    · rw [List.getElem_append_right (by simpa using hlt), List.getElem_range]
      rw [show c + i = (c + i - n) + n by omega, Nat.add_mod_right, Nat.mod_eq_of_lt (by omega)]
      simp
      omega
theorem order_perm (n row : Nat) (h : 0 < n) : (order n row).Perm (List.range n) := by
  obtain ⟨c, hc, e⟩ := order_split n row h
  rw [e]
  refine List.perm_append_comm.trans ?_
  rw [List.range_eq_range', List.range_eq_range', show List.range' 0 n = List.range' 0 (c + (n - c)) by rw [show c + (n - c) = n by omega], ← List.range'_append]
  simp
theorem order_nodup (n row : Nat) (h : 0 < n) : (order n row).Nodup := (order_perm n row h).nodup_iff.2 List.nodup_range
theorem lay_inj (n row i j : Nat) (hi : i < n) (hj : j < n) (h : lay n row i = lay n row j) : i = j := by
  have := order_nodup n row (by omega)
  have e1 : (order n row)[i]'(by simp [order]; omega) = lay n row i := by simp [order]
  have e2 : (order n row)[j]'(by simp [order]; omega) = lay n row j := by simp [order]
  exact (List.getElem_inj this).1 (by rw [e1, e2, h])
theorem lay_surj (n row d : Nat) (hd : d < n) : ∃ i, i < n ∧ lay n row i = d := by
  have : d ∈ order n row := (order_perm n row (by omega)).mem_iff.2 (by simpa using hd)
  simpa [order] using this

theorem lostN_gone (s : St) (row : Nat) (h : 0 < s.n) : (goneOf s.n (s.losts row)).length = s.lostN row := by
  unfold St.lostN
  rw [← ((order_perm s.n row h).filter _).length_eq, order, List.filter_map, List.length_map]
  unfold goneOf
  congr 1
  apply List.filter_congr
  intro i hi
  rw [losts_getD s row i (by simpa using hi)]
  rfl

theorem part_len {s : St} (h : s.Ok) {row i : Nat} (hr : row < s.rows) (hi : i < s.n) (hl : (s.losts row).getD i false = false) : ((s.parts row).getD i []).length = s.size := by
  rw [losts_getD s row i hi] at hl
  rw [parts_getD s row i hi, St.part, hl]
  exact h.len _ _ (lay_lt _ _ _ (by omega)) hr hl

/-- What healing says of a row. -/
theorem heal_row {s : St} (h : s.Ok) {row : Nat} (hr : row < s.rows) :
    healE (s.parts row) (s.losts row) = if 2 < s.lostN row then ([], 8) else (healS (s.parts row) (s.losts row), 0) := by
  have hp := parts_length s row
  have hl := losts_length s row
  have hn3 := h.n3
  have hn10 := h.n10
  have hc := haveOf_count (s.parts row) (s.losts row) (by omega)
  rw [hl, lostN_gone s row (by omega), hp] at hc
  have hb : blocksE (haveOf (s.parts row) (s.losts row)) = 0 := blocksE_of_uni (n := s.size)
    (haveOf_all _ _ _ fun i hi hx => part_len h hr (by omega) hx) h.s16
  split
  · rw [healE_8 (by omega) (by omega) (by omega)]
  · rw [healE_0 (by omega) (by omega) (by omega) (by omega)]
theorem heal_uni {s : St} (h : s.Ok) {row : Nat} (hr : row < s.rows) (hk : s.lostN row ≤ 2) : Uni s.size (healS (s.parts row) (s.losts row)) := by
  have hp := parts_length s row
  have hl := losts_length s row
  have hn3 := h.n3
  have hg := lostN_gone s row (by omega)
  refine healS_uni s.size _ _ (by omega) (by omega) (fun i hi hx => part_len h hr (by omega) hx) (lastLen_eq _ _ _ _ (by omega) (fun i hi hx => part_len h hr (by omega) hx) (.inr ?_))
  rw [hp]
  refine Classical.byContradiction fun hno => ?_
  have : goneOf s.n (s.losts row) = List.range s.n := List.filter_eq_self.2 fun i hi => by
    cases hx : (s.losts row).getD i false with
    | true => rfl
    | false => exact absurd ⟨i, by simpa using hi, hx⟩ hno
  rw [this, List.length_range] at hg
  omega

end Go.Proofs.Ytmgppnceddnlmaa
