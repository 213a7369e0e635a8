/- Plain law: failures, new disks, building anew keep what is held; what a scrub finds. -/
import Derived.Test.YtmgppnceddnlmaaHold
namespace Go.Proofs.Ytmgppnceddnlmaa

theorem lostUpto_le_of (s s' : St) (row j : Nat) (h : ∀ d, d < j → s'.lost d row = true → s.lost d row = true) : lostUpto s' row j ≤ lostUpto s row j := by
  induction j with
  | zero => simp [lostUpto]
  | succ j ih =>
    rw [lostUpto_succ, lostUpto_succ]
    have h1 := ih fun d hd => h d (by omega)
    cases hx : s'.lost j row with
    | false => simp only [Bool.false_eq_true, if_false]; omega
    | true =>
      rw [h j (by omega) hx]
      simp only [if_true]
      omega
theorem lostUpto_one_more (s s' : St) (row d0 j : Nat) (h : ∀ d, d < j → d ≠ d0 → s'.lost d row = true → s.lost d row = true) : lostUpto s' row j ≤ lostUpto s row j + 1 := by
  induction j with
  | zero => simp [lostUpto]
  | succ j ih =>
    by_cases e : j = d0
    · subst e
      have h1 := lostUpto_le_of s s' row j fun d hd => h d (by omega) (by omega)
      rw [lostUpto_succ, lostUpto_succ]
      split <;> split <;> omega
    · have h1 := ih fun d hd => h d (by omega)
      rw [lostUpto_succ, lostUpto_succ]
      cases hx : s'.lost j row with
      | false => simp only [Bool.false_eq_true, if_false]; omega
      | true =>
        rw [h j (by omega) e hx]
        simp only [if_true]
        omega

/-- Where less is lost of what is held it is held, if what comes back is as it was. -/
theorem HoldsRow.turn {s s' : St} {row : Nat} {data : List Blk} (h : HoldsRow s row data) (hn : s'.n = s.n) (hz : s'.size = s.size)
    (hc : ∀ i, i < s.n → s'.lost (lay s.n row i) row = false → s'.cell (lay s.n row i) row = (rowOf data).getD i []) : HoldsRow s' row data :=
  ⟨by rw [hn]; exact h.len, by rw [hz]; exact h.uni, fun i hi hl => by rw [hn] at hi hl ⊢; exact hc i hi hl⟩

theorem fail_holds {s : St} {D : Nat → List Blk} (h : Holds s D) (d : Nat) : Holds (s.setFailed d true) D := fun row hr =>
  (h row hr).turn rfl rfl fun i hi hl => (h row hr).cell i hi (by
    have : s.lost (lay s.n row i) row = true → (s.setFailed d true).lost (lay s.n row i) row = true := by
      intro q
      simp only [St.lost, St.setFailed, Bool.or_eq_true, decide_eq_true_eq] at q ⊢
      rcases q with q | q
      · left
        split
        · rfl
        · exact q
      · exact .inr (decide_eq_true q)
    cases hx : s.lost (lay s.n row i) row with
    | false => rfl
    | true => rw [this hx] at hl; cases hl)
theorem fail_few {s : St} (d : Nat) (h : ∀ row, row < s.rows → s.lostN row ≤ 1) : Few (s.setFailed d true) := fun row hr => by
  have := lostUpto_one_more s (s.setFailed d true) row d s.n fun e _ hne hx => by
    simpa [St.lost, St.setFailed, hne] using hx
  have h1 := h row hr
  exact Nat.le_trans this (by show s.lostN row + 1 ≤ 2; omega)

theorem replaced_lost (s : St) (d e row : Nat) (hf : s.failed d = true) : ((s.setFailed d false).setBuilt d 0).lost e row = s.lost e row := by
  simp only [St.lost, St.setFailed, St.setBuilt]
  by_cases x : e = d
  · subst x
    simp [hf]
  · simp [x]
theorem replace_holds {s : St} {D : Nat → List Blk} (h : Holds s D) (d : Nat) (hf : s.failed d = true) : Holds ((s.setFailed d false).setBuilt d 0) D := fun row hr =>
  (h row hr).turn rfl rfl fun i hi hl => (h row hr).cell i hi (by rw [← hl, replaced_lost s d _ row hf])
theorem replace_few {s : St} (h : Few s) (d : Nat) (hf : s.failed d = true) : Few ((s.setFailed d false).setBuilt d 0) := fun row hr => by
  have := lostUpto_le_of s ((s.setFailed d false).setBuilt d 0) row s.n fun e _ hx => by rw [← hx, replaced_lost s d e row hf]
  exact Nat.le_trans this (h row hr)

theorem bldTo_other (s : St) (d row : Nat) (l : List Blk) (j e r : Nat) (h : e ≠ d ∨ r ≠ row) : (s.bldTo d row l j).cell e r = s.cell e r := by
  induction j with
  | zero => rfl
  | succ j ih =>
    rw [St.bldTo]
    split
    · show (if e = d ∧ r = row then _ else (s.bldTo d row l j).cell e r) = _
      rw [if_neg (by omega), ih]
    · exact ih

theorem bldTo_cell' (s : St) (d row : Nat) (L : List Blk) (i j : Nat) (hi : i < j) (hj : j ≤ s.n) (h : lay s.n row i = d) : (s.bldTo d row L j).cell d row = L.getD i [] := by
  induction j with
  | zero => omega
  | succ j ih =>
    rw [St.bldTo]
    split
    · rename_i he
      have : i = j := lay_inj s.n row i j (by omega) (by omega) (h.trans he.symm)
      subst this
      show (if d = d ∧ row = row then L.getD i [] else _) = _
      rw [if_pos ⟨rfl, rfl⟩]
    · rename_i he
      refine ih ?_ (by omega)
      have : i ≠ j := by rintro rfl; exact he h
      omega

/-- A disk that works is built one row further: all is held as it was. -/
theorem rebuild_holds {s : St} {D : Nat → List Blk} (ok : s.Ok) (h : Holds s D) (hfew : Few s) (d : Nat) (hd : d < s.n) (hf : s.failed d = false) (hb : s.built d < s.rows) :
    ∃ t, s.rebuild d = (t, s.rows - (s.built d + 1), 0) ∧ Holds t D ∧ Few t ∧ t.n = s.n ∧ t.rows = s.rows ∧ t.size = s.size ∧ t.failed = s.failed ∧
      (∀ e, t.built e = if e = d then s.built d + 1 else s.built e) ∧ (∀ e r, s.lost e r = false → t.lost e r = false) := by
  have hR := h _ hb
  have hbl : ¬ (s.failed d = true ∨ s.built d = s.rows) := by
    rintro (q | q)
    · rw [hf] at q; cases q
    · omega
  have hrb : s.rebuild d = ((s.bldTo d (s.built d) (rowOf (D (s.built d))) s.n).setBuilt d (s.built d + 1), s.rows - (s.built d + 1), 0) := by
    rw [St.rebuild, if_neg (by omega)]
    simp only [Int.toNat_natCast]
    rw [if_neg hbl, hR.healE ok hb (hfew _ hb), if_neg (fun q => q rfl)]
  obtain ⟨C, hC⟩ := bldTo_shape s d (s.built d) (rowOf (D (s.built d))) s.n
  have hlost : ∀ e r, s.lost e r = false → ((s.bldTo d (s.built d) (rowOf (D (s.built d))) s.n).setBuilt d (s.built d + 1)).lost e r = false := by
    intro e r hl
    rw [hC]
    simp only [St.lost, St.setBuilt, Bool.or_eq_false_iff, decide_eq_false_iff_not] at hl ⊢
    refine ⟨hl.1, ?_⟩
    split
    · rename_i x
      subst x
      omega
    · exact hl.2
  have hback : ∀ e r, ((s.bldTo d (s.built d) (rowOf (D (s.built d))) s.n).setBuilt d (s.built d + 1)).lost e r = false → s.lost e r = true → e = d ∧ r = s.built d := by
    intro e r hl hx
    rw [hC] at hl
    simp only [St.lost, St.setBuilt, Bool.or_eq_false_iff, decide_eq_false_iff_not, Bool.or_eq_true, decide_eq_true_eq] at hl hx
    have h1 : s.failed e = false := hl.1
    rcases hx with q | q
    · rw [h1] at q; cases q
    · by_cases x : e = d
      · subst x
        rw [if_pos rfl] at hl
        omega
      · rw [if_neg x] at hl
        omega
  refine ⟨_, hrb, ?_, ?_, bldTo_n _ _ _ _ _, bldTo_rows _ _ _ _ _, bldTo_size _ _ _ _ _, bldTo_failed _ _ _ _ _, fun e => ?_, hlost⟩
  · intro row hr
    have hr' : row < s.rows := by rw [← bldTo_rows s (s.built d) (rowOf (D (s.built d))) s.n d]; exact hr
    refine (h row hr').turn (bldTo_n _ _ _ _ _) (bldTo_size _ _ _ _ _) fun i hi hl => ?_
    show (s.bldTo d (s.built d) (rowOf (D (s.built d))) s.n).cell (lay s.n row i) row = _
    by_cases x : lay s.n row i = d ∧ row = s.built d
    · have e1 := bldTo_cell' s d (s.built d) (rowOf (D (s.built d))) i s.n hi (Nat.le_refl _) (by rw [← x.2]; exact x.1)
      rw [x.1]
      rw [← x.2] at e1 ⊢
      exact e1
    · rw [bldTo_other _ _ _ _ _ _ _ (by omega)]
      refine (h row hr').cell i hi ?_
      cases hx : s.lost (lay s.n row i) row with
      | false => rfl
      | true => exact absurd (hback _ _ hl hx) x
  · intro row hr
    have hr' : row < s.rows := by rw [← bldTo_rows s (s.built d) (rowOf (D (s.built d))) s.n d]; exact hr
    have e1 : ((s.bldTo d (s.built d) (rowOf (D (s.built d))) s.n).setBuilt d (s.built d + 1)).lostN row = lostUpto ((s.bldTo d (s.built d) (rowOf (D (s.built d))) s.n).setBuilt d (s.built d + 1)) row s.n := by
      show lostUpto _ row ((s.bldTo d (s.built d) (rowOf (D (s.built d))) s.n).n) = _
      rw [bldTo_n]
    rw [e1]
    refine Nat.le_trans (lostUpto_le_of s _ row s.n fun e _ hx => ?_) (hfew row hr')
    cases hy : s.lost e row with
    | true => rfl
    | false => rw [hlost e row hy] at hx; cases hx
  · show (if e = d then s.built d + 1 else (s.bldTo d (s.built d) (rowOf (D (s.built d))) s.n).built e) = _
    rw [bldTo_built]

/-! ### a new array holds noughts -/
theorem gm_zero_right (c : UInt8) : gm c 0 = 0 := by
  have h := gm_add c 0 0
  rw [UInt8.xor_self, UInt8.xor_self] at h
  exact h
theorem dot_zeros (m : Nat) (i : Nat) : ∀ (k : Nat) (t : List UInt8), dot (List.replicate k (zeros m)) t i = 0
  | 0, _ => rfl
  | k + 1, [] => rfl
  | k + 1, c :: t => by
    rw [List.replicate_succ, dot, zeros_getD, gm_zero_right, dot_zeros m i k t]
    rfl
theorem bsum_zeros (m k : Nat) (h : 0 < k) (t : List UInt8) : bsum (List.replicate k (zeros m)) t = zeros m := by
  obtain ⟨k, rfl⟩ : ∃ j, k = j + 1 := ⟨k - 1, by omega⟩
  have hb : bsize (List.replicate (k + 1) (zeros m)) = m := by rw [List.replicate_succ]; simp [bsize, zeros_length]
  rw [bsum, hb]
  have e : (fun i => dot (List.replicate (k + 1) (zeros m)) t i) = fun _ => (0 : UInt8) := funext fun i => dot_zeros m i (k + 1) t
  show (List.range m).map (fun i => dot (List.replicate (k + 1) (zeros m)) t i) = zeros m
  rw [e]
  simp [zeros, List.map_const']
theorem rowOf_zeros (m k : Nat) (h : 0 < k) : rowOf (List.replicate k (zeros m)) = List.replicate (k + 2) (zeros m) := by
  rw [rowOf, pOf, qOf, bsum_zeros m k h, bsum_zeros m k h]
  apply List.ext_getElem
  · simp
  · intro i h1 h2
    simp only [List.getElem_replicate]
    rw [List.getElem_append]
    split
    · simp
    · have : i - k < 2 := by simp at h1; omega
      match hq : i - k, this with
      | 0, _ => simp [hq]
      | 1, _ => simp [hq]
def zeroD (k m : Nat) : Nat → List Blk := fun _ => List.replicate k (zeros m)
theorem new_holds (n rows size : Nat) (h : 3 ≤ n) : Holds (St.new n rows size) (zeroD (n - 2) size) := by
  intro row hr
  refine ⟨?_, ?_, fun i hi _ => ?_⟩
  · show (List.replicate (n - 2) (zeros size)).length + 2 = n
    simp; omega
  · intro b hb
    rw [List.eq_of_mem_replicate hb]
    exact zeros_length size
  · show zeros size = _
    rw [zeroD, rowOf_zeros _ _ (by omega), List.getD_eq_getElem?_getD, List.getElem?_replicate, if_pos (by have : i < n := hi; omega)]
    rfl
theorem new_lost (n rows size d row : Nat) (hr : row < rows) : (St.new n rows size).lost d row = false := by
  show (false || decide (rows ≤ row)) = false
  rw [Bool.false_or]
  exact decide_eq_false (by omega)
theorem new_few (n rows size : Nat) : Few (St.new n rows size) := by
  intro row hr
  have hr' : row < rows := hr
  have : (St.new n rows size).lostN row = 0 := by
    rw [St.lostN, List.length_eq_zero_iff, List.filter_eq_nil_iff]
    intro d _
    rw [new_lost n rows size d row hr']
    decide
  omega

end Go.Proofs.Ytmgppnceddnlmaa
