/- Law TopPool, the plain part: a pool as lists of states and slots; an array of which some disks failed, the others work and are built. -/
import Derived.Test.YtmgppnceddnlmaaKeepS
namespace Go.Proofs.Ytmgppnceddnlmaa
open Go.RowKit

/-- Where a number stands first. -/
def IdxIs (l : List Int) (v r : Int) : Prop := (r = -1 ∧ ∀ j : Nat, l[j]? ≠ some v) ∨ ∃ k : Nat, r = (k : Int) ∧ l[k]? = some v ∧ ∀ j : Nat, j < k → l[j]? ≠ some v

/-- What a pool has between the rounds: each slot that is not bad has a disk of its own that works. -/
structure PI (states slots : List Int) (n m : Nat) (bad : Nat → Bool) : Prop where
  slen : states.length = m
  llen : slots.length = n
  hole : ∀ i, i < n → bad i = true → slots[i]? = some (-1)
  disk : ∀ i, i < n → bad i = false → ∃ d : Nat, slots[i]? = some (d : Int) ∧ states[d]? = some 0
  inj : ∀ i j, i < n → j < n → bad i = false → bad j = false → slots[i]? = slots[j]? → i = j

def badSet (bad : Nat → Bool) (k : Nat) : Nat → Bool := fun d => if d = k then true else bad d

theorem pi_new (works spares : Nat) : PI (List.replicate works 0 ++ List.replicate spares 1) ((List.range works).map (fun (i : Nat) => (i : Int))) works (works + spares) fun _ => false where
  slen := by simp
  llen := by simp
  hole := fun _ _ h => by cases h
  disk := fun i hi _ => ⟨i, by simp [hi], by rw [List.getElem?_append_left (by simpa using hi)]; simp [hi]⟩
  inj := fun i j hi hj _ _ h => by
    have : (i : Int) = (j : Int) := by simpa [hi, hj] using h
    omega

section
variable {states slots : List Int} {n m : Nat} {bad : Nat → Bool}
theorem PI.idx (h : PI states slots n m bad) {s d : Nat} (hs : s < n) (hb : bad s = false) (hd : slots[s]? = some (d : Int)) {r : Int} (hr : IdxIs slots d r) : r = s := by
  rcases hr with ⟨_, hr⟩ | ⟨k, rfl, hk, _⟩
  · exact absurd hd (hr s)
  · have hkn : k < n := by rw [← h.llen]; exact (List.getElem?_eq_some_iff.1 hk).1
    cases hbk : bad k with
    | true =>
      rw [h.hole k hkn hbk] at hk
      have := Option.some.inj hk
      omega
    | false => rw [h.inj s k hs hkn hb hbk (hd.trans hk.symm)]

theorem set_get {α : Type} (l : List α) (i j : Nat) (x : α) (hi : i < l.length) : (l.set i x)[j]? = if j = i then some x else l[j]? := by
  rw [List.getElem?_set]
  by_cases e : i = j
  · subst e
    simp [hi]
  · rw [if_neg e, if_neg (Ne.symm e)]

/-- A disk failed, and no spare is left. -/
theorem PI.none (h : PI states slots n m bad) {s d : Nat} (hs : s < n) (hb : bad s = false) (hd : slots[s]? = some (d : Int)) (hdm : states[d]? = some 0) :
    PI (states.set d 2) (slots.set s (-1)) n m (badSet bad s) := by
  have hdl : d < states.length := (List.getElem?_eq_some_iff.1 hdm).1
  have hsl : s < slots.length := by rw [h.llen]; exact hs
  refine ⟨by rw [List.length_set]; exact h.slen, by rw [List.length_set]; exact h.llen, fun i hi hbi => ?_, fun i hi hbi => ?_, fun i j hi hj hbi hbj he => ?_⟩
  · rw [set_get _ _ _ _ hsl]
    split
    · rfl
    · rename_i e
      rw [badSet, if_neg e] at hbi
      exact h.hole i hi hbi
  · by_cases e : i = s
    · rw [badSet, if_pos e] at hbi
      cases hbi
    · rw [badSet, if_neg e] at hbi
      obtain ⟨x, h1, h2⟩ := h.disk i hi hbi
      refine ⟨x, by rw [set_get _ _ _ _ hsl, if_neg e]; exact h1, ?_⟩
      rw [set_get _ _ _ _ hdl, if_neg]
      · exact h2
      · rintro rfl
        exact e (h.inj i s hi hs hbi hb (h1.trans hd.symm))
  · by_cases e : i = s
    · rw [badSet, if_pos e] at hbi
      cases hbi
    · by_cases e' : j = s
      · rw [badSet, if_pos e'] at hbj
        cases hbj
      · rw [badSet, if_neg e] at hbi
        rw [badSet, if_neg e'] at hbj
        rw [set_get _ _ _ _ hsl, set_get _ _ _ _ hsl, if_neg e, if_neg e'] at he
        exact h.inj i j hi hj hbi hbj he

/-- A disk failed, a spare took its place, and was filled. -/
theorem PI.some (h : PI states slots n m bad) {s d k : Nat} (hs : s < n) (hb : bad s = false) (hd : slots[s]? = some (d : Int)) (hdm : states[d]? = some 0) (hk : (states.set d 2)[k]? = some 1) :
    PI (((states.set d 2).set k 3).set k 0) (slots.set s (k : Int)) n m bad := by
  have hdl : d < states.length := (List.getElem?_eq_some_iff.1 hdm).1
  have hsl : s < slots.length := by rw [h.llen]; exact hs
  have hkl : k < (states.set d 2).length := (List.getElem?_eq_some_iff.1 hk).1
  have hkd : k ≠ d := by
    rintro rfl
    rw [set_get _ _ _ _ hdl, if_pos rfl] at hk
    have := Option.some.inj hk
    omega
  have hks : states[k]? = Option.some 1 := by rwa [set_get _ _ _ _ hdl, if_neg hkd] at hk
  have other : ∀ i, i < n → bad i = false → i ≠ s → ∃ x : Nat, slots[i]? = Option.some (x : Int) ∧ x ≠ k ∧ x ≠ d ∧ states[x]? = Option.some 0 := by
    intro i hi hbi e
    obtain ⟨x, h1, h2⟩ := h.disk i hi hbi
    refine ⟨x, h1, ?_, ?_, h2⟩
    · rintro rfl
      rw [hks] at h2
      have := Option.some.inj h2
      omega
    · rintro rfl
      exact e (h.inj i s hi hs hbi hb (h1.trans hd.symm))
  refine ⟨by simp; exact h.slen, by rw [List.length_set]; exact h.llen, fun i hi hbi => ?_, fun i hi hbi => ?_, fun i j hi hj hbi hbj he => ?_⟩
  · have e : i ≠ s := by
      rintro rfl
      rw [hb] at hbi
      cases hbi
    rw [set_get _ _ _ _ hsl, if_neg e]
    exact h.hole i hi hbi
  · by_cases e : i = s
    · refine ⟨k, by rw [set_get _ _ _ _ hsl, if_pos e], ?_⟩
      rw [set_get _ _ _ _ (by rw [List.length_set]; exact hkl), if_pos rfl]
    · obtain ⟨x, h1, h2, h3, h4⟩ := other i hi hbi e
      refine ⟨x, by rw [set_get _ _ _ _ hsl, if_neg e]; exact h1, ?_⟩
      rw [set_get _ _ _ _ (by rw [List.length_set]; exact hkl), if_neg h2, set_get _ _ _ _ hkl, if_neg h2, set_get _ _ _ _ hdl, if_neg h3]
      exact h4
  · rw [set_get _ _ _ _ hsl, set_get _ _ _ _ hsl] at he
    by_cases e : i = s
    · by_cases e' : j = s
      · rw [e, e']
      · obtain ⟨x, h1, h2, _⟩ := other j hj hbj e'
        rw [if_pos e, if_neg e', h1] at he
        have := Option.some.inj he
        omega
    · by_cases e' : j = s
      · obtain ⟨x, h1, h2, _⟩ := other i hi hbi e
        rw [if_neg e, if_pos e', h1] at he
        have := Option.some.inj he
        omega
      · rw [if_neg e, if_neg e'] at he
        exact h.inj i j hi hj hbi hbj he
end

/-! ### the array -/
/-- How many of n are bad. -/
def badN (n : Nat) (bad : Nat → Bool) : Nat := ((List.range n).filter bad).length
theorem badN_zero (n : Nat) : badN n (fun _ => false) = 0 := by simp [badN]
theorem badN_set (n : Nat) (bad : Nat → Bool) (k : Nat) (hk : k < n) (hb : bad k = false) : badN n (badSet bad k) = badN n bad + 1 := by
  unfold badN
  have key : ∀ j, ((List.range j).filter (badSet bad k)).length = ((List.range j).filter bad).length + if k < j then 1 else 0 := by
    intro j
    induction j with
    | zero => simp
    | succ j ih =>
      rw [List.range_succ, List.filter_append, List.filter_append, List.length_append, List.length_append, ih]
      by_cases e : j = k
      · subst e
        have e1 : [j].filter (badSet bad j) = [j] := by simp [badSet]
        have e2 : [j].filter bad = [] := by simp [hb]
        rw [e1, e2, if_neg (by omega), if_pos (by omega)]
        simp
      · have e1 : [j].filter (badSet bad k) = [j].filter bad := by
          simp only [List.filter_cons, List.filter_nil, badSet, if_neg e]
        rw [e1]
        by_cases c : k < j
        · rw [if_pos c, if_pos (by omega)]; omega
        · rw [if_neg c, if_neg (by omega)]; omega
  rw [key n, if_pos hk]

/-- Some disks failed; the others work and are built, but for one that is built up to row r. -/
structure MA (t : St) (n0 rows0 d r : Nat) (bad : Nat → Bool) (cells : List Blk) : Prop where
  ks : KS t n0 rows0 2 cells
  failed : ∀ e, t.failed e = bad e
  built : ∀ e, t.built e = if e = d then r else rows0
structure AS (t : St) (n0 rows0 : Nat) (bad : Nat → Bool) (cells : List Blk) : Prop where
  ks : KS t n0 rows0 2 cells
  failed : ∀ e, t.failed e = bad e
  built : ∀ e, t.built e = rows0

theorem as_new (n rows : Nat) (h : 3 ≤ n) : AS (St.new n rows 2) n rows (fun _ => false) (List.replicate (rows * (n - 2)) (zeros 2)) := ⟨ks_new n rows 2 h, fun _ => rfl, fun _ => rfl⟩
section
variable {t : St} {n rows : Nat} {bad : Nat → Bool} {cells : List Blk}
theorem AS.lostN (h : AS t n rows bad cells) (row : Nat) (hr : row < rows) : t.lostN row = badN n bad := by
  rw [St.lostN, badN, h.ks.n]
  congr 1
  apply List.filter_congr
  intro d _
  have : ¬ rows ≤ row := by omega
  rw [St.lost, h.failed, h.built, decide_eq_false this, Bool.or_false]
theorem AS.write (h : AS t n rows bad cells) (ok : t.Ok) (b : Nat) (hb : b < rows * (n - 2)) (x : Blk) (hx : x.length = 2) : ∃ t', t.write b x = (t', 0) ∧ AS t' n rows bad (cells.set b x) := by
  obtain ⟨t', e, hk⟩ := ks_write ok h.ks b hb x hx
  obtain ⟨D, hD, -⟩ := h.ks.holds
  obtain ⟨C, e1, -⟩ := write_holds ok hD h.ks.few b (by rw [h.ks.n, h.ks.rows]; exact hb) x (by rw [h.ks.size]; exact hx)
  have e2 := e
  rw [e1] at e2
  cases e2
  exact ⟨_, e, hk, h.failed, h.built⟩
/-- A disk that works fails. -/
theorem AS.fail (h : AS t n rows bad cells) (s : Nat) (hs : s < n) (hb : bad s = false) (hone : badN n bad ≤ 1) : t.fail s = (t.setFailed s true, 0) ∧ AS (t.setFailed s true) n rows (badSet bad s) cells := by
  have e : t.fail s = (t.setFailed s true, 0) := by
    rw [St.fail, if_neg (by rw [h.ks.n]; omega), Int.toNat_natCast, if_neg (by rw [h.failed, hb]; decide)]
  refine ⟨e, ?_, fun d => ?_, h.built⟩
  · obtain ⟨s', e', e1, hk⟩ := ks_fail h.ks (fun row hr => by rw [h.lostN row hr]; exact hone) (s : Int)
    rw [e] at e1
    cases e1
    exact hk
  · show (if d = s then true else t.failed d) = _
    rw [badSet, h.failed]
/-- It is replaced: it is to be built from the first row on. -/
theorem AS.replace {s : Nat} (h : AS t n rows (badSet bad s) cells) (hs : s < n) (hb : bad s = false) : t.replace s = ((t.setFailed s false).setBuilt s 0, 0) ∧ MA ((t.setFailed s false).setBuilt s 0) n rows s 0 bad cells := by
  have hf : t.failed s = true := by rw [h.failed, badSet, if_pos rfl]
  have e : t.replace s = ((t.setFailed s false).setBuilt s 0, 0) := by
    rw [St.replace, if_neg (by rw [h.ks.n]; omega), Int.toNat_natCast, if_neg (by rw [hf]; decide)]
  refine ⟨e, ?_, fun d => ?_, fun d => ?_⟩
  · obtain ⟨s', e', e1, hk⟩ := ks_replace h.ks (s : Int)
    rw [e] at e1
    cases e1
    exact hk
  · show (if d = s then false else t.failed d) = _
    split
    · rename_i q
      rw [q, hb]
    · rename_i q
      rw [h.failed, badSet, if_neg q]
  · show (if d = s then 0 else t.built d) = _
    rw [h.built]
theorem MA.step {s r : Nat} (h : MA t n rows s r bad cells) (ok : t.Ok) (hs : s < n) (hb : bad s = false) (hr : r < rows) : ∃ t', t.rebuild s = (t', rows - (r + 1), 0) ∧ MA t' n rows s (r + 1) bad cells := by
  have hbu : t.built s = r := by rw [h.built s, if_pos rfl]
  obtain ⟨D, hD, he⟩ := h.ks.holds
  obtain ⟨t', e1, e2, e3, e4, e5, e6, e7, e8, -⟩ := rebuild_holds ok hD h.ks.few s (by rw [h.ks.n]; exact hs) (by rw [h.failed]; exact hb) (by rw [hbu, h.ks.rows]; exact hr)
  refine ⟨t', by rw [e1, hbu, h.ks.rows], ⟨e4.trans h.ks.n, e5.trans h.ks.rows, e6.trans h.ks.size, e3, h.ks.len, D, e2, fun b hb => ?_⟩, fun e => by rw [e7]; exact h.failed e, fun e => ?_⟩
  · rw [he b hb, blockOf, blockOf, e4]
  · rw [e8 e, hbu, h.built e]
    split <;> rfl
theorem MA.done {s : Nat} (h : MA t n rows s rows bad cells) : AS t n rows bad cells := ⟨h.ks, h.failed, fun e => by rw [h.built]; split <;> rfl⟩
end

end Go.Proofs.Ytmgppnceddnlmaa
