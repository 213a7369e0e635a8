/- Plain law: of data with P and Q all parts come back without any two; two rows of parts that are right and differ in two places at most are one; where one part is another one it is found. Blocks are of one length; from 1 to 10 of data. -/
import Derived.Test.YtmgppnceddnlmaaSpec
namespace Go.Proofs.Ytmgppnceddnlmaa

theorem bsum_length (l : List Blk) (t : List UInt8) : (bsum l t).length = bsize l := by simp [bsum]

theorem bsum_getD (l : List Blk) (t : List UInt8) (i : Nat) (h : i < bsize l) : (bsum l t).getD i 0 = dot l t i := by
  simp [bsum, List.getD_eq_getElem?_getD, h]

theorem blk_ext {a b : Blk} (n : Nat) (ha : a.length = n) (hb : b.length = n) (h : ∀ i, i < n → a.getD i 0 = b.getD i 0) : a = b := by
  apply List.ext_getElem (by omega)
  intro i h1 h2
  have := h i (by omega)
  simpa [List.getD_eq_getElem?_getD, List.getElem?_eq_getElem h1, List.getElem?_eq_getElem h2] using this

theorem list_ext_getD {α : Type} {d : α} {a b : List α} (n : Nat) (ha : a.length = n) (hb : b.length = n) (h : ∀ i, i < n → a.getD i d = b.getD i d) : a = b := by
  apply List.ext_getElem (by omega)
  intro i h1 h2
  have := h i (by omega)
  simpa [List.getD_eq_getElem?_getD, List.getElem?_eq_getElem h1, List.getElem?_eq_getElem h2] using this

theorem getD_set {α : Type} (l : List α) (i j : Nat) (b d : α) (h : i < l.length) : (l.set i b).getD j d = if j = i then b else l.getD j d := by
  simp only [List.getD_eq_getElem?_getD, List.getElem?_set]
  by_cases e : i = j
  · subst e; simp [h]
  · have : ¬ j = i := fun h => e h.symm
    simp [e, this]

/-- All of one length. -/
def Uni (n : Nat) (l : List Blk) : Prop := ∀ b, b ∈ l → b.length = n

theorem Uni.getD {n : Nat} {l : List Blk} (h : Uni n l) {i : Nat} (hi : i < l.length) : (l.getD i []).length = n := by
  rw [List.getD_eq_getElem?_getD, List.getElem?_eq_getElem hi]
  exact h _ (List.getElem_mem hi)

theorem Uni.size {n : Nat} {l : List Blk} (h : Uni n l) (hl : l ≠ []) : bsize l = n := by
  cases l with
  | nil => exact absurd rfl hl
  | cons b l => exact h b (by simp)

theorem Uni.set {n : Nat} {l : List Blk} (h : Uni n l) (i : Nat) {b : Blk} (hb : b.length = n) : Uni n (l.set i b) := by
  intro x hx
  rcases List.mem_or_eq_of_mem_set hx with hx | rfl
  · exact h x hx
  · exact hb

theorem dot_set : ∀ (l : List Blk) (t : List UInt8) (i : Nat) (b : Blk) (j : Nat), i < l.length → l.length = t.length →
    dot (l.set i b) t j = dot l t j ^^^ gm (t.getD i 0) ((l.getD i []).getD j 0 ^^^ b.getD j 0)
  | [], _, _, _, _, h, _ => by simp at h
  | x :: l, [], _, _, _, _, h => by simp at h
  | x :: l, c :: t, 0, b, j, _, _ => by
    simp only [List.set_cons_zero, dot, List.getD_cons_zero, gm_add]
    have : gm c (x.getD j 0) ^^^ dot l t j ^^^ (gm c (x.getD j 0) ^^^ gm c (b.getD j 0)) = (gm c (x.getD j 0) ^^^ gm c (x.getD j 0)) ^^^ (gm c (b.getD j 0) ^^^ dot l t j) := by ac_rfl
    rw [this, xor_self8, zero_xor8]
  | x :: l, c :: t, i + 1, b, j, h, hl => by
    simp only [List.set_cons_succ, dot, List.getD_cons_succ]
    rw [dot_set l t i b j (by simpa using h) (by simpa using hl)]
    ac_rfl

theorem ones_length (n : Nat) : (ones n).length = n := by simp [ones]
theorem pows_length (n : Nat) : (pows n).length = n := by simp [pows]
theorem ones_getD (n i : Nat) (h : i < n) : (ones n).getD i 0 = 1 := by simp [ones, List.getD_eq_getElem?_getD, h]
theorem pows_getD (n i : Nat) (h : i < n) : (pows n).getD i 0 = gp 2 i := by simp [pows, List.getD_eq_getElem?_getD, h]

theorem bplus_length (a b : Blk) : (bplus a b).length = a.length := by simp [bplus, bsum_length, bsize]
theorem bplus_getD (a b : Blk) (i : Nat) (h : i < a.length) : (bplus a b).getD i 0 = a.getD i 0 ^^^ b.getD i 0 := by
  rw [bplus, bsum_getD _ _ _ (by simpa [bsize] using h)]
  simp only [dot, one_gm, xor_zero8]
theorem btimes_length (a : Blk) (c : UInt8) : (btimes a c).length = a.length := by simp [btimes, bsum_length, bsize]
theorem btimes_getD (a : Blk) (c : UInt8) (i : Nat) (h : i < a.length) : (btimes a c).getD i 0 = gm c (a.getD i 0) := by
  rw [btimes, bsum_getD _ _ _ (by simpa [bsize] using h)]
  simp only [dot, xor_zero8]

theorem zeros_length (n : Nat) : (zeros n).length = n := by simp [zeros]
theorem zeros_getD (n i : Nat) : (zeros n).getD i 0 = 0 := by
  simp only [zeros, List.getD_eq_getElem?_getD, List.getElem?_replicate]
  split <;> rfl

theorem pOf_length {n : Nat} {l : List Blk} (h : Uni n l) (hl : l ≠ []) : (pOf l).length = n := by rw [pOf, bsum_length, h.size hl]
theorem qOf_length {n : Nat} {l : List Blk} (h : Uni n l) (hl : l ≠ []) : (qOf l).length = n := by rw [qOf, bsum_length, h.size hl]

theorem set_ne_nil {α : Type} {l : List α} (h : l ≠ []) (i : Nat) (b : α) : l.set i b ≠ [] := by
  intro e; apply h; have := congrArg List.length e; simpa using this

theorem pOf_set {n : Nat} {l : List Blk} (h : Uni n l) (hl : l ≠ []) (i : Nat) (hi : i < l.length) (b : Blk) (hb : b.length = n) (j : Nat) (hj : j < n) :
    (pOf (l.set i b)).getD j 0 = (pOf l).getD j 0 ^^^ ((l.getD i []).getD j 0 ^^^ b.getD j 0) := by
  rw [pOf, bsum_getD _ _ _ (by rw [(h.set i hb).size (set_ne_nil hl i b)]; exact hj), pOf, bsum_getD _ _ _ (by rw [h.size hl]; exact hj), List.length_set,
    dot_set l _ i b j hi (ones_length _).symm, ones_getD _ _ hi, one_gm]
theorem qOf_set {n : Nat} {l : List Blk} (h : Uni n l) (hl : l ≠ []) (i : Nat) (hi : i < l.length) (b : Blk) (hb : b.length = n) (j : Nat) (hj : j < n) :
    (qOf (l.set i b)).getD j 0 = (qOf l).getD j 0 ^^^ gm (gp 2 i) ((l.getD i []).getD j 0 ^^^ b.getD j 0) := by
  rw [qOf, bsum_getD _ _ _ (by rw [(h.set i hb).size (set_ne_nil hl i b)]; exact hj), qOf, bsum_getD _ _ _ (by rw [h.size hl]; exact hj), List.length_set,
    dot_set l _ i b j hi (pows_length _).symm, pows_getD _ _ hi]

/-! ### What is left of the parts -/
theorem lastLen_eq : ∀ (l : List Blk) (x : List Bool) (m n : Nat), l.length = x.length →
    (∀ i, i < l.length → x.getD i false = false → (l.getD i []).length = n) → (m = n ∨ ∃ i, i < l.length ∧ x.getD i false = false) → lastLen l x m = n
  | [], [], m, n, _, _, h => by rcases h with h | ⟨i, hi, _⟩
                                · simpa [lastLen] using h
                                · simp at hi
  | [], _ :: _, _, _, h, _, _ => by simp at h
  | _ :: _, [], _, _, h, _, _ => by simp at h
  | b :: l, x :: xs, m, n, hl, ha, h => by
    rw [lastLen]
    refine lastLen_eq l xs _ n (by simpa using hl) (fun i hi hx => by simpa using ha (i + 1) (by simpa using hi) (by simpa using hx)) ?_
    cases x with
    | false => exact .inl (by simpa using ha 0 (by simp) (by simp))
    | true =>
      rcases h with h | ⟨i, hi, hx⟩
      · exact .inl (by simpa using h)
      · cases i with
        | zero => simp at hx
        | succ i => exact .inr ⟨i, by simpa using hi, by simpa using hx⟩

theorem cleaned_length : ∀ (l : List Blk) (x : List Bool) (n : Nat), (cleaned l x n).length = l.length
  | [], [], _ => rfl
  | [], _ :: _, _ => rfl
  | _ :: _, [], _ => rfl
  | b :: l, x :: xs, n => by simp [cleaned, cleaned_length l xs n]

theorem cleaned_getD : ∀ (l : List Blk) (x : List Bool) (n i : Nat), l.length = x.length → i < l.length →
    (cleaned l x n).getD i [] = if x.getD i false then zeros n else l.getD i []
  | [], _, _, _, _, h => by simp at h
  | _ :: _, [], _, _, h, _ => by simp at h
  | b :: l, x :: xs, n, 0, _, _ => by simp [cleaned]
  | b :: l, x :: xs, n, i + 1, hl, hi => by
    simp only [cleaned, List.getD_cons_succ]
    exact cleaned_getD l xs n i (by simpa using hl) (by simpa using hi)

theorem mem_gone {k : Nat} {lost : List Bool} {i : Nat} : i ∈ goneOf k lost ↔ i < k ∧ lost.getD i false = true := by simp [goneOf]
theorem gone_nodup (k : Nat) (lost : List Bool) : (goneOf k lost).Nodup := List.Nodup.sublist List.filter_sublist List.nodup_range
theorem gone_succ (k : Nat) (lost : List Bool) : goneOf (k + 1) lost = goneOf k lost ++ if lost.getD k false then [k] else [] := by
  simp only [goneOf, List.range_succ, List.filter_append, List.filter_cons, List.filter_nil]

/-! ### Healing -/
section
variable {n : Nat} {data : List Blk}

def rowOf (data : List Blk) : List Blk := data ++ [pOf data, qOf data]
theorem rowOf_length (data : List Blk) : (rowOf data).length = data.length + 2 := by simp [rowOf]
theorem rowOf_data (data : List Blk) (i : Nat) (h : i < data.length) : (rowOf data).getD i [] = data.getD i [] := by
  simp [rowOf, List.getD_eq_getElem?_getD, List.getElem?_append_left h]
theorem rowOf_p (data : List Blk) : (rowOf data).getD data.length [] = pOf data := by simp [rowOf, List.getD_eq_getElem?_getD]
theorem rowOf_q (data : List Blk) : (rowOf data).getD (data.length + 1) [] = qOf data := by simp [rowOf, List.getD_eq_getElem?_getD]
theorem rowOf_uni (h : Uni n data) (hd : data ≠ []) : Uni n (rowOf data) := by
  intro b hb
  rcases List.mem_append.1 hb with hb | hb
  · exact h b hb
  · simp at hb
    rcases hb with rfl | rfl
    · exact pOf_length h hd
    · exact qOf_length h hd

theorem healedS_one (h : Uni n data) (hd : data ≠ []) (i : Nat) (hi : i < data.length) (hk : data.length ≤ 10) (p q : Blk) (lp lq : Bool)
    (hp : lp = false → p = pOf data) (hq : lq = false → q = qOf data) (hlpq : lp = false ∨ lq = false) :
    healedS (data.set i (zeros n)) [i] p q lp lq = data := by
  have hu : Uni n (data.set i (zeros n)) := h.set i (zeros_length n)
  have hne : data.set i (zeros n) ≠ [] := set_ne_nil hd i _
  have hdi : (data.getD i []).length = n := h.getD hi
  have back : (data.set i (zeros n)).set i (data.getD i []) = data := by
    rw [List.set_set]
    apply list_ext_getD (d := []) data.length (by simp) rfl
    intro j hj
    rw [getD_set _ _ _ _ _ hi]
    by_cases e : j = i
    · subst e; simp
    · simp [e]
  simp only [healedS]
  by_cases hl : lp = false
  · rw [if_pos hl, hp hl]
    have : bplus (pOf (data.set i (zeros n))) (pOf data) = data.getD i [] := by
      apply blk_ext n (by rw [bplus_length, pOf_length hu hne]) hdi
      intro j hj
      rw [bplus_getD _ _ _ (by rw [pOf_length hu hne]; exact hj), pOf_set h hd i hi _ (zeros_length n) j hj, zeros_getD, xor_zero8]
      have : (pOf data).getD j 0 ^^^ (data.getD i []).getD j 0 ^^^ (pOf data).getD j 0 = ((pOf data).getD j 0 ^^^ (pOf data).getD j 0) ^^^ (data.getD i []).getD j 0 := by ac_rfl
      rw [this, xor_self8, zero_xor8]
    rw [this, back]
  · have hl2 : lq = false := by rcases hlpq with h | h
                                · exact absurd h hl
                                · exact h
    rw [if_neg hl, if_pos hl2, hq hl2]
    have : btimes (bplus (qOf (data.set i (zeros n))) (qOf data)) (gi (gp 2 i)) = data.getD i [] := by
      apply blk_ext n (by rw [btimes_length, bplus_length, qOf_length hu hne]) hdi
      intro j hj
      rw [btimes_getD _ _ _ (by rw [bplus_length, qOf_length hu hne]; exact hj), bplus_getD _ _ _ (by rw [qOf_length hu hne]; exact hj), qOf_set h hd i hi _ (zeros_length n) j hj, zeros_getD, xor_zero8]
      have : (qOf data).getD j 0 ^^^ gm (gp 2 i) ((data.getD i []).getD j 0) ^^^ (qOf data).getD j 0 = ((qOf data).getD j 0 ^^^ (qOf data).getD j 0) ^^^ gm (gp 2 i) ((data.getD i []).getD j 0) := by ac_rfl
      rw [this, xor_self8, zero_xor8, ← gm_assoc, gi_gm _ (gp_two_ne0 i (by omega)), one_gm]
    rw [this, back]

theorem healedS_two (h : Uni n data) (hd : data ≠ []) (i k : Nat) (hi : i < data.length) (hk : k < data.length) (hik : i ≠ k) (hten : data.length ≤ 10) (lp lq : Bool) :
    healedS ((data.set i (zeros n)).set k (zeros n)) [i, k] (pOf data) (qOf data) lp lq = data := by
  have hu1 : Uni n (data.set i (zeros n)) := h.set i (zeros_length n)
  have hne1 : data.set i (zeros n) ≠ [] := set_ne_nil hd i _
  have hu : Uni n ((data.set i (zeros n)).set k (zeros n)) := hu1.set k (zeros_length n)
  have hne : (data.set i (zeros n)).set k (zeros n) ≠ [] := set_ne_nil hne1 k _
  have hdi : (data.getD i []).length = n := h.getD hi
  have hdk : (data.getD k []).length = n := h.getD hk
  have hk1 : k < (data.set i (zeros n)).length := by simpa using hk
  have dk : (data.set i (zeros n)).getD k [] = data.getD k [] := by rw [getD_set _ _ _ _ _ hi, if_neg (fun e => hik e.symm)]
  have hp : ∀ j, j < n → (bplus (pOf ((data.set i (zeros n)).set k (zeros n))) (pOf data)).getD j 0 = (data.getD i []).getD j 0 ^^^ (data.getD k []).getD j 0 := by
    intro j hj
    rw [bplus_getD _ _ _ (by rw [pOf_length hu hne]; exact hj), pOf_set hu1 hne1 k hk1 _ (zeros_length n) j hj, dk, pOf_set h hd i hi _ (zeros_length n) j hj, zeros_getD, xor_zero8, xor_zero8]
    have : (pOf data).getD j 0 ^^^ (data.getD i []).getD j 0 ^^^ (data.getD k []).getD j 0 ^^^ (pOf data).getD j 0 = ((pOf data).getD j 0 ^^^ (pOf data).getD j 0) ^^^ ((data.getD i []).getD j 0 ^^^ (data.getD k []).getD j 0) := by ac_rfl
    rw [this, xor_self8, zero_xor8]
  have hq : ∀ j, j < n → (bplus (qOf ((data.set i (zeros n)).set k (zeros n))) (qOf data)).getD j 0 = gm (gp 2 i) ((data.getD i []).getD j 0) ^^^ gm (gp 2 k) ((data.getD k []).getD j 0) := by
    intro j hj
    rw [bplus_getD _ _ _ (by rw [qOf_length hu hne]; exact hj), qOf_set hu1 hne1 k hk1 _ (zeros_length n) j hj, dk, qOf_set h hd i hi _ (zeros_length n) j hj, zeros_getD, xor_zero8, xor_zero8]
    have : (qOf data).getD j 0 ^^^ gm (gp 2 i) ((data.getD i []).getD j 0) ^^^ gm (gp 2 k) ((data.getD k []).getD j 0) ^^^ (qOf data).getD j 0 = ((qOf data).getD j 0 ^^^ (qOf data).getD j 0) ^^^ (gm (gp 2 i) ((data.getD i []).getD j 0) ^^^ gm (gp 2 k) ((data.getD k []).getD j 0)) := by ac_rfl
    rw [this, xor_self8, zero_xor8]
  have lp1 : (bplus (pOf ((data.set i (zeros n)).set k (zeros n))) (pOf data)).length = n := by rw [bplus_length, pOf_length hu hne]
  have lq1 : (bplus (qOf ((data.set i (zeros n)).set k (zeros n))) (qOf data)).length = n := by rw [bplus_length, qOf_length hu hne]
  simp only [healedS]
  generalize bplus (pOf ((data.set i (zeros n)).set k (zeros n))) (pOf data) = dp at *
  generalize bplus (qOf ((data.set i (zeros n)).set k (zeros n))) (qOf data) = dq at *
  have lb : (bplus (btimes dp (gp 2 k)) dq).length = n := by rw [bplus_length, btimes_length, lp1]
  have hx : btimes (bplus (btimes dp (gp 2 k)) dq) (gi (gp 2 i ^^^ gp 2 k)) = data.getD i [] := by
    apply blk_ext n (by rw [btimes_length, lb]) hdi
    intro j hj
    rw [btimes_getD _ _ _ (by rw [lb]; exact hj), bplus_getD _ _ _ (by rw [btimes_length, lp1]; exact hj), btimes_getD _ _ _ (by rw [lp1]; exact hj), hp j hj, hq j hj, gm_add (gp 2 k)]
    generalize (data.getD i []).getD j 0 = x
    generalize (data.getD k []).getD j 0 = y
    have e : gm (gp 2 k) x ^^^ gm (gp 2 k) y ^^^ (gm (gp 2 i) x ^^^ gm (gp 2 k) y) = (gm (gp 2 i) x ^^^ gm (gp 2 k) x) ^^^ (gm (gp 2 k) y ^^^ gm (gp 2 k) y) := by ac_rfl
    rw [e, xor_self8, xor_zero8, ← add_gm, ← gm_assoc, gi_gm _ (gp_two_ne i (by omega) k (by omega) hik), one_gm]
  have hy : bplus dp (data.getD i []) = data.getD k [] := by
    apply blk_ext n (by rw [bplus_length, lp1]) hdk
    intro j hj
    rw [bplus_getD _ _ _ (by rw [lp1]; exact hj), hp j hj]
    generalize (data.getD i []).getD j 0 = x
    generalize (data.getD k []).getD j 0 = y
    have e : x ^^^ y ^^^ x = (x ^^^ x) ^^^ y := by ac_rfl
    rw [e, xor_self8, zero_xor8]
  rw [hx, hy]
  apply list_ext_getD (d := []) data.length (by simp) rfl
  intro j hj
  rw [getD_set _ _ _ _ _ (by simpa using hk), getD_set _ _ _ _ _ (by simpa using hi), getD_set _ _ _ _ _ (by simpa using hk), getD_set _ _ _ _ _ hi]
  by_cases e : j = k
  · subst e; simp
  · by_cases e2 : j = i
    · subst e2; simp [e]
    · simp [e, e2]

theorem healedS_uni (h : Uni n data) (hd : data ≠ []) (gone : List Nat) (p q : Blk) (lp lq : Bool) :
    (healedS data gone p q lp lq).length = data.length ∧ Uni n (healedS data gone p q lp lq) := by
  have h1 : (bplus (pOf data) p).length = n := by rw [bplus_length, pOf_length h hd]
  have h2 : (bplus (qOf data) q).length = n := by rw [bplus_length, qOf_length h hd]
  match gone with
  | [] => exact ⟨rfl, h⟩
  | [i] =>
    simp only [healedS]
    split
    · exact ⟨List.length_set, h.set i h1⟩
    · split
      · exact ⟨List.length_set, h.set i (by rw [btimes_length, h2])⟩
      · exact ⟨rfl, h⟩
  | [i, k] =>
    simp only [healedS]
    refine ⟨by rw [List.length_set, List.length_set], (h.set i ?_).set k ?_⟩
    · rw [btimes_length, bplus_length, btimes_length, h1]
    · rw [bplus_length, h1]
  | _ :: _ :: _ :: _ => exact ⟨rfl, h⟩

/-- ANY TWO MAY BE LOST. -/
theorem heal_good (h : Uni n data) (hd : data ≠ []) (hten : data.length ≤ 10) (torn : List Blk) (lost : List Bool)
    (ht : torn.length = data.length + 2) (hl : lost.length = data.length + 2)
    (hag : ∀ i, i < data.length + 2 → lost.getD i false = false → torn.getD i [] = (rowOf data).getD i [])
    (hc : (goneOf (data.length + 2) lost).length ≤ 2) : healS torn lost = rowOf data := by
  have hpos : 0 < data.length := List.length_pos_iff.2 hd
  have hsome : ∃ i, i < torn.length ∧ lost.getD i false = false := by
    refine Classical.byContradiction fun hno => ?_
    have hall : ∀ i, i < data.length + 2 → lost.getD i false = true := by
      intro i hi
      cases hx : lost.getD i false with
      | true => rfl
      | false => exact absurd ⟨i, by omega, hx⟩ hno
    have : goneOf (data.length + 2) lost = List.range (data.length + 2) := by
      rw [goneOf, List.filter_eq_self]
      intro i hi
      exact hall i (by simpa using hi)
    rw [this, List.length_range] at hc
    omega
  have hlen : lastLen torn lost 0 = n := by
    refine lastLen_eq torn lost 0 n (by omega) (fun i hi hx => ?_) (.inr hsome)
    rw [hag i (by omega) hx]
    exact (rowOf_uni h hd).getD (by rw [rowOf_length]; omega)
  have hout : ∀ i, i < data.length + 2 → (cleaned torn lost n).getD i [] = if lost.getD i false then zeros n else (rowOf data).getD i [] := by
    intro i hi
    rw [cleaned_getD torn lost n i (by omega) (by omega)]
    cases hx : lost.getD i false with
    | true => rfl
    | false => simpa using hag i hi hx
  have hk : torn.length - 2 = data.length := by omega
  have htake : ((cleaned torn lost n).take data.length).length = data.length := by rw [List.length_take, cleaned_length]; omega
  have htg : ∀ i, i < data.length → ((cleaned torn lost n).take data.length).getD i [] = if lost.getD i false then zeros n else data.getD i [] := by
    intro i hi
    rw [List.getD_eq_getElem?_getD, List.getElem?_take, if_pos hi, ← List.getD_eq_getElem?_getD, hout i (by omega), rowOf_data data i hi]
  have hp : lost.getD data.length false = false → (cleaned torn lost n).getD data.length [] = pOf data := by
    intro hx; rw [hout _ (by omega), hx, rowOf_p]; rfl
  have hq : lost.getD (data.length + 1) false = false → (cleaned torn lost n).getD (data.length + 1) [] = qOf data := by
    intro hx; rw [hout _ (by omega), hx, rowOf_q]; rfl
  have key : healedS ((cleaned torn lost n).take data.length) (goneOf data.length lost) ((cleaned torn lost n).getD data.length []) ((cleaned torn lost n).getD (data.length + 1) []) (lost.getD data.length false) (lost.getD (data.length + 1) false) = data := by
    have hcc := hc
    rw [gone_succ, gone_succ, List.length_append, List.length_append] at hcc
    have hmem : ∀ i, i ∈ goneOf data.length lost ↔ i < data.length ∧ lost.getD i false = true := fun i => mem_gone
    have hnd := gone_nodup data.length lost
    match hg : goneOf data.length lost with
    | [] =>
      simp only [healedS]
      apply list_ext_getD (d := []) data.length htake rfl
      intro i hi
      rw [htg i hi]
      have : lost.getD i false = false := by
        cases hx : lost.getD i false with
        | false => rfl
        | true => have := (hmem i).2 ⟨hi, hx⟩; rw [hg] at this; cases this
      rw [this]; rfl
    | [i] =>
      have hi := (hmem i).1 (by rw [hg]; simp)
      have e : (cleaned torn lost n).take data.length = data.set i (zeros n) := by
        apply list_ext_getD (d := []) data.length htake (by simp)
        intro j hj
        rw [htg j hj, getD_set _ _ _ _ _ hi.1]
        by_cases ej : j = i
        · subst ej; rw [hi.2]; simp
        · have : lost.getD j false = false := by
            cases hx : lost.getD j false with
            | false => rfl
            | true => have := (hmem j).2 ⟨hj, hx⟩; rw [hg] at this; simp at this; exact absurd this ej
          rw [this, if_neg ej]; rfl
      rw [e]
      refine healedS_one h hd i hi.1 hten _ _ _ _ hp hq ?_
      cases hx : lost.getD data.length false with
      | false => exact .inl rfl
      | true =>
        refine .inr ?_
        cases hy : lost.getD (data.length + 1) false with
        | false => rfl
        | true => rw [hg, hx, hy] at hcc; simp at hcc
    | [i, k] =>
      have hi := (hmem i).1 (by rw [hg]; simp)
      have hkk := (hmem k).1 (by rw [hg]; simp)
      have hik : i ≠ k := by rw [hg] at hnd; simp at hnd; exact hnd
      have e : (cleaned torn lost n).take data.length = (data.set i (zeros n)).set k (zeros n) := by
        apply list_ext_getD (d := []) data.length htake (by simp)
        intro j hj
        rw [htg j hj, getD_set _ _ _ _ _ (by simpa using hkk.1), getD_set _ _ _ _ _ hi.1]
        by_cases ej : j = k
        · subst ej; rw [hkk.2]; simp
        · by_cases ej2 : j = i
          · subst ej2; rw [hi.2]; simp [ej]
          · have : lost.getD j false = false := by
              cases hx : lost.getD j false with
              | false => rfl
              | true => have := (hmem j).2 ⟨hj, hx⟩; rw [hg] at this; simp at this; omega
            rw [this, if_neg ej, if_neg ej2]; rfl
      have hxp : lost.getD data.length false = false := by
        cases hx : lost.getD data.length false with
        | false => rfl
        | true => rw [hg, hx] at hcc; simp only [if_true, List.length_cons, List.length_nil] at hcc; omega
      have hxq : lost.getD (data.length + 1) false = false := by
        cases hx : lost.getD (data.length + 1) false with
        | false => rfl
        | true => rw [hg, hx] at hcc; simp only [if_true, List.length_cons, List.length_nil] at hcc; omega
      rw [e, hp hxp, hq hxq]
      exact healedS_two h hd i k hi.1 hkk.1 hik hten _ _
    | a :: b :: c :: r => rw [hg] at hcc; simp at hcc; omega
  simp only [healS, hk, hlen]
  rw [key]
  rfl
end

end Go.Proofs.Ytmgppnceddnlmaa
