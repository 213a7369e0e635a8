/- Law ScrubTwo: the plain facts and the walk. -/
import Derived.Test.YtmgppnceddnlmaaHoldB
import Derived.Test.YtmgppnceddnlmaaTold
namespace Go.Proofs.Ytmgppnceddnlmaa
open Go.RowKit

/-- locateE answers 0 or 8 of blocks of one length. -/
theorem locateE_codes {n : Nat} {parts : List Blk} (h3 : 3 ≤ parts.length) (h12 : parts.length ≤ 12) (hu : Uni n parts) (hn : n ≤ 16) : locateE parts = locateS parts ∧ ((locateS parts).2 = 0 ∨ (locateS parts).2 = 8) := by
  have hb := blocksE_of_uni hu hn
  refine ⟨locateE_0 (by omega) (by omega), ?_⟩
  unfold locateS
  simp only
  split
  · exact .inl rfl
  · cases locateFrom parts parts.length 0 with
    | none => exact .inr rfl
    | some i => exact .inl rfl

/-- No part is lost. -/
def Whole (s : St) (row : Nat) : Prop := ∀ d, d < s.n → s.lost d row = false
theorem Whole.any {s : St} {row : Nat} (h : Whole s row) : (s.losts row).any id = false := by
  rw [List.any_eq_false]
  intro b hb
  obtain ⟨i, hi, rfl⟩ := List.getElem_of_mem hb
  have hi' : i < s.n := by rwa [losts_length] at hi
  have e := losts_getD s row i hi'
  rw [List.getD_eq_getElem?_getD, List.getElem?_eq_getElem hi, Option.getD_some] at e
  rw [e, h _ (lay_lt _ _ _ (by omega))]
  decide
theorem Whole.parts {s : St} {row : Nat} (h : Whole s row) (i : Nat) (hi : i < s.n) : (s.parts row).getD i [] = s.cell (lay s.n row i) row := by
  rw [parts_getD s row i hi, St.part, h _ (lay_lt _ _ _ (by omega))]
  rfl
theorem Whole.uni {s : St} {row : Nat} (h : Whole s row) (ok : s.Ok) (hr : row < s.rows) : Uni s.size (s.parts row) := by
  intro b hb
  obtain ⟨i, hi, rfl⟩ := List.getElem_of_mem hb
  have hi' : i < s.n := by rwa [parts_length] at hi
  have e := h.parts i hi'
  rw [List.getD_eq_getElem?_getD, List.getElem?_eq_getElem hi, Option.getD_some] at e
  rw [e]
  exact ok.len _ _ (lay_lt _ _ _ (by omega)) hr (h _ (lay_lt _ _ _ (by omega)))

/-- A scrub of a row that is whole. -/
theorem scrub_whole {s : St} {row : Nat} (h : Whole s row) (ok : s.Ok) (hr : row < s.rows) :
    s.scrub row = if (locateS (s.parts row)).2 ≠ 0 then (s, 0, 8) else if (locateS (s.parts row)).1 < 0 then (s, -1, 0)
      else (s.setCell (lay s.n row (locateS (s.parts row)).1.toNat) row ((healS (s.parts row) (lostAt s.n (locateS (s.parts row)).1.toNat)).getD (locateS (s.parts row)).1.toNat []), (lay s.n row (locateS (s.parts row)).1.toNat : Int), 0) := by
  have hp := parts_length s row
  have hn3 := ok.n3
  have hn10 := ok.n10
  obtain ⟨e1, e2⟩ := locateE_codes (by omega) (by omega) (h.uni ok hr) ok.s16
  rw [St.scrub, if_neg (by rw [h.any]; decide)]
  simp only
  rw [e1]
  by_cases hz : (locateS (s.parts row)).2 = 0
  · have h2 : ¬ (locateS (s.parts row)).2 ≠ 0 := by omega
    rw [if_neg h2, if_neg h2]
    by_cases hneg : (locateS (s.parts row)).1 < 0
    · rw [if_pos hneg, if_pos hneg]
    · rw [if_neg hneg, if_neg hneg]
      have hlt := (locateE_lt (s.parts row) (by rw [e1]; exact hz)).1
      rw [e1, hp] at hlt
      have hi : (locateS (s.parts row)).1.toNat < s.n := by omega
      generalize (locateS (s.parts row)).1.toNat = i at *
      have hc := haveOf_count (s.parts row) (lostAt s.n i) (by rw [lostAt_length]; omega)
      have hg := lostAt_gone s.n i hi
      rw [lostAt_length] at hc
      have hb : blocksE (haveOf (s.parts row) (lostAt s.n i)) = 0 := blocksE_of_uni (n := s.size) (haveOf_all _ _ _ fun j hj _ => (h.uni ok hr).getD hj) ok.s16
      rw [healE_0 (by omega) (by rw [lostAt_length]; omega) (by omega) (by omega), if_neg (fun q => q rfl)]
  · have h8 : (locateS (s.parts row)).2 = 8 := by omega
    have h2 : (locateS (s.parts row)).2 ≠ 0 := by omega
    rw [if_pos h2, if_pos h2, h8]

/-- What locate says where all is right. -/
theorem locateS_clean {parts : List Blk} (h : locateS parts = (-1, 0) ∨ (locateS parts).1 < 0) (h3 : 3 ≤ parts.length) : parts = rowOf (parts.take (parts.length - 2)) := by
  unfold locateS at h
  simp only at h
  split at h
  · rename_i hpq
    have hl : (parts.take (parts.length - 2)).length = parts.length - 2 := by simp
    refine list_ext_getD (d := []) parts.length rfl (by rw [rowOf_length, hl]; omega) fun i hi => ?_
    by_cases c : i < parts.length - 2
    · rw [rowOf_data _ _ (by omega), List.getD_eq_getElem?_getD, List.getD_eq_getElem?_getD, List.getElem?_take, if_pos c]
    · by_cases c2 : i = parts.length - 2
      · have e := rowOf_p (parts.take (parts.length - 2))
        rw [hl] at e
        rw [c2, e, hpq.1]
      · have e := rowOf_q (parts.take (parts.length - 2))
        rw [hl] at e
        rw [show i = parts.length - 2 + 1 by omega, e, hpq.2]
  · exfalso
    revert h
    cases hq : locateFrom parts parts.length 0 with
    | none => simp
    | some i => simp

/-- Two disks have another thing in their only row. -/
def twoPoked (n i k : Nat) (b c : Blk) : St := ((St.new n 1 2).setCell i 0 b).setCell k 0 c
theorem twoPoked_ok (n i k : Nat) (b c : Blk) (h3 : 3 ≤ n) (h10 : n ≤ 10) (hb : b.length = 2) (hc : c.length = 2) : (twoPoked n i k b c).Ok :=
  ((new_ok n 1 2 h3 h10 (by omega) (by omega) (by omega) (by omega)).setCell i 0 b hb).setCell k 0 c hc
theorem twoPoked_whole (n i k : Nat) (b c : Blk) : Whole (twoPoked n i k b c) 0 := fun d _ => by simp [twoPoked, St.setCell, St.lost, St.new]
theorem twoPoked_cell (n i k d : Nat) (b c : Blk) : (twoPoked n i k b c).cell d 0 = if d = k then c else if d = i then b else zeros 2 := by
  simp [twoPoked, St.setCell, St.new]
theorem two_seen (n i k : Nat) (b c : Blk) (h3 : 3 ≤ n) (h10 : n ≤ 10) (hik : i < k) (hk : k < n) (hb : b.length = 2) (hc : c.length = 2) (hz : b ≠ [0, 0]) :
    ((twoPoked n i k b c).scrub 0).2.2 = 8 ∨ ((twoPoked n i k b c).scrub 0).2.2 = 0 ∧ 0 ≤ ((twoPoked n i k b c).scrub 0).2.1 := by
  have ok := twoPoked_ok n i k b c h3 h10 hb hc
  have hw := twoPoked_whole n i k b c
  have hnn : (twoPoked n i k b c).n = n := rfl
  rw [scrub_whole hw ok (by show 0 < 1; omega)]
  split
  · exact .inl rfl
  · rename_i h0
    split
    · rename_i hneg
      exfalso
      have hp := parts_length (twoPoked n i k b c) 0
      rw [hnn] at hp
      have hrow := locateS_clean (.inr hneg) (by omega)
      have hu := hw.uni ok (show 0 < (twoPoked n i k b c).rows by show 0 < 1; omega)
      rw [hp] at hrow
      obtain ⟨i', hi', hli⟩ := lay_surj n 0 i (by omega)
      obtain ⟨k', hk', hlk⟩ := lay_surj n 0 k hk
      have hz2 := rowOf_zeros 2 (n - 2) (by omega)
      have htl : ((twoPoked n i k b c).parts 0 |>.take (n - 2)).length = n - 2 := by simp; omega
      have huni : rowOf ((twoPoked n i k b c).parts 0 |>.take (n - 2)) = rowOf (List.replicate (n - 2) (zeros 2)) := by
        refine row_unique (m := 2) (fun x hx => hu x (List.mem_of_mem_take hx)) (fun x hx => by rw [List.eq_of_mem_replicate hx]; exact zeros_length 2) (fun e => by rw [e] at htl; simp at htl; omega) (by omega) (by rw [htl]; simp) i' k' (by omega) (by omega) fun j hj hji hjk => ?_
        rw [← hrow, hz2, hw.parts j (by rw [hnn]; omega), hnn, twoPoked_cell, if_neg, if_neg, List.getD_eq_getElem?_getD, List.getElem?_replicate, if_pos (by omega)]
        · rfl
        · intro e
          exact hji (lay_inj n 0 j i' (by omega) hi' (e.trans hli.symm))
        · intro e
          exact hjk (lay_inj n 0 j k' (by omega) hk' (e.trans hlk.symm))
      have e1 : ((twoPoked n i k b c).parts 0).getD i' [] = b := by
        rw [hw.parts i' (by rw [hnn]; omega), hnn, hli, twoPoked_cell, if_neg (by omega), if_pos rfl]
      rw [hrow, huni, hz2, List.getD_eq_getElem?_getD, List.getElem?_replicate, if_pos (by omega)] at e1
      exact hz e1.symm
    · exact .inr ⟨rfl, by simp only; omega⟩

theorem fact_scrub : (((St.new 3 1 1).setCell 2 0 [1]).scrub 0).2 = (2, 0) := by kernel_rfl

end Go.Proofs.Ytmgppnceddnlmaa
