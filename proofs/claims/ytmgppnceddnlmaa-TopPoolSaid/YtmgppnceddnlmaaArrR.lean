/- Contract of array's Read. -/
import Derived.Test.YtmgppnceddnlmaaArrM
namespace Go.Proofs.Ytmgppnceddnlmaa
open Go.RowKit

section
variable (A : Lay) (s : St) (w : World)

set_option maxHeartbeats 1000000 in
set_option maxRecDepth 100000 in
theorem Read_any (block : Int) (h : IsArr w A s) :
    Calls Try.prog 24 #[Ptr A.p, .int .i64 block] w fun e w' => e = .returned (.tuple #[Str (s.read block).1, errV (s.read block).2]) ∧ Ext w w' := by
  have HS := Lib.hid (spot_any A s w block h)
  by_cases hr : block < 0 ∨ (s.rows * (s.n - 2) : Nat) ≤ block
  · have HE : Hid (s.read block = ([], 1)) := Lib.hid (if_pos hr)
    have HP : Hid (s.spotE block = (0, 0, 1)) := Lib.hid (if_pos hr)
    rw [HP.out, errV_pos 1 (by omega)] at HS
    clear hr
    go_enter Try.func24, Try.ntmps24
    go_wp2_with fail
    refine HS.out.mono ?_
    rintro e w1 ⟨rfl, X1⟩
    go_wp2_with fail
    go_ret2
    rw [HE.out]
    exact ⟨rfl, X1.alloc X1.size _⟩
  · obtain ⟨b, rfl⟩ : ∃ b : Nat, block = (b : Int) := ⟨block.toNat, by omega⟩
    have hn3 := h.ok.n3
    have hn10 := h.ok.n10
    have hr20 := h.ok.r20
    have hlt : b / (s.n - 2) < s.rows := (Nat.div_lt_iff_lt_mul (by omega)).2 (by omega)
    have him := Nat.mod_lt b (show s.n - 2 > 0 by omega)
    have HP : Hid (s.spotE b = (lay s.n (b / (s.n - 2)) (b % (s.n - 2)), b / (s.n - 2), 0)) := Lib.hid (if_neg hr)
    have hd := lay_lt s.n (b / (s.n - 2)) (b % (s.n - 2)) (by omega)
    have HR : Hid (s.read b = if s.lost (lay s.n (b / (s.n - 2)) (b % (s.n - 2))) (b / (s.n - 2)) = false then (s.cell (lay s.n (b / (s.n - 2)) (b % (s.n - 2))) (b / (s.n - 2)), 0)
      else if (healE (s.parts (b / (s.n - 2))) (s.losts (b / (s.n - 2)))).2 ≠ 0 then ([], (healE (s.parts (b / (s.n - 2))) (s.losts (b / (s.n - 2)))).2)
      else ((healE (s.parts (b / (s.n - 2))) (s.losts (b / (s.n - 2)))).1.getD (b % (s.n - 2)) [], 0)) := Lib.hid (if_neg hr)
    have hbb : b ≤ 1048576 := by
      have hpb : s.rows * (s.n - 2) ≤ 20 * 8 := Nat.mul_le_mul hr20 (by omega)
      omega
    have hmo : (b : Int) % ((s.n : Int) - 2) = ((b % (s.n - 2) : Nat) : Int) := by
      rw [show (s.n : Int) - 2 = ((s.n - 2 : Nat) : Int) by omega]
      exact (Int.natCast_emod _ _).symm
    have HMO := Lib.hid hmo
    rw [HP.out, errV_zero] at HS
    clear hr hmo
    generalize b / (s.n - 2) = row at *
    generalize b % (s.n - 2) = i at *
    have HD : Hid (lay s.n row i = lay s.n row i) := Lib.hid rfl
    generalize hdk : lay s.n row i = d at *
    go_enter Try.func24, Try.ntmps24
    go_wp2_with fail
    refine HS.out.mono ?_
    rintro e w1 ⟨rfl, X1⟩
    go_upto_region 2 with (fail)
    generalize hw2 : w1.alloc _ = w2
    have X12 : Ext w1 w2 := by rw [← hw2]; exact (Below.refl _ _).alloc (Nat.le_refl _) _
    have X2 := X1.trans X12
    have hrow : Row w2 w1.heap.size 90 #[Num d, Num row] := by rw [← hw2]; exact Row.new _ _ _
    have r0 : w2.cell? ⟨w1.heap.size, 0, none⟩ = some (Num d) := hrow.cell 0
    have r1 : w2.cell? ⟨w1.heap.size, 1, none⟩ = some (Num row) := hrow.cell 1
    have h2 := h.ext X2
    have HL := Lib.hid (lost_any A s w2 d row h2 hd)
    clear hw2
    cases hx : s.lost d row with
    | false =>
      obtain ⟨D, hD, hm, hs, hf, hc⟩ := h2.disk d hd
      have hff : D.failed = false := by
        rw [hf]
        cases q : s.failed d with
        | false => rfl
        | true => rw [St.lost, q] at hx; cases hx
      have HC := Lib.hid (hc row hlt hx)
      have HRd := Lib.hid (fun n => read_ok (A.k d) D (w2.drewN n) row hD hff (by omega) (by omega))
      have HE : Hid (s.read b = (s.cell d row, 0)) := Lib.hid (by rw [HR.out, if_pos hx])
      have c1 := h2.cl
      have c2 := h2.cm hd
      have c3 := h2.ck hd
      have hdI : (d : Int) < (s.n : Int) := by omega
      rw [hx] at HL
      clear hx hff hf hc hm hs HR
      go_wp2_with fail
      refine HL.out.mono ?_
      rintro e w' ⟨rfl, rfl⟩
      go_wp2_with fail
      go_quiet ((go_at_call 53; exact Calls.quiet_of_same ((HRd.out _).mono fun _ _ ⟨h1, h2⟩ => ⟨h1, h2.symm⟩)))
      go_wp2_with fail
      go_ret2
      rw [HE.out, ← HC.out]
      exact ⟨rfl, below_drewN X2⟩
    | true =>
      have HPt := Lib.hid (parts_any A s w2 row h2 hlt)
      rw [hx] at HL
      go_wp2_with fail
      refine HL.out.mono ?_
      rintro e w' ⟨rfl, rfl⟩
      go_wp2_with fail
      refine HPt.out.mono ?_
      rintro e w3 ⟨pa, pc, g, lc, oa, oc, rfl, p1, p2, p3, p4, p5, -, X3, -⟩
      have HH := Lib.hid (Heal_any pa (some ⟨g, 0, none⟩) s.n pc s.n lc (s.parts row) (s.losts row) w3 p1 (p2.sl (losts_length s row) p3 p4))
      have h3 := h2.ext X3
      have c1 := h3.cl
      have HR2 : Hid (s.read b = if (healE (s.parts row) (s.losts row)).2 ≠ 0 then ([], (healE (s.parts row) (s.losts row)).2) else ((healE (s.parts row) (s.losts row)).1.getD i [], 0)) := Lib.hid (by rw [HR.out, if_neg (by rw [hx]; decide)])
      clear HR hx p1 p2
      go_wp2_with fail
      refine HH.out.mono ?_
      rintro e w4 (⟨he, rfl, X4⟩ | ⟨he, g4, c4, rfl, q1, q2, q3, q4, X4⟩)
      · have HE : Hid (s.read b = ([], (healE (s.parts row) (s.losts row)).2)) := Lib.hid (by rw [HR2.out, if_pos he])
        have hpos : 0 < (healE (s.parts row) (s.losts row)).2 := by omega
        rw [errV_pos _ hpos]
        have X := (X2.trans X3).trans X4
        have HPO := Lib.hid (errV_pos _ hpos)
        clear he HR2 hpos
        go_wp2_with fail
        go_ret2
        rw [HE.out]
        simp only [HPO.out]
        exact ⟨rfl, X⟩
      · have HE : Hid (s.read b = ((healE (s.parts row) (s.losts row)).1.getD i [], 0)) := Lib.hid (by rw [HR2.out, if_neg (by omega)])
        have hlen : (healE (s.parts row) (s.losts row)).1.length = s.n := by
          have hpl := parts_length s row
          have e := heal_row h.ok hlt
          rw [e] at he ⊢
          split at he
          · cases he
          · rename_i hh
            rw [if_neg hh]
            exact (healS_length _ _ (by omega)).trans hpl
        rw [hlen]
        have hcell : w4.cell? ⟨g4, i, none⟩ = some (Str ((healE (s.parts row) (s.losts row)).1.getD i [])) := q1.cell (by
          rw [List.getElem?_map, List.getD_eq_getElem?_getD, List.getElem?_eq_getElem (by omega)]; rfl)
        have h4 := h3.ext X4
        have c4' := h4.cl
        have X := (X2.trans X3).trans X4
        have hmo := HMO.out
        have hiI : (i : Int) < (s.n : Int) := by omega
        clear he HR2 hlen q1 c1
        go_wp2_with fail
        go_ret2
        rw [HE.out]
        exact ⟨rfl, X⟩
end
end Go.Proofs.Ytmgppnceddnlmaa
