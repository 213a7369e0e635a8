/- Contract of array's Rebuild. -/
import Derived.Test.YtmgppnceddnlmaaArrW
namespace Go.Proofs.Ytmgppnceddnlmaa
open Go.RowKit

theorem bldTo_cell (s : St) (d row : Nat) (L : List Blk) (i j : Nat) (hi : i < j) (hj : j ≤ s.n) (h : lay s.n row i = d) : (s.bldTo d row L j).cell d row = L.getD i [] := by
  induction j with
  | zero => omega
  | succ j ih =>
    rw [St.bldTo]
    split
    · rename_i he
      have : i = j := lay_inj s.n row i j (by omega) (by omega) (h.trans he.symm)
      subst this
      show (if d = d ∧ row = row then L.getD i [] else _) = _
      rw [if_pos ⟨rfl, rfl⟩]
    · rename_i he
      refine ih ?_ (by omega)
      have : i ≠ j := by rintro rfl; exact he h
      omega
theorem str_inj {a b : Blk} (h : Str a = Str b) : a = b := by simpa using h

section
variable (A : Lay) (s : St) (w : World)

set_option maxHeartbeats 2000000 in
set_option maxRecDepth 100000 in
theorem Rebuild_any (dI : Int) (h : IsArr w A s) :
    Calls Try.prog 22 #[Ptr A.p, .int .i64 dI] w (Moved A (s.rebuild dI).1 (.tuple #[Num (s.rebuild dI).2.1, errV (s.rebuild dI).2.2]) w) := by
  have hhi := h.hiw
  by_cases hd : dI < 0 ∨ (s.n : Int) ≤ dI
  · have HR := Lib.hid (has_no A s w dI h hd)
    have HE : Hid (s.rebuild dI = (s, 0, 1)) := Lib.hid (if_pos hd)
    clear hd
    go_enter Try.func22, Try.ntmps22
    go_wp2_with fail
    refine HR.out.mono ?_
    rintro e w' ⟨rfl, rfl⟩
    go_wp2_with fail
    go_ret2
    rw [HE.out]
    exact ⟨rfl, h, Keep.refl _ _ _⟩
  · obtain ⟨d, rfl⟩ : ∃ k : Nat, dI = (k : Int) := ⟨dI.toNat, by omega⟩
    have hk : d < s.n := by omega
    have hkI : (d : Int) < (s.n : Int) := by omega
    have HR := Lib.hid (has_yes A s w d h hkI)
    have hn3 := h.ok.n3
    have hn10 := h.ok.n10
    have hr20 := h.ok.r20
    have hs16 := h.ok.s16
    have hble := h.ok.built d
    have c1 := h.cl
    have c2 := h.cm hk
    have c3 := h.ck hk
    have c4 := h.cb hk
    have c5 := h.crows
    have HD : Hid (s.rebuild d = if s.failed d = true ∨ s.built d = s.rows then (s, 0, 6) else
        if (healE (s.parts (s.built d)) (s.losts (s.built d))).2 ≠ 0 then (s, 0, (healE (s.parts (s.built d)) (s.losts (s.built d))).2)
        else ((s.bldTo d (s.built d) (healE (s.parts (s.built d)) (s.losts (s.built d))).1 s.n).setBuilt d (s.built d + 1), s.rows - (s.built d + 1), 0)) :=
      Lib.hid (by rw [St.rebuild, if_neg hd, Int.toNat_natCast])
    obtain ⟨D, hDk, -, -, hf, -⟩ := h.disk d hk
    have HW := Lib.hid (fun n => works_any (A.k d) D (w.drewN n) hDk)
    rw [hf] at HW
    clear hf hd
    cases hx : s.failed d with
    | true =>
      have HE : Hid (s.rebuild d = (s, 0, 6)) := Lib.hid (by rw [HD.out, if_pos (.inl hx)])
      rw [hx] at HW
      clear hx HD
      go_enter Try.func22, Try.ntmps22
      go_wp2_with fail
      refine HR.out.mono ?_
      rintro e w' ⟨rfl, rfl⟩
      go_wp2_with fail
      go_quiet ((go_at_call 51; exact Calls.quiet_of_same ((HW.out _).mono fun _ _ ⟨h1, h2⟩ => ⟨h1, h2.symm⟩)))
      go_wp2_with fail
      go_ret2
      rw [HE.out]
      exact ⟨rfl, h.same (below_drewN (Ext.refl w))⟩
    | false =>
      rw [hx] at HW
      by_cases hb : s.built d = s.rows
      · have HE : Hid (s.rebuild d = (s, 0, 6)) := Lib.hid (by rw [HD.out, if_pos (.inr hb)])
        rw [hb] at c4
        clear hx HD hb
        go_enter Try.func22, Try.ntmps22
        go_wp2_with fail
        refine HR.out.mono ?_
        rintro e w' ⟨rfl, rfl⟩
        go_wp2_with fail
        go_quiet ((go_at_call 51; exact Calls.quiet_of_same ((HW.out _).mono fun _ _ ⟨h1, h2⟩ => ⟨h1, h2.symm⟩)))
        go_wp2_with fail
        go_ret2
        rw [HE.out]
        exact ⟨rfl, h.same (below_drewN (Ext.refl w))⟩
      · have hlt : s.built d < s.rows := by omega
        have HB := Lib.hid (show s.built d = s.built d from rfl)
        have HD2 : Hid (s.rebuild d = if (healE (s.parts (s.built d)) (s.losts (s.built d))).2 ≠ 0 then (s, 0, (healE (s.parts (s.built d)) (s.losts (s.built d))).2)
          else ((s.bldTo d (s.built d) (healE (s.parts (s.built d)) (s.losts (s.built d))).1 s.n).setBuilt d (s.built d + 1), s.rows - (s.built d + 1), 0)) :=
          Lib.hid (by rw [HD.out, if_neg (by simp [hx, hb])])
        have hbs : s.built d = s.built d := rfl
        clear HB HD
        have hbI : ((s.built d : Int) == (s.rows : Int)) = false := by rw [beq_eq_false_iff_ne]; omega
        generalize hrow : s.built d = row at *
        have HX := Lib.hid hx
        have HRW := Lib.hid hrow
        clear hbs hx hrow hb
        go_enter Try.func22, Try.ntmps22
        go_wp2_with fail
        refine HR.out.mono ?_
        rintro e w' ⟨rfl, rfl⟩
        go_wp2_with fail
        go_quiet ((go_at_call 51; exact Calls.quiet_of_same ((HW.out _).mono fun _ _ ⟨h1, h2⟩ => ⟨h1, h2.symm⟩)))
        generalize hw2 : w.drewN nq = w2
        have X2 : Ext w w2 := by rw [← hw2]; exact below_drewN (Ext.refl w)
        have h2 := h.ext X2
        have d4 := h2.cb hk
        rw [HRW.out] at d4
        have HPt := Lib.hid (parts_any A s w2 row h2 hlt)
        clear hw2
        go_wp2_with fail
        refine HPt.out.mono ?_
        rintro e w3 ⟨pa, pc, g, lc, oa, oc, rfl, p1, p2, p3, p4, p5, po, X3, pob, -⟩
        have HH := Lib.hid (Heal_any pa (some ⟨g, 0, none⟩) s.n pc s.n lc (s.parts row) (s.losts row) w3 p1 (p2.sl (losts_length s row) p3 p4))
        have h3 := h2.ext X3
        clear p1 p2
        go_wp2_with fail
        refine HH.out.mono ?_
        rintro e w4 (⟨he, rfl, X4⟩ | ⟨he, g4, c4, rfl, q1, q2, q3, q4, X4⟩)
        · have HE : Hid (s.rebuild d = (s, 0, (healE (s.parts row) (s.losts row)).2)) := Lib.hid (by rw [HD2.out, if_pos he])
          have hpos : 0 < (healE (s.parts row) (s.losts row)).2 := by omega
          have HPO := Lib.hid (errV_pos _ hpos)
          rw [errV_pos _ hpos]
          have X := (X2.trans X3).trans X4
          clear he HD2 hpos
          go_wp2_with fail
          go_ret2
          rw [HE.out]
          simp only [Moved, HPO.out]
          exact ⟨rfl, h.same X⟩
        · have hk2 : s.lostN row ≤ 2 := by
            rw [heal_row h.ok hlt] at he
            split at he
            · cases he
            · omega
          have HHR := Lib.hid (show healE (s.parts row) (s.losts row) = (healS (s.parts row) (s.losts row), 0) by rw [heal_row h.ok hlt, if_neg (by omega)])
          have hu := heal_uni h.ok hlt hk2
          have hlen : (healS (s.parts row) (s.losts row)).length = s.n := by
            have hpl := parts_length s row
            exact (healS_length _ _ (by omega)).trans hpl
          rw [HHR.out] at q1 q2 HD2 ⊢
          have HE : Hid (s.rebuild d = ((s.bldTo d row (healS (s.parts row) (s.losts row)) s.n).setBuilt d (row + 1), s.rows - (row + 1), 0)) := Lib.hid (by rw [HD2.out]; exact if_neg (fun q => q rfl))
          generalize healS (s.parts row) (s.losts row) = L at *
          simp only at q1 q2 ⊢
          rw [hlen] at q2 ⊢
          have h4 := h3.ext X4
          have X := (X2.trans X3).trans X4
          have O4 := po.ext X4
          have K4 : Keep A.lo A.hi w w4 := Keep.of_ext X
          have hg4 : A.hi ≤ g4 := Nat.le_trans (Nat.le_trans hhi (X2.trans X3).size) q4
          have hobk : ∀ y, oa = some y → y.block < A.lo ∨ A.hi ≤ y.block := by
            intro y hy
            have := pob y hy
            have := X2.size
            exact .inr (by omega)
          have HLl := Lib.hid hlen
          have HLu := Lib.hid hu
          clear he HD2 HHR hlen hu po
          go_wp2_with fail
          go_loopw [72] (fun ix wr => ∃ j : Nat, j ≤ s.n ∧ ix = .int .i64 j ∧ IsArr wr A (s.bldTo d row L j) ∧ Keep A.lo A.hi w4 wr ∧
            ∀ i, i < j → lay s.n row i = d → wr.cell? ⟨A.k d, row, none⟩ = some (Str (L.getD i []))) (fun ix _ => s.n - (intOf ix).toNat)
          case atStart => exact ⟨0, by omega, rfl, h4, Keep.refl _ _ _, fun i hi => absurd hi (Nat.not_lt_zero _)⟩
          case round =>
            obtain ⟨j, hj, rfl, ht, K, hcell⟩ := hrel
            by_cases hlt2 : (j : Int) < (s.n : Int)
            · have Or := O4.keep K hobk
              have Qr := q1.keep K (.inr hg4)
              obtain ⟨go, oo, z, rfl, hz, cz⟩ := Or.get (i := j) (by omega)
              rw [order_get s.n row j (by omega)] at hz
              obtain rfl := Option.some.inj hz
              have cL : wr.cell? ⟨g4, j, none⟩ = some (Str (L.getD j [])) := Qr.cell (by
                have := HLl.out
                rw [List.getElem?_map, List.getD_eq_getElem?_getD, List.getElem?_eq_getElem (by omega)]; rfl)
              have hjL : (L.getD j []).length = s.size := HLu.out.getD (by rw [HLl.out]; omega)
              have tn := bldTo_n s row L j d
              have tr := bldTo_rows s row L j d
              have tz := bldTo_size s row L j d
              have tf := bldTo_failed s row L j d
              by_cases hx : lay s.n row j = d
              · have hxI : (((lay s.n row j : Nat) : Int) == (d : Int)) = true := by rw [hx]; simp
                have HPT : Hid (s.bldTo d row L (j + 1) = (s.bldTo d row L j).setCell d row (L.getD j [])) := Lib.hid (by rw [St.bldTo, if_pos hx])
                obtain ⟨D, hD, hm, hs, hf, hc⟩ := ht.disk d (by omega)
                have hff : D.failed = false := by rw [hf, tf]; exact HX.out
                have HW := Lib.hid (write_ok (A.k d) D wr.drew row (L.getD j []) hD hff (by omega) (by omega) (by omega))
                have HT := fun (w' : World) (y : Int) => IsArr.put (w := wr) (w' := w') (row := row) (b := L.getD j []) (x := y) ht (d := d) (by omega) (by omega) hm hs hf hc
                have e3 := ht.ck (d := d) (by omega)
                have klo := (ht.klo d (by omega)).1
                have khi := (ht.klo d (by omega)).2
                have HXX := Lib.hid hx
                have hinj := Lib.hid (fun i => lay_inj s.n row i j)
                clear hx hff hf hc hm hs tn tr tz tf
                go_upto_region 17 with (fail)
                go_still_tail 9, (by kernel_rfl)
                go_wp2_with fail
                refine HW.out.mono ?_
                rintro e w' ⟨rfl, ⟨y, q⟩, hg⟩
                have hg' : wr.grownBy w' (some (A.k d)) := ⟨hg.os, hg.tape, hg.output, hg.size, hg.block⟩
                have HA := Lib.hid (HT w' y q hg')
                have HK := Lib.hid (K.trans (Keep.of_grown hg' klo khi))
                have HC : Hid (w'.cell? ⟨A.k d, row, none⟩ = some (Str (L.getD j []))) := by
                  have e1 := IsDisk.row q (i := row) (by omega)
                  simp only [if_pos] at e1
                  exact Lib.hid e1
                clear hg hg' q HT HW hD ht K
                go_wp2_with fail
                go_roundw
                case rel =>
                  refine ⟨j + 1, by omega, by go_num, by rw [HPT.out]; exact HA.out, HK.out, fun i hi hl => ?_⟩
                  have : i = j := hinj.out i (by omega) (by omega) (hl.trans HXX.out.symm)
                  rw [this]
                  exact HC.out
                case measure => simp [intOf]; omega
              · have hxI : (((lay s.n row j : Nat) : Int) == (d : Int)) = false := by rw [beq_eq_false_iff_ne]; omega
                have HPT : Hid (s.bldTo d row L (j + 1) = s.bldTo d row L j) := Lib.hid (by rw [St.bldTo, if_neg hx])
                have HXX := Lib.hid hx
                clear hx tn tr tz tf
                go_wp2_with fail
                go_roundw
                case rel =>
                  refine ⟨j + 1, by omega, by go_num, by rw [HPT.out]; exact ht, K, fun i hi hl => hcell i ?_ hl⟩
                  have : i ≠ j := by rintro rfl; exact HXX.out hl
                  omega
                case measure => simp [intOf]; omega
            · have hjn : j = s.n := by omega
              rw [hjn] at ht hcell
              obtain ⟨i0, hi0, hl0⟩ := lay_surj s.n row d hk
              have hc0 := hcell i0 hi0 hl0
              rw [← bldTo_cell s d row L i0 s.n hi0 (Nat.le_refl _) hl0] at hc0
              have hok : (s.bldTo d row L s.n).Ok := ht.ok
              have hlen0 : ((s.bldTo d row L s.n).cell d row).length = s.size := by
                rw [bldTo_cell s d row L i0 s.n hi0 (Nat.le_refl _) hl0]
                exact HLu.out.getD (by rw [HLl.out]; omega)
              have tb : (s.bldTo d row L s.n).built d = row := by rw [bldTo_built]; exact HRW.out
              have tf : (s.bldTo d row L s.n).failed d = false := by rw [bldTo_failed]; exact HX.out
              have tn := bldTo_n s row L s.n d
              have tr := bldTo_rows s row L s.n d
              have tz := bldTo_size s row L s.n d
              generalize s.bldTo d row L s.n = t at *
              obtain ⟨D, hD, hm, hs, hf, hc⟩ := ht.disk d (by omega)
              have hcr : D.c row = t.cell d row := by
                have e1 := hD.row (i := row) (by omega)
                rw [hc0] at e1
                exact (str_inj (Option.some.inj e1)).symm
              have hlost : ∀ r, (t.setBuilt d (row + 1)).lost d r = false → r ≠ row → t.lost d r = false := by
                intro r hl hne
                simp only [St.lost, St.setBuilt, if_pos, Bool.or_eq_false_iff, decide_eq_false_iff_not] at hl ⊢
                exact ⟨hl.1, by omega⟩
              have hok2 : (t.setBuilt d (row + 1)).Ok :=
                { hok with
                  built := fun e => by
                    show (if e = d then row + 1 else t.built e) ≤ t.rows
                    split
                    · omega
                    · exact hok.built e
                  len := fun e r he hr hl => by
                    by_cases hed : e = d
                    · subst hed
                      by_cases hrr : r = row
                      · subst hrr
                        exact hlen0.trans tz.symm
                      · exact hok.len e r he hr (hlost r hl hrr)
                    · refine hok.len e r he hr ?_
                      simpa [St.lost, St.setBuilt, hed] using hl }
              have HA := Lib.hid (ht.turnBuilt (d := d) (by omega) (row + 1) hD hm hs hf (fun r hr hl => by
                by_cases hrr : r = row
                · rw [hrr]; exact hcr
                · exact hc r hr (hlost r hl hrr)) hok2)
              have m1 := (ht.mlo d (by omega)).1
              have m2 := (ht.mlo d (by omega)).2
              have e4 := ht.cb (d := d) (by omega)
              rw [tb] at e4
              have f4 := ht.fb (d := d) (by omega)
              have HTR := Lib.hid tr
              clear hjn hcell hc hcr hlost hok hok2 hD hm hs hf tf hlen0 hc0 tz
              go_upto_region 22 with (fail)
              have hn5 : (row : Int) + 1 = ((row + 1 : Nat) : Int) := by omega
              rw [hn5]
              generalize hw5 : wr.setCell _ _ = w5
              have A5 : IsArr w5 A (t.setBuilt d (row + 1)) := by rw [← hw5]; exact HA.out
              have K5 : Keep A.lo A.hi w w5 := by rw [← hw5]; exact (K4.trans K).trans (Keep.setCell _ _ m1 m2)
              have r5 := A5.crows
              have e5 := A5.cb (d := d) (by show d < t.n; omega)
              rw [show (t.setBuilt d (row + 1)).rows = s.rows from tr] at r5
              rw [show (t.setBuilt d (row + 1)).built d = row + 1 by simp [St.setBuilt]] at e5
              clear hw5 HA ht hn5 tb tn tr
              go_quiet (fail)
              go_wp2_with fail
              refine bodyPost_ret (v := .tuple #[Num (s.rows - (row + 1)), .nilIface]) ?_ rfl ?_
              · have e1 : (s.rows : Int) - ((row : Int) + 1) = ((s.rows - (row + 1) : Nat) : Int) := by omega
                rw [e1]
                simp [results, Try.results22, go_sem]
              · rw [HE.out]
                exact ⟨rfl, A5.ext (below_drewN (Ext.refl w5)), K5.trans (Keep.of_ext (below_drewN (Ext.refl w5)))⟩
end
end Go.Proofs.Ytmgppnceddnlmaa
