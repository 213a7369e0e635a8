/- Contracts of package scrub: Row. -/
import Derived.Test.YtmgppnceddnlmaaDoorArrN
import Derived.Test.YtmgppnceddnlmaaDoorLocate
import Derived.Deep.RegionHeld3
namespace Go.Proofs.YtmgppnceddnlmaaDoor
open Go.RowKit

theorem any_take (l : List Bool) (k : Nat) (h : l[k]? = some false) (ha : (l.take k).any id = false) : (l.take (k + 1)).any id = false := by
  rw [List.take_add_one, h]
  simp [List.any_append, ha]
theorem any_hit (l : List Bool) (k : Nat) (h : l[k]? = some true) : l.any id = true :=
  List.any_eq_true.2 ⟨true, List.mem_of_getElem? h, rfl⟩

set_option maxRecDepth 100000 in
theorem index_true (a : Option Addr) (n cap : Nat) (l : List Bool) (w : World) (h : Sl w Boo a n cap l) :
    Calls Tryd.prog 97 #[.slice a n cap, .bool true] w fun e w' => ∃ r : Int, e = .returned (.int .i64 r) ∧ decide (0 ≤ r) = l.any id ∧ w = w' := by
  have hl := h.len
  have hb := h.bound
  go_enter Tryd.func97, Tryd.ntmps97
  go_wp2_with fail
  go_loop [8] (fun i => ∃ k : Nat, k ≤ n ∧ i = .int .i64 k ∧ Hid ((l.take k).any id = false)) (fun i => n - (intOf i).toNat)
  case atStart => exact ⟨0, by omega, rfl, Lib.hid rfl⟩
  case round =>
    obtain ⟨k, hk, rfl, HA⟩ := hrel
    by_cases hlt : (k : Int) < (n : Int)
    · obtain ⟨g, off, x, rfl, hx, hc⟩ := h.get (i := k) (by omega)
      cases x with
      | true =>
        have HX := Lib.hid (any_hit l k hx)
        clear hx
        go_wp2_with fail
        go_ret
        exact ⟨k, rfl, by rw [HX.out]; simp, rfl⟩
      | false =>
        have HX := Lib.hid (any_take l k hx HA.out)
        clear hx
        go_wp2_with fail
        go_round
        case rel => exact ⟨k + 1, by omega, by go_num, HX⟩
        case measure => simp [intOf]; omega
    · have hk2 : k = n := by omega
      have HX : Hid (l.any id = false) := by
        have := HA.out
        rw [hk2, ← hl, List.take_length] at this
        exact Lib.hid this
      clear hk2 hl
      go_wp2_with fail
      go_ret
      exact ⟨-1, rfl, by rw [HX.out]; decide, rfl⟩

set_option maxRecDepth 100000 in
theorem contains_true (a : Option Addr) (n cap : Nat) (l : List Bool) (w : World) (h : Sl w Boo a n cap l) :
    Calls Tryd.prog 66 #[.slice a n cap, .bool true] w fun e w' => e = .returned (.bool (l.any id)) ∧ w = w' := by
  have HI := Lib.hid (index_true a n cap l w h)
  go_enter Tryd.func66, Tryd.ntmps66
  go_wp2_with fail
  refine HI.out.mono ?_
  rintro e w' ⟨r, rfl, hr, rfl⟩
  have HR := Lib.hid hr
  clear hr
  go_wp2_with fail
  go_ret
  exact ⟨ret_val (congrArg Value.bool HR.out), rfl⟩

/-- What scrub.Row does at a row: of so many disks. -/
def St.scrubE (s : St) (n row : Int) : St × Int × Nat :=
  if n < 3 ∨ 10 < n then (s, 0, 1) else if row < 0 ∨ (s.rows : Int) ≤ row then (s, 0, 1) else if n ≠ s.n then (s, 0, 3) else s.scrub row.toNat

theorem any_losts (s : St) (row : Nat) (h : (s.losts row).any id = false) (i : Nat) (hi : i < s.n) : s.lost (lay s.n row i) row = false := by
  have := List.any_eq_false.1 h (s.lost (lay s.n row i) row) (by
    rw [St.losts]
    exact List.mem_map.2 ⟨lay s.n row i, by rw [order]; exact List.mem_map.2 ⟨i, by simpa using hi, rfl⟩, rfl⟩)
  simpa using this
theorem losts_none (s : St) (row : Nat) (h : (s.losts row).any id = false) : s.losts row = List.replicate s.n false := by
  apply List.eq_replicate_iff.2
  refine ⟨losts_length s row, fun b hb => ?_⟩
  have := List.any_eq_false.1 h b hb
  simpa using this
theorem locateFrom_lt (parts : List Blk) : ∀ (f i k : Nat), locateFrom parts f i = some k → i ≤ k ∧ k < i + f
  | 0, _, _, h => by simp [locateFrom] at h
  | f + 1, i, k, h => by
    rw [locateFrom] at h
    split at h
    · have := Option.some.inj h
      omega
    · have := locateFrom_lt parts f (i + 1) k h
      omega
theorem locateE_lt (parts : List Blk) (h0 : (locateE parts).2 = 0) : (locateE parts).1 < (parts.length : Int) ∧ -1 ≤ (locateE parts).1 := by
  unfold locateE at *
  split at h0
  · cases h0
  · rename_i h1
    rw [if_neg h1]
    split at h0
    · rename_i h2
      exact absurd h0 h2
    · rename_i h2
      rw [if_neg h2]
      unfold locateS at *
      simp only at *
      split at h0
      · rename_i h3
        rw [if_pos h3]
        simp only
        omega
      · rename_i h3
        rw [if_neg h3]
        cases hq : locateFrom parts parts.length 0 with
        | none => simp only; omega
        | some i =>
          have := locateFrom_lt parts _ _ _ hq
          simp only
          omega

theorem locateE_err (parts : List Blk) (h0 : (locateE parts).2 ≠ 0) : (locateE parts).1 = 0 := by
  unfold locateE at *
  split at h0
  · rename_i h1
    rw [if_pos h1]
  · rename_i h1
    rw [if_neg h1]
    split at h0
    · rename_i h2
      rw [if_pos h2]
    · rename_i h2
      rw [if_neg h2]
      unfold locateS at *
      simp only at *
      split at h0
      · exact absurd rfl h0
      · rename_i h3
        rw [if_neg h3]
        cases hq : locateFrom parts parts.length 0 with
        | none => rfl
        | some i =>
          rw [hq] at h0
          exact absurd rfl h0
theorem lostAt_eq (n i : Nat) : lostAt n i = (List.replicate n false).set i true := rfl

theorem heal_at_uni {s : St} (h : s.Ok) {row i : Nat} (hr : row < s.rows) (hi : i < s.n) (hany : (s.losts row).any id = false) : Uni s.size (healS (s.parts row) (lostAt s.n i)) := by
  have hp := parts_length s row
  have hn3 := h.n3
  have hlen : ∀ j, j < s.n → ((s.parts row).getD j []).length = s.size := fun j hj => part_len h hr hj (by rw [losts_getD s row j hj]; exact any_losts s row hany j hj)
  refine healS_uni s.size _ _ (by omega) (by rw [lostAt_length, hp]) (fun j hj _ => hlen j (by omega)) (lastLen_eq _ _ _ _ (by rw [lostAt_length, hp]) (fun j hj _ => hlen j (by omega)) (.inr ?_))
  by_cases e : i = 0
  · exact ⟨1, by omega, by rw [lostAt_getD _ _ _ hi]; simp; omega⟩
  · exact ⟨0, by omega, by rw [lostAt_getD _ _ _ hi]; simp; omega⟩

set_option maxHeartbeats 2000000 in
set_option maxRecDepth 100000 in
theorem Row_any (A : Lay) (s : St) (n row : Int) (w : World) (h : IsArr w A s) :
    Calls Tryd.prog 18 #[Ptr A.p, .int .i64 n, .int .i64 row] w (Moved A (s.scrubE n row).1 (.tuple #[.int .i64 (s.scrubE n row).2.1, errV (s.scrubE n row).2.2]) w) := by
  have hhi := h.hiw
  by_cases hn : n < 3 ∨ 10 < n
  · have HE : Hid (s.scrubE n row = (s, 0, 1)) := Lib.hid (if_pos hn)
    have HC := Lib.hid (check_no n w hn)
    rw [errV_pos 1 (by omega)] at HC
    clear hn
    go_enter Tryd.func18, Tryd.ntmps18
    go_wp2_with fail
    refine HC.out.mono ?_
    rintro e w' ⟨rfl, rfl⟩
    go_wp2_with fail
    go_ret2
    rw [HE.out]
    exact ⟨rfl, h, Keep.refl _ _ _⟩
  · have HC := Lib.hid (check_yes n w (by omega) (by omega))
    by_cases hr : row < 0 ∨ (s.rows : Int) ≤ row
    · have HE : Hid (s.scrubE n row = (s, 0, 1)) := Lib.hid ((if_neg hn).trans (if_pos hr))
      have HR := Lib.hid (Raw_no A s w row h hr)
      rw [errV_pos 1 (by omega)] at HR
      clear hn hr
      go_enter Tryd.func18, Tryd.ntmps18
      go_wp2_with fail
      refine HC.out.mono ?_
      rintro e w' ⟨rfl, rfl⟩
      go_wp2_with fail
      refine HR.out.mono ?_
      rintro e w' ⟨rfl, rfl⟩
      go_wp2_with fail
      go_ret2
      rw [HE.out]
      exact ⟨rfl, h, Keep.refl _ _ _⟩
    · obtain ⟨r, rfl⟩ : ∃ r : Nat, row = (r : Int) := ⟨row.toNat, by omega⟩
      have hrr : r < s.rows := by omega
      have HR := Lib.hid (Raw_ok A s w r h hrr)
      by_cases hne : n = (s.n : Int)
      · subst hne
        have hn3 := h.ok.n3
        have hn10 := h.ok.n10
        have hr20 := h.ok.r20
        have HE0 : Hid (s.scrubE s.n r = s.scrub r) := Lib.hid ((if_neg hn).trans ((if_neg hr).trans (if_neg (fun q => q rfl))))
        have hneI : ((s.n : Int) != (s.n : Int)) = false := by simp
        clear hn hr
        go_enter Tryd.func18, Tryd.ntmps18
        go_wp2_with fail
        refine HC.out.mono ?_
        rintro e w' ⟨rfl, rfl⟩
        go_wp2_with fail
        refine HR.out.mono ?_
        rintro e w1 ⟨pa, pc, g, lc, rfl, p1, p2, p3, p4, p5, X1, hpg⟩
        have hls := p2.sl (losts_length s r) p3 p4
        have HCt := Lib.hid (contains_true (some ⟨g, 0, none⟩) s.n lc (s.losts r) w1 hls)
        cases hany : (s.losts r).any id with
        | true =>
          have HE : Hid (s.scrubE s.n r = (s, 0, 6)) := Lib.hid (by rw [HE0.out, St.scrub, if_pos hany])
          rw [hany] at HCt
          clear hany HE0 p1 p2 hls
          go_wp2_with fail
          refine HCt.out.mono ?_
          rintro e w' ⟨rfl, rfl⟩
          go_wp2_with fail
          go_ret2
          rw [HE.out]
          exact ⟨rfl, h.same X1⟩
        | false =>
          rw [hany] at HCt
          have hnl := losts_none s r hany
          have HL := Lib.hid (Locate_any pa s.n pc (s.parts r) w1 p1)
          have HE1 : Hid (s.scrubE s.n r = if (locateE (s.parts r)).2 ≠ 0 then (s, 0, (locateE (s.parts r)).2) else if (locateE (s.parts r)).1 < 0 then (s, -1, 0) else
              if (healE (s.parts r) (lostAt s.n (locateE (s.parts r)).1.toNat)).2 ≠ 0 then (s, 0, (healE (s.parts r) (lostAt s.n (locateE (s.parts r)).1.toNat)).2)
              else (s.setCell (lay s.n r (locateE (s.parts r)).1.toNat) r ((healE (s.parts r) (lostAt s.n (locateE (s.parts r)).1.toNat)).1.getD (locateE (s.parts r)).1.toNat []), (lay s.n r (locateE (s.parts r)).1.toNat : Int), 0)) :=
            Lib.hid (by rw [HE0.out, St.scrub, if_neg (by rw [hany]; decide)])
          have HANY := Lib.hid hany
          have hpl := parts_length s r
          clear hany HE0
          go_wp2_with fail
          refine HCt.out.mono ?_
          rintro e w' ⟨rfl, rfl⟩
          go_wp2_with fail
          refine HL.out.mono ?_
          rintro e w2 ⟨rfl, X2⟩
          have X12 := X1.trans X2
          by_cases hlo : (locateE (s.parts r)).2 = 0
          · obtain ⟨hlt, hge⟩ := locateE_lt (s.parts r) hlo
            rw [hpl] at hlt
            rw [hlo, errV_zero]
            by_cases hneg : (locateE (s.parts r)).1 < 0
            · have hm1 : (locateE (s.parts r)).1 = -1 := by omega
              have HE : Hid (s.scrubE s.n r = (s, -1, 0)) := Lib.hid (by rw [HE1.out, if_neg (by omega), if_pos hneg])
              rw [hm1]
              have hdn : decide ((-1 : Int) < 0) = true := by decide
              clear hlo hneg hlt hge hm1 HE1 p1 p2 hls hnl HL
              go_wp2_with fail
              go_ret2
              rw [HE.out]
              exact ⟨rfl, h.same X12⟩
            · obtain ⟨i, hi⟩ : ∃ i : Nat, (locateE (s.parts r)).1 = (i : Int) := ⟨(locateE (s.parts r)).1.toNat, by omega⟩
              rw [hi] at hlt ⊢
              have hin : i < s.n := by omega
              have HE2 : Hid (s.scrubE s.n r = if (healE (s.parts r) (lostAt s.n i)).2 ≠ 0 then (s, 0, (healE (s.parts r) (lostAt s.n i)).2)
                  else (s.setCell (lay s.n r i) r ((healE (s.parts r) (lostAt s.n i)).1.getD i []), (lay s.n r i : Int), 0)) :=
                Lib.hid (by rw [HE1.out, if_neg (by omega), if_neg hneg, hi]; rfl)
              have hdn : decide ((i : Int) < 0) = false := by simp
              have p1' := p1.ext X2
              have p2' := p2.ext X2
              have h2 := h.ext X12
              have HOr := Lib.hid (order_any s.n r w2 hn3 hn10 (by omega))
              clear hlo hneg hge hi HE1 p1 p2 hls HL
              go_wp2_with fail
              refine HOr.out.mono ?_
              rintro e w3 ⟨oa, oc, rfl, ho, X3, hob⟩
              have p2'' := p2'.ext X3
              rw [hnl] at p2''
              have cl : w3.cell? ⟨g, i, none⟩ = some (Boo false) := p2''.cell (by simp [hin])
              have fl := p2''.free i
              have hg3 : w.heap.size ≤ g := p5
              go_upto_region 18 with (fail)
              generalize hw4 : w3.setCell _ _ = w4
              have P4 : Pre w4 g 4 ((lostAt s.n i).map Boo) := by
                have e1 := p2''.set i (by simpa using hin) (Boo true)
                rw [← List.map_set, ← lostAt_eq] at e1
                rw [← hw4]
                exact e1
              have X4 : Ext w w4 := by
                rw [← hw4]
                exact (X12.trans X3).setCell hg3 _
              have L4 : Sl w4 Str pa s.n pc (s.parts r) := by
                rw [← hw4]
                refine (p1'.ext X3).grown (grownBy_setCell _ _ _) hpg.off
              have O4 : Sl w4 Num oa s.n oc (order s.n r) := by
                rw [← hw4]
                refine ho.grown (grownBy_setCell _ _ _) fun y hy => ?_
                have e1 := hob y hy
                have e2 := p2'.lt
                show y.block ≠ g
                omega
              have HH := Lib.hid (Heal_any pa (some ⟨g, 0, none⟩) s.n pc s.n lc (s.parts r) (lostAt s.n i) w4 L4 (P4.sl (lostAt_length _ _) p3 p4))
              clear hw4 L4 P4 p2'' p2' p1' cl fl
              go_wp2_with fail
              refine HH.out.mono ?_
              rintro e w5 (⟨he, rfl, X5⟩ | ⟨he, g5, c5, rfl, q1, q2, q3, q4, X5⟩)
              · have HE : Hid (s.scrubE s.n r = (s, 0, (healE (s.parts r) (lostAt s.n i)).2)) := Lib.hid (by rw [HE2.out, if_pos he])
                have hpos : 0 < (healE (s.parts r) (lostAt s.n i)).2 := by omega
                have HPO := Lib.hid (errV_pos _ hpos)
                rw [errV_pos _ hpos]
                have X := X4.trans X5
                clear he HE2 hpos
                go_wp2_with fail
                go_ret2
                rw [HE.out]
                simp only [Moved, HPO.out]
                exact ⟨rfl, h.same X⟩
              · have hhe : healE (s.parts r) (lostAt s.n i) = (healS (s.parts r) (lostAt s.n i), 0) := by
                  unfold healE at he ⊢
                  split at he
                  · cases he
                  · rename_i e1
                    rw [if_neg e1]
                    split at he
                    · cases he
                    · rename_i e2
                      rw [if_neg e2]
                      split at he
                      · cases he
                      · rename_i e3
                        rw [if_neg e3]
                        split at he
                        · rename_i e4
                          exact absurd he e4
                        · rename_i e4
                          rw [if_neg e4]
                have hu := heal_at_uni h.ok hrr hin HANY.out
                have hlen : (healS (s.parts r) (lostAt s.n i)).length = s.n := (healS_length _ _ (by omega)).trans hpl
                rw [hhe] at q1 q2 HE2 ⊢
                have HE : Hid (s.scrubE s.n r = (s.setCell (lay s.n r i) r ((healS (s.parts r) (lostAt s.n i)).getD i []), (lay s.n r i : Int), 0)) := Lib.hid (by rw [HE2.out]; exact if_neg (fun q => q rfl))
                generalize healS (s.parts r) (lostAt s.n i) = L at *
                simp only at q1 q2 ⊢
                rw [hlen] at q2 ⊢
                have h5 := h.ext (X4.trans X5)
                have O5 := O4.ext X5
                obtain ⟨go, oo, z, rfl, hz, cz⟩ := O5.get (i := i) hin
                rw [order_get s.n r i hin] at hz
                obtain rfl := Option.some.inj hz
                have cL : w5.cell? ⟨g5, i, none⟩ = some (Str (L.getD i [])) := q1.cell (by
                  rw [List.getElem?_map, List.getD_eq_getElem?_getD, List.getElem?_eq_getElem (by omega)]; rfl)
                have hjL : (L.getD i []).length = s.size := hu.getD (by omega)
                have hzo : go < A.lo ∨ A.hi ≤ go := by
                  have e1 := hob ⟨go, oo, none⟩ rfl
                  have e2 := X12.size
                  simp only at e1
                  exact .inr (by omega)
                have hLo : g5 < A.lo ∨ A.hi ≤ g5 := by
                  have e2 := X4.size
                  exact .inr (by omega)
                have hd := lay_lt s.n r i (by omega)
                have hlost := any_losts s r HANY.out i hin
                have HP := Lib.hid (Poke_any A s w5.drew (lay s.n r i) r (L.getD i []) (h5.ext ((Below.refl _ _).drew)))
                have HPE : Hid (s.poke (lay s.n r i) r (L.getD i []) = (s.setCell (lay s.n r i) r (L.getD i []), 0)) := Lib.hid (by
                  rw [St.poke, if_neg (by omega), if_neg (by omega), Int.toNat_natCast, Int.toNat_natCast, if_neg (by rw [hlost]; decide)])
                rw [HPE.out, errV_zero] at HP
                have X5' := Lib.hid (X4.trans X5)
                clear he hhe hu hlen hlost hjL HE2 HANY HCt
                go_upto_region 21 with (fail)
                go_region_held3 (fun w' => w'.cell? ⟨go, oo + i, none⟩ = some (Num (lay s.n r i)) ∧ w'.cell? ⟨g5, i, none⟩ = some (Str (L.getD i []))) (first | exact ⟨cz, cL⟩ | exact ⟨hK.cell cz hzo, hK.cell cL hLo⟩)
                  (first | (go_at_call 17; refine HP.out.mono ?_; rintro e w6 ⟨rfl, hA, hK⟩))
                have HA := Lib.hid hA
                have HK := Lib.hid hK
                clear hA hK
                go_wp2_with fail
                go_ret2
                rw [HE.out]
                exact ⟨rfl, HA.out, (Keep.of_ext (Ext.trans X5'.out (Below.refl _ _).drew)).trans HK.out⟩
          · have HE : Hid (s.scrubE s.n r = (s, 0, (locateE (s.parts r)).2)) := Lib.hid (by rw [HE1.out, if_pos hlo])
            have hpos : 0 < (locateE (s.parts r)).2 := by omega
            have HPO := Lib.hid (errV_pos _ hpos)
            rw [errV_pos _ hpos, locateE_err _ hlo]
            clear hlo HE1 hpos p1 p2 hls hnl HL
            go_wp2_with fail
            go_ret2
            rw [HE.out]
            simp only [Moved, HPO.out]
            exact ⟨rfl, h.same X12⟩
      · have HE : Hid (s.scrubE n r = (s, 0, 3)) := Lib.hid ((if_neg hn).trans ((if_neg hr).trans (if_pos hne)))
        have hneI : ((s.n : Int) != n) = true := by rw [bne_iff_ne]; omega
        clear hn hr hne
        go_enter Tryd.func18, Tryd.ntmps18
        go_wp2_with fail
        refine HC.out.mono ?_
        rintro e w' ⟨rfl, rfl⟩
        go_wp2_with fail
        refine HR.out.mono ?_
        rintro e w1 ⟨pa, pc, g, lc, rfl, p1, p2, p3, p4, p5, X1, hpg⟩
        go_wp2_with fail
        go_ret2
        rw [HE.out]
        exact ⟨rfl, h.same X1⟩

end Go.Proofs.YtmgppnceddnlmaaDoor
