/- Contract of array's Write. -/
import Derived.Test.YtmgppnceddnlmaaArrR
namespace Go.Proofs.Ytmgppnceddnlmaa
open Go.RowKit

theorem Keep.cell {lo hi : Nat} {w w' : World} (h : Keep lo hi w w') {a : Addr} {v : Value} (hc : w.cell? a = some v) (ha : a.block < lo ∨ hi ≤ a.block) : w'.cell? a = some v :=
  (World.cell?_of_block (h.block _ (World.block_lt_of_cell? w a hc) ha)).trans hc
theorem Sl.keep {α : Type} {lo hi : Nat} {w w' : World} {f : α → Value} {a : Option Addr} {n cap : Nat} {xs : List α} (h : Sl w f a n cap xs) (k : Keep lo hi w w') (ha : ∀ x, a = some x → x.block < lo ∨ hi ≤ x.block) : Sl w' f a n cap xs :=
  ⟨h.len, h.le, h.max, fun hn => let ⟨g, off, e, hc⟩ := h.cells hn; ⟨g, off, e, fun i x hx => k.cell (hc i x hx) (ha ⟨g, off, none⟩ e)⟩⟩
theorem Pre.keep {lo hi : Nat} {w w' : World} {g e : Nat} {xs : List Value} (h : Pre w g e xs) (k : Keep lo hi w w') (hg : g < lo ∨ hi ≤ g) : Pre w' g e xs := let ⟨c, r⟩ := h; ⟨c, k.row r hg⟩

theorem IsArr.same {w w' : World} {A : Lay} {s : St} (h : IsArr w A s) (X : Ext w w') : IsArr w' A s ∧ Keep A.lo A.hi w w' := ⟨h.ext X, Keep.of_ext X⟩

theorem rowWith_eq (l : List Blk) (i n : Nat) (b p q : Blk) (hl : l.length = n) (hn : 2 ≤ n) : ((l.set i b).set (n - 2) p).set (n - 2 + 1) q = (l.set i b).take (n - 2) ++ [p, q] := by
  have h1 : (l.set i b).length = n := by simpa using hl
  generalize l.set i b = m at *
  apply List.ext_getElem
  · simp; omega
  · intro j h2 h3
    have hj : j < n := by simpa [h1] using h2
    by_cases hlt : j < n - 2
    · rw [List.getElem_append_left (by simp; omega), List.getElem_take, List.getElem_set_ne (by omega), List.getElem_set_ne (by omega)]
    · rw [List.getElem_append_right (by simp; omega)]
      by_cases h4 : j = n - 2
      · subst h4
        rw [List.getElem_set_ne (by omega), List.getElem_set_self]
        have : (m.take (n - 2)).length = n - 2 := by simp; omega
        simp [this]
      · have h5 : j = n - 2 + 1 := by omega
        subst h5
        rw [List.getElem_set_self]
        have : (m.take (n - 2)).length = n - 2 := by simp; omega
        simp [this]

section
variable (A : Lay) (s : St) (w : World)

set_option maxHeartbeats 2000000 in
set_option maxRecDepth 100000 in
theorem Write_any (block : Int) (x : Blk) (h : IsArr w A s) :
    Calls Try.prog 16 #[Ptr A.p, .int .i64 block, Str x] w (Moved A (s.write block x).1 (errV (s.write block x).2) w) := by
  have HS := Lib.hid (spot_any A s w block h)
  have hhi := h.hiw
  by_cases hr : block < 0 ∨ (s.rows * (s.n - 2) : Nat) ≤ block
  · have HE : Hid (s.write block x = (s, 1)) := Lib.hid (if_pos hr)
    have HP : Hid (s.spotE block = (0, 0, 1)) := Lib.hid (if_pos hr)
    rw [HP.out, errV_pos 1 (by omega)] at HS
    clear hr
    go_enter Try.func16, Try.ntmps16
    go_wp2_with fail
    refine HS.out.mono ?_
    rintro e w1 ⟨rfl, X1⟩
    go_wp2_with fail
    go_ret
    rw [HE.out]
    exact ⟨rfl, h.same (X1.alloc X1.size _)⟩
  · obtain ⟨b, rfl⟩ : ∃ b : Nat, block = (b : Int) := ⟨block.toNat, by omega⟩
    have hn3 := h.ok.n3
    have hn10 := h.ok.n10
    have hr20 := h.ok.r20
    have hs16 := h.ok.s16
    have hlt : b / (s.n - 2) < s.rows := (Nat.div_lt_iff_lt_mul (by omega)).2 (by omega)
    have him := Nat.mod_lt b (show s.n - 2 > 0 by omega)
    have HP : Hid (s.spotE b = (lay s.n (b / (s.n - 2)) (b % (s.n - 2)), b / (s.n - 2), 0)) := Lib.hid (if_neg hr)
    have HR : Hid (s.write b x = if x.length ≠ s.size then (s, 3)
      else if (healE (s.parts (b / (s.n - 2))) (s.losts (b / (s.n - 2)))).2 ≠ 0 then (s, (healE (s.parts (b / (s.n - 2))) (s.losts (b / (s.n - 2)))).2)
      else (s.putRow (b / (s.n - 2)) (rowWith (healE (s.parts (b / (s.n - 2))) (s.losts (b / (s.n - 2)))).1 (b % (s.n - 2)) x), 0)) := Lib.hid (if_neg hr)
    have hbb : b ≤ 1048576 := by
      have hpb : s.rows * (s.n - 2) ≤ 20 * 8 := Nat.mul_le_mul hr20 (by omega)
      omega
    have hmo : (b : Int) % ((s.n : Int) - 2) = ((b % (s.n - 2) : Nat) : Int) := by
      rw [show (s.n : Int) - 2 = ((s.n - 2 : Nat) : Int) by omega]
      exact (Int.natCast_emod _ _).symm
    have HMO := Lib.hid hmo
    rw [HP.out, errV_zero] at HS
    clear hr hmo
    generalize b / (s.n - 2) = row at *
    generalize b % (s.n - 2) = i at *
    generalize hdk : lay s.n row i = d0 at *
    clear hdk
    by_cases hxl : x.length = s.size
    · have hne : ((x.length : Int) != (s.size : Int)) = false := by simp [hxl]
      have HR1 : Hid (s.write b x = if (healE (s.parts row) (s.losts row)).2 ≠ 0 then (s, (healE (s.parts row) (s.losts row)).2)
        else (s.putRow row (rowWith (healE (s.parts row) (s.losts row)).1 i x), 0)) := Lib.hid (by rw [HR.out, if_neg (by omega)])
      have HXL := Lib.hid hxl
      clear HR hxl
      go_enter Try.func16, Try.ntmps16
      go_wp2_with fail
      refine HS.out.mono ?_
      rintro e w1 ⟨rfl, X1⟩
      go_upto_region 2 with (fail)
      generalize hw2 : w1.alloc _ = w2
      have X12 : Ext w1 w2 := by rw [← hw2]; exact (Below.refl _ _).alloc (Nat.le_refl _) _
      have X2 := X1.trans X12
      have hrow : Row w2 w1.heap.size 90 #[Num d0, Num row] := by rw [← hw2]; exact Row.new _ _ _
      have r1 : w2.cell? ⟨w1.heap.size, 1, none⟩ = some (Num row) := hrow.cell 1
      have h2 := h.ext X2
      have cs := h2.csize
      have HPt := Lib.hid (parts_any A s w2 row h2 hlt)
      clear hw2
      go_wp2_with fail
      refine HPt.out.mono ?_
      rintro e w3 ⟨pa, pc, g, lc, oa, oc, rfl, p1, p2, p3, p4, p5, po, X3, pob, -⟩
      have HH := Lib.hid (Heal_any pa (some ⟨g, 0, none⟩) s.n pc s.n lc (s.parts row) (s.losts row) w3 p1 (p2.sl (losts_length s row) p3 p4))
      have h3 := h2.ext X3
      clear p1
      go_wp2_with fail
      refine HH.out.mono ?_
      rintro e w4 (⟨he, rfl, X4⟩ | ⟨he, g4, c4, rfl, q1, q2, q3, q4, X4⟩)
      · have HE : Hid (s.write b x = (s, (healE (s.parts row) (s.losts row)).2)) := Lib.hid (by rw [HR1.out, if_pos he])
        have hpos : 0 < (healE (s.parts row) (s.losts row)).2 := by omega
        have HPO := Lib.hid (errV_pos _ hpos)
        rw [errV_pos _ hpos]
        have X := (X2.trans X3).trans X4
        clear he HR1 hpos
        go_wp2_with fail
        go_ret
        rw [HE.out]
        simp only [HPO.out]
        exact ⟨rfl, h.same X⟩
      · have hk2 : s.lostN row ≤ 2 := by
          rw [heal_row h.ok hlt] at he
          split at he
          · cases he
          · omega
        have HHR := Lib.hid (show healE (s.parts row) (s.losts row) = (healS (s.parts row) (s.losts row), 0) by rw [heal_row h.ok hlt, if_neg (by omega)])
        have hu := heal_uni h.ok hlt hk2
        have hlen : (healS (s.parts row) (s.losts row)).length = s.n := by
          have hpl := parts_length s row
          exact (healS_length _ _ (by omega)).trans hpl
        rw [HHR.out] at q1 q2 HR1 ⊢
        have HE : Hid (s.write b x = (s.putRow row (rowWith (healS (s.parts row) (s.losts row)) i x), 0)) := Lib.hid (by rw [HR1.out]; exact if_neg (fun q => q rfl))
        generalize healS (s.parts row) (s.losts row) = R at *
        simp only at q1 q2 ⊢
        rw [hlen] at q2 ⊢
        have h4 := h3.ext X4
        have X := (X2.trans X3).trans X4
        have ci : w4.cell? ⟨g4, i, none⟩ = some (Str (R.getD i [])) := q1.cell (by
          rw [List.getElem?_map, List.getD_eq_getElem?_getD, List.getElem?_eq_getElem (by omega)]; rfl)
        have fi := q1.free i
        have hmo := HMO.out
        have hiI : (i : Int) < (s.n : Int) := by omega
        clear he HR1 HHR
        go_upto_region 14 with (fail)
        have hk0 : (s.n : Int) - 2 = ((s.n - 2 : Nat) : Int) := by omega
        rw [hk0]
        generalize hw5 : w4.setCell _ _ = w5
        have Q5 : Pre w5 g4 9 ((R.set i x).map Str) := by
          have := q1.set i (by simp; omega) (Str x)
          rw [← List.map_set] at this
          rw [← hw5]
          exact this
        have hg4 : w.heap.size ≤ g4 := Nat.le_trans (X2.trans X3).size q4
        have X5 : Ext w w5 := by rw [← hw5]; exact X.setCell hg4 _
        have hg : w.heap.size ≤ g := Nat.le_trans X2.size p5
        have P5 : Pre w5 g 4 ((s.losts row).map Boo) := by
          rw [← hw5]
          refine (p2.ext X4).set_ne _ ?_ _
          show g ≠ g4
          have := p2.lt
          omega
        have O5 : Sl w5 Num oa s.n oc (order s.n row) := by
          rw [← hw5]
          refine (po.ext X4).grown (grownBy_setCell _ _ _) fun y hy => ?_
          obtain ⟨go, oo, z, e, _, hc⟩ := po.get (i := 0) (by omega)
          rw [hy] at e
          cases e
          have := World.block_lt_of_cell? _ _ hc
          show go ≠ g4
          simp only at this
          omega
        have rr5 : Row w5 w1.heap.size 90 #[Num d0, Num row] := by
          rw [← hw5]
          refine ((hrow.ext X3).ext X4).set_ne _ ?_ _
          have e1 := hrow.lt
          have e2 := X3.size
          show w1.heap.size ≠ g4
          omega
        have p2lt : g < g4 := by
          have := (p2.ext X4).lt
          have := p2.lt
          omega
        have hw1g : w1.heap.size < g4 := by
          have e1 := hrow.lt
          have e2 := X3.size
          omega
        have hob0 : ∀ y, oa = some y → y.block < g4 := by
          intro y hy
          obtain ⟨go, oo, z, e, _, hc⟩ := po.get (i := 0) (by omega)
          rw [hy] at e
          cases e
          have := World.block_lt_of_cell? _ _ hc
          simp only at this ⊢
          omega
        have hobk : ∀ y, oa = some y → y.block < A.lo ∨ A.hi ≤ y.block := by
          intro y hy
          have := pob y hy
          have := X2.size
          exact .inr (by omega)
        clear hw5 q1 ci fi p2 po
        generalize hkk : s.n - 2 = k at *
        have hR1 : (R.set i x).length = s.n := by simpa using hlen
        have hRu : Uni s.size (R.set i x) := hu.set i HXL.out
        have hRd : (R.set i x).take k ≠ [] := by
          intro e
          have := congrArg List.length e
          rw [List.length_take, hR1, List.length_nil] at this
          omega
        have HO := Lib.hid (of_any (some ⟨g4, 0, none⟩) k c4 ((R.set i x).take k) w5 (by
            have := Q5
            rw [← List.take_append_drop k (R.set i x)] at this
            exact this.sl_left (by simp; omega) (by omega) q3)
          (fun b hb => by rw [Uni.size (fun b hb => hRu b (List.mem_of_mem_take hb)) hRd]; exact hRu b (List.mem_of_mem_take hb))
          (by rw [Uni.size (n := s.size) (fun b hb => hRu b (List.mem_of_mem_take hb)) hRd]; omega) (by omega))
        have b1 : (k : Int) < (s.n : Int) := by omega
        have b2 : (k : Int) + 1 < (s.n : Int) := by omega
        have b3 : (k : Int) ≤ (c4 : Int) := by omega
        have hcap : s.n ≤ c4 := by omega
        go_wp2_with fail
        refine HO.out.mono ?_
        rintro e w6 ⟨rfl, X6⟩
        have Q6 := Q5.ext X6
        have P6 := P5.ext X6
        have O6 := O5.ext X6
        have rr6 := rr5
        have b4 : (0 : Int) ≤ (k : Int) + 1 := by omega
        have b5 : ((k : Int) + 1).toNat = k + 1 := by omega
        have ck0 : w6.cell? ⟨g4, k, none⟩ = some (Str ((R.set i x).getD k [])) := Q6.cell (by
          rw [List.getElem?_map, List.getD_eq_getElem?_getD, List.getElem?_eq_getElem (by omega)]; rfl)
        have ck1 : w6.cell? ⟨g4, k + 1, none⟩ = some (Str ((R.set i x).getD (k + 1) [])) := Q6.cell (by
          rw [List.getElem?_map, List.getD_eq_getElem?_getD, List.getElem?_eq_getElem (by omega)]; rfl)
        have f0 := Q6.free k
        have f1 := Q6.free (k + 1)
        clear O5 P5 Q5
        go_upto_region 15 with (fail)
        generalize hw7 : (w6.setCell _ _).setCell _ _ = w7
        have hL := rowWith_eq R i s.n x (pOf ((R.set i x).take k)) (qOf ((R.set i x).take k)) hlen (by omega)
        have hLd : rowWith R i x = (R.set i x).take k ++ [pOf ((R.set i x).take k), qOf ((R.set i x).take k)] := by rw [rowWith, hlen, hkk]
        rw [hkk, ← hLd] at hL
        have Q7 : Pre w7 g4 9 ((rowWith R i x).map Str) := by
          have e1 := (Q6.set k (by simp; omega) (Str (pOf ((R.set i x).take k)))).set (k + 1) (by simp; omega) (Str (qOf ((R.set i x).take k)))
          rw [← List.map_set, ← List.map_set, hL] at e1
          rw [← hw7]
          exact e1
        have X7 : Ext w w7 := by
          rw [← hw7]
          exact ((X5.trans X6).setCell hg4 _).setCell hg4 _
        have hgg : g < g4 := by
          have := p2lt
          omega
        have P7 : Pre w7 g 4 ((s.losts row).map Boo) := by
          rw [← hw7]
          exact (P6.set_ne _ (by show g ≠ g4; omega) _).set_ne _ (by show g ≠ g4; omega) _
        have hob : ∀ y, oa = some y → y.block ≠ g4 := by
          intro y hy
          have := hob0 y hy
          omega
        have O7 : Sl w7 Num oa s.n oc (order s.n row) := by
          rw [← hw7]
          exact (O6.grown (grownBy_setCell _ _ _) hob).grown (grownBy_setCell _ _ _) hob
        have rr7 : Row w7 w1.heap.size 90 #[Num d0, Num row] := by
          rw [← hw7]
          exact ((rr5.ext X6).set_ne _ (by show w1.heap.size ≠ g4; omega) _).set_ne _ (by show w1.heap.size ≠ g4; omega) _
        have hLu : Uni s.size (rowWith R i x) := by
          rw [hLd]
          exact rowOf_uni (fun b hb => hRu b (List.mem_of_mem_take hb)) hRd
        have hLl : (rowWith R i x).length = s.n := by
          rw [← hL]; simpa using hlen
        have h7 := h.ext X7
        generalize rowWith R i x = L at *
        have HLl := Lib.hid hLl
        have HLu := Lib.hid hLu
        have K7 : Keep A.lo A.hi w w7 := Keep.of_ext X7
        have hw17 : A.hi ≤ w1.heap.size := Nat.le_trans hhi X1.size
        clear hw7 hL hLd Q6 P6 O6 rr6 ck0 ck1 f0 f1 hRu hRd hu hlen hR1 HO rr5 hLl hLu
        go_wp2_with fail
        go_loopw [80] (fun ix wr => ∃ j : Nat, j ≤ s.n ∧ ix = .int .i64 j ∧ IsArr wr A (s.putTo row L j) ∧ Keep A.lo A.hi w7 wr) (fun ix _ => s.n - (intOf ix).toNat)
        case atStart => exact ⟨0, by omega, rfl, h7, Keep.refl _ _ _⟩
        case round =>
          obtain ⟨j, hj, rfl, ht, K⟩ := hrel
          by_cases hlt2 : (j : Int) < (s.n : Int)
          · have Or := O7.keep K hobk
            have Pr := P7.keep K (.inr (by omega))
            have Qr := Q7.keep K (.inr (by omega))
            have rr := (K.row rr7 (.inr hw17)).cell 1
            obtain ⟨go, oo, z, rfl, hz, cz⟩ := Or.get (i := j) (by omega)
            rw [order_get s.n row j (by omega)] at hz
            obtain rfl := Option.some.inj hz
            have hd := lay_lt s.n row j (by omega)
            have cl : wr.cell? ⟨g, j, none⟩ = some (Boo (s.lost (lay s.n row j) row)) := Pr.cell (by
              rw [List.getElem?_map, List.getElem?_eq_getElem (by rw [losts_length]; omega)]
              have e1 := losts_getD s row j (by omega)
              rw [List.getD_eq_getElem?_getD, List.getElem?_eq_getElem (by rw [losts_length]; omega), Option.getD_some] at e1
              rw [e1]; rfl)
            have cL : wr.cell? ⟨g4, j, none⟩ = some (Str (L.getD j [])) := Qr.cell (by
              have := HLl.out
              rw [List.getElem?_map, List.getD_eq_getElem?_getD, List.getElem?_eq_getElem (by omega)]; rfl)
            have hjL : (L.getD j []).length = s.size := HLu.out.getD (by rw [HLl.out]; omega)
            have tn := putTo_n s row L j
            have tr := putTo_rows s row L j
            have tz := putTo_size s row L j
            have tl := putTo_lost s row L j (lay s.n row j) row
            cases hx : s.lost (lay s.n row j) row with
            | true =>
              rw [hx] at cl
              have HPT : Hid (s.putTo row L (j + 1) = s.putTo row L j) := Lib.hid (by rw [St.putTo, if_pos hx])
              clear hx tl tn tr tz
              go_wp2_with fail
              go_roundw
              case rel => exact ⟨j + 1, by omega, by go_num, by rw [HPT.out]; exact ht, K⟩
              case measure => simp [intOf]; omega
            | false =>
              rw [hx] at cl
              have HPT : Hid (s.putTo row L (j + 1) = (s.putTo row L j).setCell (lay s.n row j) row (L.getD j [])) := Lib.hid (by rw [St.putTo, if_neg (by rw [hx]; decide)])
              obtain ⟨D, hD, hm, hs, hf, hc⟩ := ht.disk (lay s.n row j) (by omega)
              have hff : D.failed = false := by
                rw [hf]
                cases q : (s.putTo row L j).failed (lay s.n row j) with
                | false => rfl
                | true => rw [St.lost, q, hx] at tl; cases tl
              have HW := Lib.hid (write_ok (A.k (lay s.n row j)) D wr.drew row (L.getD j []) hD hff (by omega) (by omega) (by omega))
              have HT := fun (w' : World) (y : Int) => IsArr.put (w := wr) (w' := w') (row := row) (b := L.getD j []) (x := y) ht (by omega) (by omega) hm hs hf hc
              have c1 := ht.cl
              rw [tn] at c1
              have c2 := ht.cm (d := lay s.n row j) (by omega)
              have c3 := ht.ck (d := lay s.n row j) (by omega)
              have klo := (ht.klo (lay s.n row j) (by omega)).1
              have khi := (ht.klo (lay s.n row j) (by omega)).2
              have hdI : ((lay s.n row j : Nat) : Int) < (s.n : Int) := by omega
              clear hx hff hf hc hm hs tl tn tr tz
              go_upto_region 19 with (fail)
              go_still_tail 16, (by kernel_rfl)
              go_wp2_with fail
              refine HW.out.mono ?_
              rintro e w' ⟨rfl, ⟨y, q⟩, hg⟩
              have hg' : wr.grownBy w' (some (A.k (lay s.n row j))) := ⟨hg.os, hg.tape, hg.output, hg.size, hg.block⟩
              have HA := Lib.hid (HT w' y q hg')
              have HK := Lib.hid (K.trans (Keep.of_grown hg' klo khi))
              clear hg hg' q HT HW hD ht K
              go_wp2_with fail
              go_roundw
              case rel => exact ⟨j + 1, by omega, by go_num, by rw [HPT.out]; exact HA.out, HK.out⟩
              case measure => simp [intOf]; omega
          · have hjn : j = s.n := by omega
            have HA : Hid (IsArr wr A (s.putRow row L)) := Lib.hid (by rw [hjn] at ht; exact ht)
            clear hjn ht
            go_wp2_with fail
            go_ret
            rw [HE.out]
            exact ⟨rfl, HA.out, K7.trans K⟩
    · have hne : ((x.length : Int) != (s.size : Int)) = true := by rw [bne_iff_ne]; omega
      have HE : Hid (s.write b x = (s, 3)) := Lib.hid (by rw [HR.out, if_pos hxl])
      have cs := h.csize
      clear HR hxl
      go_enter Try.func16, Try.ntmps16
      go_wp2_with fail
      refine HS.out.mono ?_
      rintro e w1 ⟨rfl, X1⟩
      go_upto_region 2 with (fail)
      generalize hw2 : w1.alloc _ = w2
      have X12 : Ext w1 w2 := by rw [← hw2]; exact (Below.refl _ _).alloc (Nat.le_refl _) _
      have X2 := X1.trans X12
      have cs2 := X2.cell cs
      clear hw2
      go_wp2_with fail
      go_ret
      rw [HE.out]
      exact ⟨rfl, h.same X2⟩
end
end Go.Proofs.Ytmgppnceddnlmaa
