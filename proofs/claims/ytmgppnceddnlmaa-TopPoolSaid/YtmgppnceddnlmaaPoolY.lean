/- Law TopPool: the walk where there are an array and a pool. -/
import Derived.Test.YtmgppnceddnlmaaPoolX
namespace Go.Proofs.Ytmgppnceddnlmaa
open Go.RowKit

theorem made_strs (n : Nat) : madeCells (Value.string ByteArray.empty).cells (n * 1) = ((List.replicate n ([] : Blk)).map Str).toArray := by
  apply Array.ext
  · simp [madeCells]
  · intro i h1 h2
    simp [madeCells, Value.cells, Nat.mod_one]
    rfl
theorem run_make_strs (w : World) (n : Nat) (h : n ≤ 1048576) :
    (Instr.makeSlice 22 (.int .i64 (n : Int)) (.int .i64 (n : Int))).run Try.prog w = .ok (.slice (some ⟨w.heap.size, 0, none⟩) n n) (w.alloc (.cells ((List.replicate n ([] : Blk)).map Str).toArray 9)) := by
  obtain ⟨i, hi, hz0, hz1, hz2⟩ := info_parts Try.infoStr
  have hr := run_make (P := Try.prog) w 22 9 i _ Try.underlying22 hi hz0 .i64 .i64 n n (by omega) (by omega) (by rw [hz2]; omega) (by omega)
  rw [hz1] at hr
  simp only [Int.toNat_natCast] at hr
  rw [hr, made_strs]
/-- Between the rounds. -/
def Pooling (A : Lay) (P : PLay) (g : Nat) (w wr : World) (n rows m k : Nat) : Prop :=
  ∃ (t : St) (bad : Nat → Bool) (cells : List Blk) (states slots : List Int), IsArr wr A t ∧ AS t n rows bad cells ∧ IsPool wr P states slots ∧ PI states slots n m bad ∧ badN n bad = k ∧ k ≤ 2 ∧
    Pre wr g 9 (cells.map Str) ∧ Ext w wr ∧ A.hi ≤ P.lo ∧ P.hi ≤ g ∧ w.heap.size ≤ A.lo ∧ A.lo ≤ A.hi

set_option maxRecDepth 100000 in
theorem slots_any (P : PLay) (states slots : List Int) (w : World) (h : IsPool w P states slots) (h0 : 0 < slots.length) (hb : slots.length ≤ 1048576) :
    Calls Try.prog 18 #[.pointer (some ⟨P.p, 0, none⟩)] w (CloneOf w 3 slots.length (slots.map NumI)) := by
  have c := h.c1
  have HC := Lib.hid (clone_ints _ _ _ slots w h.slL h0 hb)
  go_enter Try.func18, Try.ntmps18
  go_wp2_with fail
  refine HC.out.mono ?_
  rintro e w1 ⟨g, cc, rfl, h1, h2, h3, h4, h5⟩
  go_wp2_with fail
  go_ret
  exact ⟨g, cc, rfl, h1, h2, h3, h4, h5⟩

theorem Pooling.ext {A : Lay} {P : PLay} {g : Nat} {w wr wc : World} {n rows m k : Nat} (h : Pooling A P g w wr n rows m k) (x : Ext wr wc) : Pooling A P g w wc n rows m k := by
  obtain ⟨t, bad, cells, states, slots, hA, hS, hB, hI, hbn, hbk, hPr, X, ho⟩ := h
  exact ⟨t, bad, cells, states, slots, hA.ext x, hS, hB.ext x, hI, hbn, hbk, hPr.ext x, X.trans x, ho⟩
/-- What is written to it is kept. -/
theorem Pooling.write {A : Lay} {P : PLay} {g : Nat} {w wr wc : World} {n rows m k : Nat} {t' : St} {bad : Nat → Bool} {cells : List Blk} {states slots : List Int} {i : Nat} {b : Blk} (hB : IsPool wr P states slots) (hI : PI states slots n m bad)
    (hk : badN n bad = k ∧ k ≤ 2) (hg : Pre wr g 9 (cells.map Str)) (X : Ext w wr) (ho : A.hi ≤ P.lo ∧ P.hi ≤ g ∧ w.heap.size ≤ A.lo ∧ A.lo ≤ A.hi) (hA : IsArr wc A t') (hS : AS t' n rows bad (cells.set i b)) (K : Keep A.lo A.hi wr wc) (hi : i < cells.length) (hlo : P.lo ≤ P.hi) :
    Pooling A P g w (wc.setCell ⟨g, i, none⟩ (Str b)) n rows m k := by
  refine ⟨t', bad, cells.set i b, states, slots, hA.carry (by simp) fun j _ h2 => Below.heap_setCell wc _ _ j (by show j ≠ g; omega), hS, (hB.keep K (.inl ho.1)).carry (by simp) fun j _ h2 => Below.heap_setCell wc _ _ j (by show j ≠ g; omega), hI, hk.1, hk.2, ?_, (Below.trans X (K.below ho.2.2.1 X.size)).setCell (by show _ ≤ g; omega) _, ho.1, ho.2.1, ho.2.2.1, ho.2.2.2⟩
  have := (hg.keep K (.inr (by omega))).set i (by simpa using hi) (Str b)
  rw [← List.map_set] at this
  exact this
theorem filled_set (q i : Nat) (z : Blk) (h : i < q) : (List.replicate i z ++ List.replicate (q - i) []).set i z = List.replicate (i + 1) z ++ List.replicate (q - (i + 1)) [] := by
  rw [List.set_append_right _ _ (by simp), List.length_replicate, Nat.sub_self, show q - i = (q - (i + 1)) + 1 by omega, List.replicate_succ, List.set_cons_zero, List.replicate_succ', List.append_assoc]
  rfl

theorem i64_of_wf {n : Int} (h : (Lit.int .i64 n).wf = true) : -9223372036854775808 ≤ n ∧ n ≤ 9223372036854775807 := by
  simp [Lit.wf, IntKind.min, IntKind.max, IntKind.signed, IntKind.bits] at h
  omega

set_option maxHeartbeats 8000000 in
set_option maxRecDepth 100000 in
theorem pool_good (n rows spares wn wc fn fc : Nat) (wa fa : Option Addr) (wl fl : List Int) (w : World) (hw : IntsIn w wa wn wc wl) (hf : IntsIn w fa fn fc fl) (hn3 : 3 ≤ n) (hn10 : n ≤ 10) (hr1 : 1 ≤ rows) (hr20 : rows ≤ 20) (hsp : spares ≤ 10) :
    Calls Try.prog 4 #[.int .i64 (n : Int), .int .i64 (rows : Int), .int .i64 (spares : Int), .slice wa wn wc, .slice fa fn fc] w fun e w' => e = .returned (.bool true) ∧ Ext w w' := by
  have HO := Lib.hid (one_true w)
  have HA := Lib.hid (fun wx => New_ok n rows 2 wx hn3 hn10 hr1 hr20 (by omega) (by omega))
  have HP := Lib.hid (fun wx => pool_new n spares wx (by omega) hn10 hsp)
  have d5 : decide ((spares : Int) < 0) = false := by simp
  obtain ⟨q, hq⟩ : ∃ q, q = rows * (n - 2) := ⟨_, rfl⟩
  have hpb : rows * (n - 2) ≤ 20 * 8 := Nat.mul_le_mul hr20 (by omega)
  have hq1 : 1 * 1 ≤ rows * (n - 2) := Nat.mul_le_mul hr1 (by omega)
  have hprod : ((rows : Int) * ((n : Int) - 2)) = (q : Int) := by
    rw [hq, Int.natCast_mul, show ((n - 2 : Nat) : Int) = (n : Int) - 2 by omega]
  rw [← hq] at hpb hq1
  have HQ := Lib.hid hq
  have HX0 : Hid (AS (St.new n rows 2) n rows (fun _ => false) (List.replicate q [0, 0])) := Lib.hid (by rw [hq]; exact as_new n rows hn3)
  have hmk := fun wx => run_make_strs wx q (by omega)
  clear hq
  go_enter Try.func4, Try.ntmps4
  go_wp2_with fail
  refine HO.out.mono ?_
  rintro e w1 ⟨rfl, X1⟩
  go_wp2_with fail
  refine (HA.out w1).mono ?_
  rintro e w2 ⟨A, rfl, hlo, hA, X2⟩
  go_wp2_with fail
  refine (HP.out w2).mono ?_
  rintro e w3 ⟨P, rfl, hplo, hPl, X3⟩
  have HPI : Hid (PI (List.replicate n 0 ++ List.replicate spares 1) ((List.range n).map (fun (i : Nat) => (i : Int))) n (n + spares) fun _ => false) := Lib.hid (pi_new n spares)
  have hAhi := hA.hiw
  have hPhi := hPl.hiw
  have hA3 := hA.ext X3
  have X13 := (X1.trans X2).trans X3
  have hs1 := X1.size
  have hs2 := X2.size
  have hAA := hA.plo
  have hAA2 := hA.phi
  have HP0 : Hid (∀ wx, Ext w3 wx → Pre wx w3.heap.size 9 ((List.replicate q [0, 0]).map Str) → Pooling A P w3.heap.size w wx n rows (n + spares) 0) :=
    Lib.hid fun wx X hPr => ⟨_, _, _, _, _, hA3.ext X, HX0.out, hPl.ext X, HPI.out, badN_zero n, by omega, hPr, X13.trans X, by omega, by omega, by omega, by omega⟩
  clear hA hA3 hPl HO HA HP HX0 HPI X1 X2 X3 hs1 hs2 hAA hAA2 hlo hplo
  go_wp2_with fail
  clear hprod
  go_loopw [17] (fun ix wr => ∃ i : Nat, i ≤ q ∧ ix = .int .i64 i ∧ Ext w3 wr ∧ Pre wr w3.heap.size 9 ((List.replicate i ([0, 0] : Blk) ++ List.replicate (q - i) []).map Str)) (fun ix _ => q - (intOf ix).toNat)
  case atStart =>
    refine ⟨0, by omega, rfl, (Below.refl _ _).alloc (Nat.le_refl _) _, ?_⟩
    rw [List.replicate_zero, List.nil_append, Nat.sub_zero, List.map_replicate]
    exact Pre.of_row (Row.new _ _ _)
  case round =>
    obtain ⟨i, hi, rfl, X, hPr⟩ := hrel
    by_cases hlt : (i : Int) < (q : Int)
    · have hlen : (List.replicate i ([0, 0] : Blk) ++ List.replicate (q - i) []).length = q := by simp; omega
      have cg : wr.cell? ⟨w3.heap.size, i, none⟩ = some (Str (List.replicate i ([0, 0] : Blk) ++ List.replicate (q - i) [])[i]) := hPr.cell (by rw [List.getElem?_map, List.getElem?_eq_getElem (by omega)]; rfl)
      have fg := hPr.free i
      have hset := hPr.set i (by rw [List.length_map]; omega) (Str [0, 0])
      rw [← List.map_set, filled_set q i _ (by omega)] at hset
      have HS := Lib.hid hset
      have HX : Hid (Ext w3 (wr.setCell ⟨w3.heap.size, i, none⟩ (Str [0, 0]))) := Lib.hid (X.setCell (Nat.le_refl _) _)
      clear hset hPr
      go_wp2_with fail
      go_roundw
      case rel => exact ⟨i + 1, by omega, by go_num, HX.out, HS.out⟩
      case measure => simp [intOf]; omega
    · have hiq : i = q := by omega
      rw [hiq, Nat.sub_self, List.replicate_zero, List.append_nil] at hPr
      have HK := Lib.hid (HP0.out _ X hPr)
      have hQs := X.size
      clear hPr HP0 X13 hiq
      go_upto_block 2 with (fail)
      clear hlt hi d5
      go_cut [10, 18, 19, 20, 21, 22, 23, 24, 25, 26, 27] from 110 to 236 (fun _ _ _ _ _ _ _ _ _ _ _ wc => ∃ k, Pooling A P w3.heap.size w wc n rows (n + spares) k)
      case first =>
        go_wp2_with fail
        obtain ⟨w7, rfl⟩ : ∃ w7 : World, w7 = wr := ⟨_, rfl⟩
        go_loopw [18, 19] (fun ov ix wr => ∃ i k : Nat, i ≤ wn ∧ ix = .int .i64 i ∧ ov = .int .i64 k ∧ Pooling A P w3.heap.size w wr n rows (n + spares) k) (fun _ ix _ => wn - (intOf ix).toNat)
        case atStart => exact ⟨0, 0, by omega, rfl, rfl, HK.out⟩
        case round =>
          obtain ⟨i, k, hi, rfl, rfl, hPo⟩ := hrel
          have HPo := Lib.hid hPo
          have hX : Ext w wr := by obtain ⟨-, -, -, -, -, -, -, -, -, -, -, -, hX, -⟩ := hPo; exact hX
          have hk2 : k ≤ 2 := by obtain ⟨-, -, -, -, -, -, -, -, -, -, hk, -⟩ := hPo; exact hk
          clear hPo HK X
          by_cases hlt : (i : Int) < (wn : Int)
          · by_cases h40 : (i : Int) < 40
            · obtain ⟨gw, ow, x, rfl, hx, cx0⟩ := hw.sl.get (i := i) (by omega)
              have cx := hX.cell cx0
              have HC0 := Lib.hid cx0
              clear cx0
              have hxf : x ≤ 9223372036854775807 := by
                exact (i64_of_wf (hw.fits x (List.mem_of_getElem? hx))).2
              clear hx
              go_upto_if 124 with (fail)
              obtain ⟨w8, rfl⟩ : ∃ w8 : World, w8 = wr := ⟨_, rfl⟩
              go_cut [10, 20, 123, 124] from 125 to 148 (fun _ _ _ _ wc => Pooling A P w3.heap.size w wc n rows (n + spares) k)
              case first =>
                by_cases hx0 : 0 ≤ x
                · obtain ⟨x, rfl⟩ : ∃ m : Nat, x = (m : Int) := ⟨x.toNat, by omega⟩
                  have hxd : decide (0 ≤ (x : Int)) = true := by simp
                  obtain ⟨kk, hkk⟩ : ∃ kk, kk = x % q := ⟨_, rfl⟩
                  have hkq : kk < q := by rw [hkk]; exact Nat.mod_lt _ (by omega)
                  have hmod : (x : Int) % (q : Int) = (kk : Int) := by rw [hkk]; omega
                  have HPp := HPo.out
                  obtain ⟨t, bad, cells, states, slots, hA, hS, hB, hI, hbn, hbk, hPr, -, ho1, ho2, ho3, ho4⟩ := HPp
                  have hcl : cells.length = q := by rw [hS.ks.len, HQ.out]
                  have HB := Lib.hid (fun wx => blockv_any x wx (by omega))
                  obtain ⟨t', hwr, hS'⟩ := hS.write hA.ok kk (by rw [← HQ.out]; omega) (blockV x) rfl
                  have hW := fun wx (hx : Ext w8 wx) => Write_any A t wx (kk : Int) (blockV x) (hA.ext hx)
                  rw [hwr] at hW
                  simp only [errV_zero] at hW
                  have HW := Lib.hid hW
                  have HS' := Lib.hid hS'
                  have HI := Lib.hid hI
                  have hlo := hB.lop
                  clear hW hwr hS' hkk hI hx0
                  go_wp2_with fail
                  refine (HB.out _).mono ?_
                  rintro e w9 ⟨rfl, X9⟩
                  go_wp2_with fail
                  refine (HW.out _ X9).mono ?_
                  rintro e w10 ⟨rfl, hA10, K10⟩
                  have hcx10 : w10.cell? ⟨gw, ow + i, none⟩ = some (NumI (x : Int)) := Ext.cell (Below.trans (hX.trans X9) (K10.below ho3 (hX.trans X9).size)) HC0.out
                  go_wp2_with fail
                  refine (HB.out _).mono ?_
                  rintro e w11 ⟨rfl, X11⟩
                  have hP11 := ((hPr.ext X9).keep K10 (.inr (by omega))).ext X11
                  have cg : w11.cell? ⟨w3.heap.size, kk, none⟩ = some (Str cells[kk]) := hP11.cell (by rw [List.getElem?_map, List.getElem?_eq_getElem (by omega)]; rfl)
                  have fg := hP11.free kk
                  have hkI : (kk : Int) < (q : Int) := by omega
                  have HN : Hid (Pooling A P w3.heap.size w (w11.setCell ⟨w3.heap.size, kk, none⟩ (Str (blockV x))) n rows (n + spares) k) :=
                    Lib.hid (Pooling.write (hB.ext X9) HI.out ⟨hbn, hbk⟩ (hPr.ext X9) (hX.trans X9) ⟨ho1, ho2, ho3, ho4⟩ (hA10.ext X11) HS'.out (K10.trans (Keep.of_ext X11)) (by omega) (by omega))
                  clear hP11 hA10 K10 X11 X9 hB hA hS hPr
                  go_wp2_with fail
                  go_meet
                  case rel => exact HN.out
                · have hxd : decide (0 ≤ x) = false := by simpa using hx0
                  go_wp2_with fail
                  go_meet
                  case rel => exact HPo.out
              case rest =>
                have HPc := Lib.hid hcut
                have hXc : Ext w wc := by obtain ⟨-, -, -, -, -, -, -, -, -, -, -, -, hX, -⟩ := hcut; exact hX
                clear hcut HPo hX cx hxf HC0
                obtain ⟨w9, rfl⟩ : ∃ w9 : World, w9 = wc := ⟨_, rfl⟩
                go_upto_region 24 with (fail)
                go_cut [149, 150, 151, 152, 153, 154, 155, 156, 157, 158, 159, 160, 161, 162, 163, 164, 165, 166, 167, 168, 169, 170, 171] from 172 to 172 (fun _ _ _ _ _ _ _ _ _ _ _ _ _ _ _ _ _ _ _ _ _ _ t wc => t = .bool (decide (i < fn ∧ 0 ≤ fl.getD i 0 ∧ fl.getD i 0 < (n : Int) ∧ k < 2)) ∧ w9 = wc)
                case first =>
                  by_cases hif : (i : Int) < (fn : Int)
                  · obtain ⟨gf, of_, y, rfl, hy, cy0⟩ := hf.sl.get (i := i) (by omega)
                    have cy := hXc.cell cy0
                    have HY : Hid (fl.getD i 0 = y) := Lib.hid (by rw [List.getD_eq_getElem?_getD, hy]; rfl)
                    have HIF := Lib.hid (show i < fn by omega)
                    clear hy cy0
                    by_cases hy0 : 0 ≤ y
                    · have e0 : decide (0 ≤ y) = true := by simpa using hy0
                      by_cases hyn : y < (n : Int)
                      · have e1 : decide (y < (n : Int)) = true := by simpa using hyn
                        by_cases hk : (k : Int) < 2
                        · have HD : Hid (decide (i < fn ∧ 0 ≤ fl.getD i 0 ∧ fl.getD i 0 < (n : Int) ∧ k < 2) = true) := Lib.hid (decide_eq_true (by rw [HY.out]; exact ⟨HIF.out, hy0, hyn, by omega⟩))
                          go_wp2_with fail
                          go_meet
                          case rel => exact ⟨by rw [HD.out], rfl⟩
                        · have e2 : decide ((k : Int) < 2) = false := by simpa using hk
                          have HD : Hid (decide (i < fn ∧ 0 ≤ fl.getD i 0 ∧ fl.getD i 0 < (n : Int) ∧ k < 2) = false) := Lib.hid (decide_eq_false (by omega))
                          go_wp2_with fail
                          go_meet
                          case rel => exact ⟨by rw [HD.out], rfl⟩
                      · have e1 : decide (y < (n : Int)) = false := by simpa using hyn
                        have HD : Hid (decide (i < fn ∧ 0 ≤ fl.getD i 0 ∧ fl.getD i 0 < (n : Int) ∧ k < 2) = false) := Lib.hid (decide_eq_false (by rw [HY.out]; omega))
                        go_wp2_with fail
                        go_meet
                        case rel => exact ⟨by rw [HD.out], rfl⟩
                    · have e0 : decide (0 ≤ y) = false := by simpa using hy0
                      have HD : Hid (decide (i < fn ∧ 0 ≤ fl.getD i 0 ∧ fl.getD i 0 < (n : Int) ∧ k < 2) = false) := Lib.hid (decide_eq_false (by rw [HY.out]; omega))
                      go_wp2_with fail
                      go_meet
                      case rel => exact ⟨by rw [HD.out], rfl⟩
                  · have e0 : decide (i < fn) = false := decide_eq_false (by omega)
                    have HD : Hid (decide (i < fn ∧ 0 ≤ fl.getD i 0 ∧ fl.getD i 0 < (n : Int) ∧ k < 2) = false) := Lib.hid (decide_eq_false (by omega))
                    go_wp2_with fail
                    go_meet
                    case rel => exact ⟨by rw [HD.out], rfl⟩
                case rest =>
                  obtain ⟨rfl, rfl⟩ := hcut
                  by_cases hc : i < fn ∧ 0 ≤ fl.getD i 0 ∧ fl.getD i 0 < (n : Int) ∧ k < 2
                  · rw [decide_eq_true hc]
                    obtain ⟨hif, hy0, hyn, hk2'⟩ := hc
                    obtain ⟨gf, of_, y, rfl, hy, cy0⟩ := hf.sl.get (i := i) (by omega)
                    rw [List.getD_eq_getElem?_getD, hy, Option.getD_some] at hy0 hyn
                    obtain ⟨s, rfl⟩ : ∃ s : Nat, y = (s : Int) := ⟨y.toNat, by omega⟩
                    have hsn : s < n := by omega
                    obtain ⟨t, bad, cells, states, slots, hA, hS, hB, hI, hbn, hbk, hPr, -, ho1, ho2, ho3, ho4⟩ := HPc.out
                    have hsl : slots.length = n := hI.llen
                    have cy := hXc.cell cy0
                    clear cy0
                    have hSl := slots_any P states slots w9 hB (by omega) (by omega)
                    rw [hsl] at hSl
                    have HSl := Lib.hid hSl
                    have HO := Lib.hid (show A.hi ≤ P.lo ∧ P.hi ≤ w3.heap.size ∧ w.heap.size ≤ A.lo ∧ A.lo ≤ A.hi from ⟨ho1, ho2, ho3, ho4⟩)
                    have hsI : (s : Int) < (n : Int) := by omega
                    have hifI : (i : Int) < (fn : Int) := by omega
                    have hwP : w.heap.size ≤ P.lo := by omega
                    have hAg : A.hi ≤ w3.heap.size := by have := hB.lop; omega
                    clear hy hSl hif hyn hy0
                    go_wp2_with fail
                    refine HSl.out.mono ?_
                    rintro e w10 ⟨g2, c2, rfl, hP10, -, -, -, X10⟩
                    have cy10 := X10.cell cy
                    have hne : ((n : Int) != (n : Int)) = false := by simp
                    clear cy HSl
                    cases hb : bad s with
                    | true =>
                      have cs : w10.cell? ⟨g2, s, none⟩ = some (NumI (-1)) := hP10.cell (by rw [List.getElem?_map, hI.hole s hsn hb]; rfl)
                      have HN := Lib.hid (HPc.out.ext X10)
                      clear hP10 hA hS hB hI hPr hb
                      go_wp2_with fail
                      go_roundw
                      case rel => exact ⟨i + 1, k, by omega, by go_num, rfl, HN.out⟩
                      case measure => simp [intOf]; omega
                    | false =>
                      obtain ⟨d, hd, hdm⟩ := hI.disk s hsn hb
                      have cs : w10.cell? ⟨g2, s, none⟩ = some (NumI (d : Int)) := hP10.cell (by rw [List.getElem?_map, hd]; rfl)
                      have HF := Lib.hid (pfail_any P states slots w10 d s (hB.ext X10) hdm (fun r hr => hI.idx hsn hb hd hr) (by omega))
                      obtain ⟨hf1, hf2⟩ := hS.fail s hsn hb (by omega)
                      have hAF := fun wx (hx : IsArr wx A t) => Fail_any A t wx (s : Int) hx
                      rw [hf1] at hAF
                      simp only [errV_zero] at hAF
                      have HAF := Lib.hid hAF
                      have HS2 := Lib.hid hf2
                      have hd0 : decide ((d : Int) < 0) = false := by simp
                      have HI := Lib.hid hI
                      have HD := Lib.hid hd
                      have HDM := Lib.hid hdm
                      have HBB := Lib.hid hb
                      clear hAF hf1 hf2 hd hdm hP10 hb hB
                      go_wp2_with fail
                      refine HF.out.mono ?_
                      rintro e w11 ⟨r, hr, rfl, hB11, K11⟩
                      have X11 : Ext w w11 := Below.trans (hXc.trans X10) (K11.below hwP (hXc.trans X10).size)
                      have hA11 := (hA.ext X10).keep K11 (.inr ho1)
                      have hPr11 := (hPr.ext X10).keep K11 (.inr ho2)
                      clear hA hPr hS hI HF
                      go_wp2_with fail
                      refine (HAF.out w11 hA11).mono ?_
                      rintro e w12 ⟨rfl, hA12, K12⟩
                      have X12 : Ext w w12 := Below.trans X11 (K12.below ho3 X11.size)
                      have hB12 := hB11.keep K12 (.inl ho1)
                      have hPr12 := hPr11.keep K12 (.inr hAg)
                      clear hA11 hB11 hPr11 K11 K12 X11
                      rcases hr with ⟨rfl, hr0⟩ | ⟨kk, rfl, hkk, -⟩
                      · rw [if_pos (by omega)] at hB12
                        have HN : Hid (Pooling A P w3.heap.size w w12 n rows (n + spares) (k + 1)) :=
                          Lib.hid ⟨_, _, cells, _, _, hA12, HS2.out, hB12, PI.none HI.out hsn HBB.out HD.out HDM.out, by rw [badN_set n bad s hsn HBB.out, hbn], by omega, hPr12, X12, HO.out⟩
                        clear hA12 hB12 hPr12 hr0
                        go_wp2_with fail
                        go_roundw
                        case rel => exact ⟨i + 1, k + 1, by omega, by go_num, by go_num, HN.out⟩
                        case measure => simp [intOf]; omega
                      · rw [if_neg (by omega), Int.toNat_natCast] at hB12
                        have hkk0 : decide ((kk : Int) < 0) = false := by simp
                        obtain ⟨hr1', hr2'⟩ := HS2.out.replace hsn HBB.out
                        have hRp := Replace_any A (t.setFailed s true) w12 (s : Int) hA12
                        rw [hr1'] at hRp
                        simp only [errV_zero] at hRp
                        have HRp := Lib.hid hRp
                        have HM0 := Lib.hid hr2'
                        have HKK := Lib.hid hkk
                        have HB12 := Lib.hid hB12
                        have HPr12 := Lib.hid hPr12
                        clear hRp hr1' hr2' hkk hB12 hPr12 hA12
                        go_wp2_with fail
                        refine HRp.out.mono ?_
                        rintro e w13 ⟨rfl, hA13, K13⟩
                        go_wp2_with fail
                        go_loopw [25] (fun ix wr => ∃ (r : Nat) (t2 : St), r ≤ rows ∧ ix = .int .i64 r ∧ IsArr wr A t2 ∧ Hid (MA t2 n rows s r bad cells) ∧ Keep A.lo A.hi w12 wr) (fun ix _ => rows - (intOf ix).toNat)
                        case atStart => exact ⟨0, _, by omega, rfl, hA13, HM0, K13⟩
                        case round =>
                          obtain ⟨r, t2, hr, rfl, hA2, HM, K2⟩ := hrel
                          by_cases hrl : (r : Int) < (rows : Int)
                          · obtain ⟨t3, e1, hm3⟩ := HM.out.step hA2.ok hsn HBB.out (show r < rows by omega)
                            have hRb := Rebuild_any A t2 wr (s : Int) hA2
                            rw [e1] at hRb
                            simp only [errV_zero] at hRb
                            have HRb := Lib.hid hRb
                            have HM3 := Lib.hid hm3
                            have hleft : (((rows - (r + 1) : Nat) : Int) != (rows : Int) - (r : Int) - 1) = false := by
                              rw [show ((rows - (r + 1) : Nat) : Int) = (rows : Int) - (r : Int) - 1 by omega]
                              simp
                            clear hRb e1 hm3
                            go_wp2_with fail
                            refine HRb.out.mono ?_
                            rintro e w14 ⟨rfl, hA14, K14⟩
                            go_wp2_with fail
                            go_roundw
                            case rel => exact ⟨r + 1, t3, by omega, by go_num, hA14, HM3, K2.trans K14⟩
                            case measure => simp [intOf]; omega
                          · have hrr : r = rows := by omega
                            have HS3 : Hid (AS t2 n rows bad cells) := Lib.hid (by have := HM.out; rw [hrr] at this; exact this.done)
                            have hB15 := HB12.out.keep K2 (.inl ho1)
                            have hkl : kk < (states.set d 2).length := (List.getElem?_eq_some_iff.1 HKK.out).1
                            have HFi := Lib.hid (pfill_any P _ _ wr kk hB15 (by rw [set_get _ _ _ _ hkl, if_pos rfl]))
                            have HPr15 := Lib.hid (HPr12.out.keep K2 (.inr hAg))
                            have HX15 : Hid (Ext w wr) := Lib.hid (Below.trans X12 (K2.below ho3 X12.size))
                            clear hB15 hrr hkl
                            go_wp2_with fail
                            refine HFi.out.mono ?_
                            rintro e w16 ⟨rfl, hB16, K16⟩
                            have HN : Hid (Pooling A P w3.heap.size w w16 n rows (n + spares) k) :=
                              Lib.hid ⟨t2, bad, cells, _, _, hA2.keep K16 (.inr ho1), HS3.out, hB16, PI.some HI.out hsn HBB.out HD.out HDM.out HKK.out, hbn, hbk, HPr15.out.keep K16 (.inr ho2), Below.trans HX15.out (K16.below hwP HX15.out.size), HO.out⟩
                            clear hB16 K16 hA2 K2
                            go_wp2_with fail
                            go_roundw
                            case rel => exact ⟨i + 1, k, by omega, by go_num, rfl, HN.out⟩
                            case measure => simp [intOf]; omega
                  · rw [decide_eq_false hc]
                    clear hc
                    go_wp2_with fail
                    go_roundw
                    case rel => exact ⟨i + 1, k, by omega, by go_num, rfl, HPc.out⟩
                    case measure => simp [intOf]; omega
            · go_wp2_with fail
              go_meet
              case rel => exact ⟨k, HPo.out⟩
          · go_wp2_with fail
            go_meet
            case rel => exact ⟨k, HPo.out⟩
      case rest =>
        clear HK hw hf
        go_wp2_with fail
        go_loopw [28] (fun ix wr => ∃ i : Nat, i ≤ q ∧ ix = .int .i64 i ∧ ∃ k, Pooling A P w3.heap.size w wr n rows (n + spares) k) (fun ix _ => q - (intOf ix).toNat)
        case atStart => exact ⟨0, by omega, rfl, hcut⟩
        case round =>
          obtain ⟨j, hj, rfl, k, hPo⟩ := hrel
          have HPo := Lib.hid hPo
          obtain ⟨t, bad, cells, states, slots, hA, hS, -, -, -, -, hPr, X, -⟩ := hPo
          by_cases hjq : (j : Int) < (q : Int)
          · have hrd := ks_read hA.ok hS.ks j (by rw [← HQ.out]; omega)
            have hRd := Read_any A t wr (j : Int) hA
            rw [hrd] at hRd
            simp only [errV_zero] at hRd
            have hkl : j < cells.length := by rw [hS.ks.len, ← HQ.out]; omega
            have hgd : cells.getD j [] = cells[j] := by rw [List.getD_eq_getElem?_getD, List.getElem?_eq_getElem hkl]; rfl
            rw [hgd] at hRd
            have cg : wr.cell? ⟨w3.heap.size, j, none⟩ = some (Str cells[j]) := hPr.cell (by rw [List.getElem?_map, List.getElem?_eq_getElem hkl]; rfl)
            generalize cells[j] = y at hRd cg
            have hy0 : (y != y) = false := by simp
            have hy1 : (y == y) = true := by simp
            have HRd := Lib.hid hRd
            clear hRd hrd hgd hA hS hPr X
            go_wp2_with fail
            refine HRd.out.mono ?_
            rintro e w12 ⟨rfl, X12⟩
            have cg2 := X12.cell cg
            have HKu := Lib.hid (HPo.out.ext X12)
            clear cg X12
            go_wp2_with fail
            go_roundw
            case rel => exact ⟨j + 1, by omega, by go_num, k, HKu.out⟩
            case measure => simp [intOf]; omega
          · clear hA hS hPr
            go_wp2_with fail
            go_ret
            exact ⟨rfl, X⟩

end Go.Proofs.Ytmgppnceddnlmaa
