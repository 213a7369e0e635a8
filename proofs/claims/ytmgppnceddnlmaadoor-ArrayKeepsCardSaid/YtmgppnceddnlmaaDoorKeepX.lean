/- Law ArrayKeeps: the walk. -/
import Derived.Test.YtmgppnceddnlmaaDoorKeepW
namespace Go.Proofs.YtmgppnceddnlmaaDoor
open Go.RowKit

theorem errV_eq0 {n : Nat} (h : n = 0) : errV n = .nilIface := by rw [h]; rfl

/-- The three numbers of a step. -/
def AtV (b : Nat) (x0 x1 x2 : Int) (w wc : World) : Prop := Row wc b 51 #[NumI x0, NumI x1, NumI x2] ∧ Ext w wc
def SomeV (b : Nat) (w wc : World) : Prop := ∃ x0 x1 x2, AtV b x0 x1 x2 w wc
theorem SomeV.of_list {b : Nat} {l : List Int} {w wc : World} (hl : l.length = 3) (h : Row wc b 51 (l.map NumI).toArray) (x : Ext w wc) : SomeV b w wc := by
  match l, hl with
  | [x0, x1, x2], _ => exact ⟨x0, x1, x2, h, x⟩
/-- Behind the switch. -/
def Switched (B : Lay) (g cap b : Nat) (x0 x1 x2 : Int) (w wc : World) (n rows size : Nat) : Prop := Keeping B g cap w wc n rows size ∧ Row wc b 51 #[NumI x0, NumI x1, NumI x2]

theorem Keeping.ext {B : Lay} {g cap : Nat} {w wr wc : World} {n rows size : Nat} (h : Keeping B g cap w wr n rows size) (x : Ext wr wc) : Keeping B g cap w wc n rows size := by
  obtain ⟨s, cells, h1, h2, h3, h4, h5⟩ := h
  exact ⟨s, cells, h1.ext x, h2, h3.ext x, h4.trans x, h5⟩
theorem Keeping.moved {B : Lay} {g cap : Nat} {w wr wc : World} {n rows size : Nat} {s : St} {cells : List Blk} (hP : Pre wr g 9 (cells.map Str)) (X : Ext w wr) (hc : rows * (n - 2) ≤ cap ∧ cap ≤ maxLen ∧ B.hi ≤ g ∧ w.heap.size ≤ g ∧ w.heap.size ≤ B.lo)
    (hA : IsArr wc B s) (hK : KS s n rows size cells) (k : Keep B.lo B.hi wr wc) : Keeping B g cap w wc n rows size :=
  ⟨s, cells, hA, hK, hP.keep k (.inr hc.2.2.1), Below.trans X (k.below hc.2.2.2.2 X.size), hc⟩

theorem Keeping.put {B : Lay} {g cap k : Nat} {w wc : World} {n rows size : Nat} {s : St} {cells : List Blk} {b : Blk} (hA : IsArr wc B s) (hK : KS s n rows size (cells.set k b)) (hP : Pre wc g 9 (cells.map Str)) (hk : k < cells.length)
    (X : Ext w wc) (hc : rows * (n - 2) ≤ cap ∧ cap ≤ maxLen ∧ B.hi ≤ g ∧ w.heap.size ≤ g ∧ w.heap.size ≤ B.lo) : Keeping B g cap w (wc.setCell ⟨g, k, none⟩ (Str b)) n rows size := by
  refine ⟨s, cells.set k b, hA.carry (by simp) fun i _ h2 => Below.heap_setCell wc _ _ i (by show i ≠ g; omega), hK, ?_, X.setCell hc.2.2.2.1 _, hc⟩
  have := hP.set k (by simpa using hk) (Str b)
  rw [← List.map_set] at this
  exact this

set_option maxHeartbeats 8000000 in
set_option maxRecDepth 100000 in
theorem keeps_good (n rows size ln lc : Nat) (la : Option Addr) (steps : List (List Int)) (w : World) (hg : Laid w) (hl : RowsIn w la ln lc steps) (hn3 : 3 ≤ n) (hn10 : n ≤ 10) (hr1 : 1 ≤ rows) (hr20 : rows ≤ 20) (hs1 : 1 ≤ size) (hs16 : size ≤ 16) :
    Calls Tryd.prog 6 #[.int .i64 (n : Int), .int .i64 (rows : Int), .int .i64 (size : Int), .slice la ln lc] w fun e w' => e = .returned (.bool true) ∧ Ext w w' := by
  have HN1 := Lib.hid (New_ok 3 1 1 w (by omega) (by omega) (by omega) (by omega) (by omega) (by omega))
  have HN2 := Lib.hid (fun wx => New_ok n rows size wx hn3 hn10 hr1 hr20 hs1 hs16)
  obtain ⟨ii, hi0, hz0, hz1, hz2⟩ := info_parts Tryd.infoStr
  have Hi := Lib.hid hi0
  have Hz0 := Lib.hid hz0
  have Hz1 := Lib.hid hz1
  have Hz2 := Lib.hid hz2
  clear hi0 hz0 hz1 hz2
  obtain ⟨q, hq⟩ : ∃ q, q = rows * (n - 2) := ⟨_, rfl⟩
  have hpb : rows * (n - 2) ≤ 20 * 8 := Nat.mul_le_mul hr20 (by omega)
  have hq1 : 1 * 1 ≤ rows * (n - 2) := Nat.mul_le_mul hr1 (by omega)
  have hprod : ((rows : Int) * ((n : Int) - 2)) = (q : Int) := by
    rw [hq, Int.natCast_mul, show ((n - 2 : Nat) : Int) = (n : Int) - 2 by omega]
  rw [← hq] at hpb hq1
  have HQ := Lib.hid hq
  have HX0 : Hid (KS (St.new n rows size) n rows size (List.replicate q (zeros size))) := Lib.hid (by rw [hq]; exact ks_new n rows size hn3)
  clear hq
  go_enter Tryd.func6, Tryd.ntmps6
  go_wp2_with fail
  refine HN1.out.mono ?_
  rintro e w1 ⟨A, rfl, hlo, hA, X1⟩
  have HW1 := Lib.hid (Write_any A (St.new 3 1 1) w1 0 [7] hA)
  rw [kf1_e] at HW1
  simp only [errV_zero] at HW1
  go_wp2_with fail
  refine HW1.out.mono ?_
  rintro e w2 ⟨rfl, hA2, K2⟩
  have HF1 := Lib.hid (Fail_any A kf1 w2 0 hA2)
  rw [kf2_e] at HF1
  simp only [errV_zero] at HF1
  go_wp2_with fail
  refine HF1.out.mono ?_
  rintro e w3 ⟨rfl, hA3, K3⟩
  have HF2 := Lib.hid (Fail_any A kf2 w3 1 hA3)
  rw [kf3_e] at HF2
  simp only [errV_zero] at HF2
  go_wp2_with fail
  refine HF2.out.mono ?_
  rintro e w4 ⟨rfl, hA4, K4⟩
  have HR1 := Lib.hid (Read_any A kf3 w4 0 hA4)
  rw [kf_read] at HR1
  simp only [errV_zero] at HR1
  go_wp2_with fail
  refine HR1.out.mono ?_
  rintro e w5 ⟨rfl, X5⟩
  have X05 : Ext w w5 := Ext.trans (Below.trans X1 (((K2.trans K3).trans K4).below (by omega) X1.size)) X5
  clear hA hA2 hA3 hA4 K2 K3 K4 HN1 HW1 HF1 HF2 HR1 X1 X5
  go_wp2_with fail
  refine (HN2.out w5).mono ?_
  rintro e w6 ⟨B, rfl, hloB, hB, X6⟩
  have X06 := X05.trans X6
  have hX05s := X05.size
  clear X05 HN2
  have hBhi := hB.hiw
  have hX6s := X06.size
  have hX6b := X6.size
  go_wp2_with fail
  go_loopw [14, 15] (fun v i wr => ∃ j : Nat, j ≤ q ∧ i = .int .i64 j ∧ Ext w6 wr ∧ wr.ownsRow w6.heap.size 9 1 v j ((List.replicate j (zeros size)).map Str)) (fun _ i _ => q - (intOf i).toNat)
  case atStart => exact ⟨0, by omega, rfl, Ext.refl _, World.ownsRow_nil _ _ _ _⟩
  case round =>
    obtain ⟨j, hj, rfl, XX, hown⟩ := hrel
    have HO := Lib.hid hown
    have hsz := XX.size
    clear hown
    by_cases hlt : (j : Int) < (q : Int)
    · have hmk := fun wx => run_make_bytes wx size (by omega)
      have hcb := conv_bytes (sl_of_row (Row.new wr (rowB (zeros size)) 5) (zeros_length size) (by unfold maxLen; omega))
      go_wp2_with (at_builtin; refine wpList_append_own _ rfl (.tmp 103) (.tmp 107) 40 rfl w6.heap.size 9 ii _ 1 16 Tryd.underlying40 Hi.out Hz0.out Hz1.out Hz2.out rfl (by decide) _ _ _ rfl ((HO.out.alloc _).alloc _) ⟨wr.heap.size + 1, 0, none⟩ 1 1 [Str (zeros size)] rfl rfl ?c1 ?c2 ?c3 ?c4 ?c5 ?_)
      case c1 =>
        intro j u hj
        have := cell_one_new (wr.alloc (.cells (rowB (zeros size)) 5)) (Str (zeros size)) 9 j u hj
        rwa [World.size_alloc] at this
      case c2 => intro u hu; simp at hu; subst hu; rfl
      case c3 => unfold maxLen; omega
      case c4 => omega
      case c5 => simp; omega
      intro v' w2 hown2 hgrow2 _
      have HX2 : Hid (Ext w6 w2) := Lib.hid (((XX.alloc hsz _).alloc (by simp; omega) _).grown hgrow2 (by simp; omega) (fun q hq => (HO.out.lt q hq).1))
      have HO2 : Hid (w2.ownsRow w6.heap.size 9 1 v' (j + 1) ((List.replicate (j + 1) (zeros size)).map Str)) := Lib.hid (by
        rw [List.replicate_succ', List.map_append, List.map_replicate]
        exact hown2)
      clear hown2
      go_wp2_with fail
      go_roundw
      case rel => exact ⟨j + 1, by omega, by go_num, HX2.out, HO2.out⟩
      case measure => simp [intOf]; omega
    · have hjq : j = q := by omega
      rw [hjq] at HO
      obtain ⟨g, cap, rfl, hP, hc1, hc2, hg1⟩ := owns_pre HO.out (by omega)
      have HK : Hid (Keeping B g cap w wr n rows size) := Lib.hid ⟨_, _, hB.ext XX, HX0.out, hP, X06.trans XX, by rw [← HQ.out]; exact hc1, hc2, by omega, by omega, by omega⟩
      clear hP HO hjq XX hB Hi Hz0 Hz1 Hz2 HX0 hX05s hX6s hX6b X6 X06 hsz hBhi hloB hlo hc1 hc2 hg1
      go_upto_block 2 with (fail)
      clear hprod hlt hj
      go_cut [8, 16, 17, 18, 19, 20, 21, 22, 23, 24, 25, 26, 27, 28] from 109 to 246 (fun _ _ _ _ _ _ _ _ _ _ _ _ _ _ wc => Keeping B g cap w wc n rows size)
      case first =>
        as_aux_lemma =>
        go_wp2_with fail
        obtain ⟨w7, hw7⟩ : ∃ w7, w7 = wr := ⟨_, rfl⟩
        subst hw7
        go_loopw [16] (fun ix wr => ∃ i : Nat, i ≤ ln ∧ ix = .int .i64 i ∧ Keeping B g cap w wr n rows size) (fun ix _ => ln - (intOf ix).toNat)
        case atStart => exact ⟨0, by omega, rfl, HK.out⟩
        case round =>
          obtain ⟨i, hi, rfl, hKp⟩ := hrel
          by_cases hlt : (i : Int) < (ln : Int)
          · by_cases h60 : (i : Int) < 60
            · obtain ⟨s, cells, hA, hK, hP, X, hcq, hcm, hBg, hwg, hwB⟩ := hKp
              obtain ⟨gr, offr, y, ya, yn, yc, rfl, hy, hc, hI⟩ := hl.get X (i := i) (by omega)
              have hXs := X.size
              have hglt := hP.lt
              have hBhi2 := hA.hiw
              have HI := Lib.hid hI
              have HC0 := Lib.hid hc
              have HKS := Lib.hid hK
              clear hI hK
              have hrow0 : Row (wr.alloc (.cells #[NumI 0, NumI 0, NumI 0] 51)) wr.heap.size 51 (([0, 0, 0] : List Int).map NumI).toArray := Row.new _ _ _
              have hX0 : Ext wr (wr.alloc (.cells #[NumI 0, NumI 0, NumI 0] 51)) := (Below.refl _ _).alloc (Nat.le_refl _) _
              have HR0 := Lib.hid hrow0
              have HX00 := Lib.hid hX0
              clear hrow0 hX0
              go_upto_block 4 with (fail)
              obtain ⟨w8, rfl⟩ : ∃ w8 : World, w8 = wr := ⟨_, rfl⟩
              go_cut [18] from 119 to 140 (fun _ wc => SomeV w8.heap.size w8 wc)
              case first =>
                as_aux_lemma =>
                go_wp2_with fail
                go_loopw [18] (fun jx w3 => ∃ (j : Nat) (l : List Int), j ≤ 3 ∧ jx = .int .i64 j ∧ l.length = 3 ∧ Row w3 w8.heap.size 51 (l.map NumI).toArray ∧ Ext w8 w3) (fun jx _ => 3 - (intOf jx).toNat)
                case atStart => exact ⟨0, [0, 0, 0], by omega, rfl, rfl, HR0.out, HX00.out⟩
                case round =>
                  obtain ⟨j, l, hj, rfl, hll, hrow, XX⟩ := hrel
                  have hcr := XX.cell HC0.out
                  by_cases h1 : (j : Int) < (yn : Int)
                  · by_cases h2 : (j : Int) < 3
                    · obtain ⟨gy, offy, z, rfl, hz, cz⟩ := (HI.out.ext XX).sl.get (i := j) (by omega)
                      obtain ⟨old, hold⟩ : ∃ v, wr.cell? ⟨w8.heap.size, j, none⟩ = some v := ⟨_, (hrow.cell j).trans (by rw [List.getElem?_toArray, List.getElem?_map, List.getElem?_eq_getElem (by omega)]; rfl)⟩
                      have hfr := hrow.free j
                      have hset := hrow.set j (NumI z)
                      have e1 : ((l.map NumI).toArray.setIfInBounds j (NumI z)) = ((l.set j z).map NumI).toArray := by apply Array.ext'; simp [List.map_set]
                      rw [e1] at hset
                      have HS := Lib.hid hset
                      have HX : Hid (Ext w8 (wr.setCell ⟨w8.heap.size, j, none⟩ (NumI z))) := Lib.hid (XX.setCell (Nat.le_refl _) _)
                      have HLL := Lib.hid hll
                      clear e1 hset hz hll
                      go_wp2_with fail
                      go_roundw
                      case rel => exact ⟨j + 1, l.set j z, by omega, by go_num, by rw [List.length_set]; exact HLL.out, HS.out, HX.out⟩
                      case measure => simp [intOf]; omega
                    · have HM := Lib.hid (SomeV.of_list hll hrow XX)
                      clear hll hrow
                      go_wp2_with fail
                      go_meet
                      case rel => exact HM.out
                  · have HM := Lib.hid (SomeV.of_list hll hrow XX)
                    clear hll hrow
                    go_wp2_with fail
                    go_meet
                    case rel => exact HM.out
              case rest =>
                as_aux_lemma =>
                obtain ⟨x0, x1, x2, hrow, XX⟩ := hcut
                have v0 : wc.cell? ⟨w8.heap.size, 0, none⟩ = some (NumI x0) := hrow.cell 0
                have v1 : wc.cell? ⟨w8.heap.size, 1, none⟩ = some (NumI x1) := hrow.cell 1
                have v2 : wc.cell? ⟨w8.heap.size, 2, none⟩ = some (NumI x2) := hrow.cell 2
                have hA' := hA.ext XX
                have hP' := hP.ext XX
                have X' := X.trans XX
                have hwc := XX.size
                clear hA hP X HR0 HX00
                have hg8 := hglt
                have hcc : rows * (n - 2) ≤ cap ∧ cap ≤ maxLen ∧ B.hi ≤ g ∧ w.heap.size ≤ g ∧ w.heap.size ≤ B.lo := ⟨hcq, hcm, hBg, hwg, hwB⟩
                have hB8 : B.hi ≤ w8.heap.size := by omega
                have hql : cells.length = q := by rw [HKS.out.len, HQ.out]
                have HQL := Lib.hid hql
                have HC := Lib.hid hcc
                have HKp : Hid (Keeping B g cap w wc n rows size) := Lib.hid ⟨s, cells, hA', HKS.out, hP', X', hcc⟩
                clear hql hcc
                go_upto_block 6 with (fail)
                obtain ⟨w9, rfl⟩ : ∃ w9 : World, w9 = wc := ⟨_, rfl⟩
                go_cut [8, 19, 20, 21, 22, 23, 24, 25, 26] from 143 to 218 (fun _ _ _ _ _ _ _ _ _ wc => Switched B g cap w8.heap.size x0 x1 x2 w wc n rows size)
                case first =>
                  go_upto_if 153 with (fail)
                  go_cut [153, 154, 155, 156] from 157 to 157 (fun t _ _ _ wc => t = .bool (decide (x0 = 0 ∨ x0 = 1 ∨ x0 = 2)) ∧ w9 = wc)
                  case first =>
                    by_cases h0 : x0 = 0
                    · subst h0
                      go_wp2_with fail
                      go_meet
                      case rel => exact ⟨rfl, rfl⟩
                    · have d0 : (x0 == 0) = false := by rw [beq_eq_false_iff_ne]; omega
                      by_cases h1 : x0 = 1
                      · subst h1
                        go_wp2_with fail
                        go_meet
                        case rel => exact ⟨rfl, rfl⟩
                      · have d1 : (x0 == 1) = false := by rw [beq_eq_false_iff_ne]; omega
                        by_cases h2 : x0 = 2
                        · subst h2
                          go_wp2_with fail
                          go_meet
                          case rel => exact ⟨rfl, rfl⟩
                        · have d2 : (x0 == 2) = false := by rw [beq_eq_false_iff_ne]; omega
                          go_wp2_with fail
                          go_meet
                          case rel => exact ⟨by rw [decide_eq_false (by omega)], rfl⟩
                  case rest =>
                    obtain ⟨rfl, rfl⟩ := hcut
                    by_cases hw : x0 = 0 ∨ x0 = 1 ∨ x0 = 2
                    · rw [decide_eq_true hw]
                      have HB := Lib.hid (block_any size x2 w9 hs1 hs16)
                      clear hw
                      as_aux_lemma =>
                      go_wp2_with fail
                      refine HB.out.mono ?_
                      rintro e w10 ⟨b, rfl, hbl, X10⟩
                      have v1' := X10.cell v1
                      have HKc := Lib.hid (HKp.out.ext X10)
                      have hP10 := hP'.ext X10
                      have hA10 := hA'.ext X10
                      have hrow10 := hrow.ext X10
                      have HX10 := Lib.hid (X'.trans X10)
                      clear hP' hA' X' hrow X10 v0 v1 v2
                      go_upto_region 34 with (fail)
                      go_cut [161, 162, 163, 164, 165, 166, 167, 168, 169, 170, 171, 172, 173, 174, 175, 176] from 177 to 177 (fun _ _ _ _ _ _ _ _ _ _ _ _ _ _ _ t wc => t = .bool (decide (b.length ≠ size ∨ x1 < 0 ∨ (q : Int) ≤ x1)) ∧ w10 = wc)
                      case first =>
                        clear hA10 hP10 hrow10
                        by_cases hb : b.length = size
                        · have q1 : ((b.length : Int) != (size : Int)) = false := by
                            rw [hb]
                            simp
                          have HB1 := Lib.hid hb
                          clear hb hbl
                          by_cases hx1 : x1 < 0
                          · have q2 : decide (x1 < 0) = true := by simpa using hx1
                            go_wp2_with fail
                            go_meet
                            case rel => exact ⟨by rw [decide_eq_true (.inr (.inl hx1))], rfl⟩
                          · have q2 : decide (x1 < 0) = false := by simpa using hx1
                            by_cases hx1q : (q : Int) ≤ x1
                            · have q3 : decide ((q : Int) ≤ x1) = true := by simpa using hx1q
                              go_wp2_with fail
                              go_meet
                              case rel => exact ⟨by rw [decide_eq_true (.inr (.inr hx1q))], rfl⟩
                            · have q3 : decide ((q : Int) ≤ x1) = false := by simpa using hx1q
                              have HD : Hid (decide (b.length ≠ size ∨ x1 < 0 ∨ (q : Int) ≤ x1) = false) := Lib.hid (decide_eq_false (by have := HB1.out; omega))
                              go_wp2_with fail
                              go_meet
                              case rel => exact ⟨by rw [HD.out], rfl⟩
                        · have q1 : ((b.length : Int) != (size : Int)) = true := by
                            rw [bne_iff_ne]
                            omega
                          have HD : Hid (decide (b.length ≠ size ∨ x1 < 0 ∨ (q : Int) ≤ x1) = true) := Lib.hid (decide_eq_true (.inl hb))
                          clear hb hbl
                          go_wp2_with fail
                          go_meet
                          case rel => exact ⟨by rw [HD.out], rfl⟩
                      case rest =>
                        obtain ⟨rfl, rfl⟩ := hcut
                        by_cases hbad : b.length ≠ size ∨ x1 < 0 ∨ (q : Int) ≤ x1
                        · rw [decide_eq_true hbad]
                          clear hbad hbl hA10 hP10 hrow10
                          go_wp2_with fail
                          go_roundw
                          case rel => exact ⟨i + 1, by omega, by go_num, HKc.out⟩
                          case measure => simp [intOf]; omega
                        · rw [decide_eq_false hbad]
                          obtain ⟨k, rfl⟩ : ∃ k : Nat, x1 = (k : Int) := ⟨x1.toNat, by omega⟩
                          have hkq : (k : Int) < (q : Int) := by omega
                          obtain ⟨s', hwr, hks'⟩ := ks_write hA10.ok HKS.out k (by rw [← HQ.out]; omega) b (by omega)
                          have hW := Write_any B s w10 (k : Int) b hA10
                          rw [hwr] at hW
                          simp only [errV_zero] at hW
                          have HW := Lib.hid hW
                          have HK' := Lib.hid hks'
                          clear hW hwr hks' hbad hbl
                          go_wp2_with fail
                          refine HW.out.mono ?_
                          rintro e w11 ⟨rfl, hA11, K11⟩
                          have hP11 := hP10.keep K11 (.inr hBg)
                          have X11 : Ext w w11 := Below.trans HX10.out (K11.below hwB HX10.out.size)
                          have hrow11 := K11.row hrow10 (.inr hB8)
                          have v11 : w11.cell? ⟨w8.heap.size, 1, none⟩ = some (NumI (k : Int)) := hrow11.cell 1
                          have hkl : k < cells.length := by rw [HQL.out]; omega
                          have cg : w11.cell? ⟨g, k, none⟩ = some (Str cells[k]) := hP11.cell (by rw [List.getElem?_map, List.getElem?_eq_getElem hkl]; rfl)
                          have fg := hP11.free k
                          have HN : Hid (Switched B g cap w8.heap.size x0 (k : Int) x2 w (w11.setCell ⟨g, k, none⟩ (Str b)) n rows size) :=
                            Lib.hid ⟨Keeping.put hA11 HK'.out hP11 hkl X11 HC.out, hrow11.set_ne _ (show w8.heap.size ≠ g by omega) _⟩
                          clear hP11 hA11 K11 hrow11 hA10 hP10 hrow10
                          go_wp2_with fail
                          go_meet
                          case rel => exact HN.out
                    · rw [decide_eq_false hw]
                      have e0 : (x0 == 0) = false := by rw [beq_eq_false_iff_ne]; omega
                      have HSW : ∀ (wx : World) (s' : St), IsArr wx B s' → KS s' n rows size cells → Keep B.lo B.hi w9 wx → Switched B g cap w8.heap.size x0 x1 x2 w wx n rows size :=
                        fun _ _ h1 h2 k => ⟨Keeping.moved hP' X' HC.out h1 h2 k, k.row hrow (.inr hB8)⟩
                      have HSWh := Lib.hid HSW
                      clear HSW
                      by_cases h3 : x0 = 3
                      · subst h3
                        have hsr := HKS.out.rows
                        have HLo := Lib.hid (fun (r : Nat) (hr : r < rows) => by
                          have hL := Lost_any B s w9 (r : Int) hA'
                          rw [St.lostE, if_neg (by rw [hsr]; omega), Int.toNat_natCast] at hL
                          simp only [errV_zero] at hL
                          exact hL)
                        have HLe := Lib.hid (fun r => show s.lostN r ≤ 10 from Nat.le_trans (lostUpto_le s r s.n) hA'.ok.n10)
                        have HNo := Lib.hid (HSWh.out _ _ hA' HKS.out (Keep.refl _ _ _))
                        clear hsr
                        go_wp2_with fail
                        go_loop [20, 21] (fun wv ix => ∃ r k : Nat, r ≤ rows ∧ ix = .int .i64 r ∧ wv = .int .i64 k ∧ k ≤ 10 ∧ Hid (∀ row, row < r → s.lostN row ≤ k)) (fun _ ix => rows - (intOf ix).toNat)
                        case atStart => exact ⟨0, 0, by omega, rfl, rfl, by omega, Lib.hid fun row h => absurd h (Nat.not_lt_zero _)⟩
                        case round =>
                          obtain ⟨r, k, hr, rfl, rfl, hk10, HB⟩ := hrel
                          by_cases hlt2 : (r : Int) < (rows : Int)
                          · have hL := HLo.out r (by omega)
                            have hz10 := HLe.out r
                            obtain ⟨z, HZ⟩ : ∃ z, Hid (s.lostN r = z) := ⟨_, Lib.hid rfl⟩
                            rw [HZ.out] at hL hz10
                            have HL := Lib.hid hL
                            clear hL
                            by_cases hgt : (k : Int) < (z : Int)
                            · go_wp2_with fail
                              refine HL.out.mono ?_
                              rintro e w' ⟨rfl, rfl⟩
                              go_wp2_with fail
                              go_round
                              case rel =>
                                refine ⟨r + 1, z, by omega, by go_num, rfl, hz10, Lib.hid fun row hrow2 => ?_⟩
                                by_cases e : row = r
                                · rw [e, HZ.out]
                                  omega
                                · have := HB.out row (by omega)
                                  omega
                              case measure => simp [intOf]; omega
                            · have hgd : decide ((k : Int) < (z : Int)) = false := by simpa using hgt
                              have hgd2 : decide (k < z) = false := decide_eq_false (by omega)
                              go_wp2_with fail
                              refine HL.out.mono ?_
                              rintro e w' ⟨rfl, rfl⟩
                              go_wp2_with fail
                              go_round
                              case rel =>
                                refine ⟨r + 1, k, by omega, by go_num, rfl, hk10, Lib.hid fun row hrow2 => ?_⟩
                                by_cases e : row = r
                                · rw [e, HZ.out]
                                  omega
                                · exact HB.out row (by omega)
                              case measure => simp [intOf]; omega
                          · by_cases hk2 : (k : Int) < 2
                            · obtain ⟨s', er, hfl, hks'⟩ := ks_fail HKS.out (fun row hrow2 => Nat.le_trans (HB.out row (by omega)) (by omega)) x1
                              have hF := Fail_any B s w9 x1 hA'
                              rw [hfl] at hF
                              have HF := Lib.hid hF
                              have HK' := Lib.hid hks'
                              clear hF hfl hks'
                              go_wp2_with fail
                              refine HF.out.mono ?_
                              rintro e w11 ⟨rfl, hA11, K11⟩
                              have HN := Lib.hid (HSWh.out _ _ hA11 HK'.out K11)
                              clear hA11 K11
                              go_wp2_with fail
                              go_meet
                              case rel => exact HN.out
                            · have hkd : decide ((k : Int) < 2) = false := by simpa using hk2
                              go_wp2_with fail
                              go_meet
                              case rel => exact HNo.out
                      · have d3 : (x0 == 3) = false := by rw [beq_eq_false_iff_ne]; omega
                        by_cases h4 : x0 = 4
                        · subst h4
                          obtain ⟨s', er, hrp, hks'⟩ := ks_replace HKS.out x1
                          have hR := Replace_any B s w9 x1 hA'
                          rw [hrp] at hR
                          have HR := Lib.hid hR
                          have HK' := Lib.hid hks'
                          clear hR hrp hks'
                          go_wp2_with fail
                          refine HR.out.mono ?_
                          rintro e w11 ⟨rfl, hA11, K11⟩
                          have HN := Lib.hid (HSWh.out _ _ hA11 HK'.out K11)
                          clear hA11 K11
                          go_wp2_with fail
                          go_meet
                          case rel => exact HN.out
                        · have d4 : (x0 == 4) = false := by rw [beq_eq_false_iff_ne]; omega
                          obtain ⟨s', kk, er, hrp, hne8, hks'⟩ := ks_rebuild hA'.ok HKS.out x1
                          have hR := Rebuild_any B s w9 x1 hA'
                          rw [hrp] at hR
                          have HR := Lib.hid hR
                          have HK' := Lib.hid hks'
                          have HE8 : Hid (((er : Int) == 8) = false) := Lib.hid (by rw [beq_eq_false_iff_ne]; omega)
                          clear hR hrp hks' hne8
                          go_wp2_with fail
                          refine HR.out.mono ?_
                          rintro e w11 ⟨rfl, hA11, K11⟩
                          have X11 : Ext w w11 := Below.trans X' (K11.below hwB X'.size)
                          have hE := error_any er 8 w11 (hg.ext X11)
                          rw [HE8.out] at hE
                          have HE := Lib.hid hE
                          clear hE
                          go_wp2_with fail
                          refine HE.out.mono ?_
                          rintro e w12 ⟨rfl, X12⟩
                          have HN := Lib.hid (HSWh.out _ _ (hA11.ext X12) HK'.out (K11.trans (Keep.of_ext X12)))
                          clear hA11 K11 X12 X11
                          go_wp2_with fail
                          go_meet
                          case rel => exact HN.out
                case rest =>
                  obtain ⟨⟨t, cells2, hB2, hK2, hP2, X2, -⟩, hrow2⟩ := hcut
                  have u1 : wc.cell? ⟨w8.heap.size, 1, none⟩ = some (NumI x1) := hrow2.cell 1
                  have HKt : Hid (Keeping B g cap w wc n rows size) := Lib.hid ⟨t, cells2, hB2, hK2, hP2, X2, HC.out⟩
                  clear hrow hrow2 hA' hP' X' v0 v1 v2 HKp
                  by_cases hx1 : x1 < 0
                  · have q2 : decide (x1 < 0) = true := by simpa using hx1
                    go_wp2_with fail
                    go_roundw
                    case rel => exact ⟨i + 1, by omega, by go_num, HKt.out⟩
                    case measure => simp [intOf]; omega
                  · have q2 : decide (x1 < 0) = false := by simpa using hx1
                    by_cases hx1q : (q : Int) ≤ x1
                    · have q3 : decide ((q : Int) ≤ x1) = true := by simpa using hx1q
                      go_wp2_with fail
                      go_roundw
                      case rel => exact ⟨i + 1, by omega, by go_num, HKt.out⟩
                      case measure => simp [intOf]; omega
                    · obtain ⟨k, rfl⟩ : ∃ k : Nat, x1 = (k : Int) := ⟨x1.toNat, by omega⟩
                      have hkq : (k : Int) < (q : Int) := by omega
                      have hrd := ks_read hB2.ok hK2 k (by rw [← HQ.out]; omega)
                      have hRd := Read_any B t wc (k : Int) hB2
                      rw [hrd] at hRd
                      simp only [errV_zero] at hRd
                      have hkl : k < cells2.length := by rw [hK2.len, ← HQ.out]; omega
                      have hgd : cells2.getD k [] = cells2[k] := by rw [List.getD_eq_getElem?_getD, List.getElem?_eq_getElem hkl]; rfl
                      rw [hgd] at hRd
                      have cg : wc.cell? ⟨g, k, none⟩ = some (Str cells2[k]) := hP2.cell (by rw [List.getElem?_map, List.getElem?_eq_getElem hkl]; rfl)
                      generalize cells2[k] = y at hRd cg
                      have hy0 : (y != y) = false := by simp
                      have hy1 : (y == y) = true := by simp
                      have HRd := Lib.hid hRd
                      clear hRd hrd hgd hB2 hK2 hP2 X2
                      go_wp2_with fail
                      refine HRd.out.mono ?_
                      rintro e w12 ⟨rfl, X12⟩
                      have cg2 := X12.cell cg
                      have u12 := X12.cell u1
                      have HKu := Lib.hid (HKt.out.ext X12)
                      clear cg u1 X12
                      go_wp2_with fail
                      go_roundw
                      case rel => exact ⟨i + 1, by omega, by go_num, HKu.out⟩
                      case measure => simp [intOf]; omega
            · go_wp2_with fail
              go_meet
              case rel => exact hKp
          · go_wp2_with fail
            go_meet
            case rel => exact hKp
      case rest =>
        clear HK hl
        go_wp2_with fail
        go_loopw [29] (fun ix wr => ∃ i : Nat, i ≤ q ∧ ix = .int .i64 i ∧ Keeping B g cap w wr n rows size) (fun ix _ => q - (intOf ix).toNat)
        case atStart => exact ⟨0, by omega, rfl, hcut⟩
        case round =>
          obtain ⟨k, hk, rfl, hKp⟩ := hrel
          by_cases hkq : (k : Int) < (q : Int)
          · have hKp2 := hKp
            obtain ⟨t, cells2, hB2, hK2, hP2, X2, -⟩ := hKp2
            have HKt := Lib.hid hKp
            have hrd := ks_read hB2.ok hK2 k (by rw [← HQ.out]; omega)
            have hRd := Read_any B t wr (k : Int) hB2
            rw [hrd] at hRd
            simp only [errV_zero] at hRd
            have hkl : k < cells2.length := by rw [hK2.len, ← HQ.out]; omega
            have hgd : cells2.getD k [] = cells2[k] := by rw [List.getD_eq_getElem?_getD, List.getElem?_eq_getElem hkl]; rfl
            rw [hgd] at hRd
            have cg : wr.cell? ⟨g, k, none⟩ = some (Str cells2[k]) := hP2.cell (by rw [List.getElem?_map, List.getElem?_eq_getElem hkl]; rfl)
            generalize cells2[k] = y at hRd cg
            have hy0 : (y != y) = false := by simp
            have hy1 : (y == y) = true := by simp
            have HRd := Lib.hid hRd
            clear hRd hrd hgd hB2 hK2 hP2 X2 hKp
            go_wp2_with fail
            refine HRd.out.mono ?_
            rintro e w12 ⟨rfl, X12⟩
            have cg2 := X12.cell cg
            have HKu := Lib.hid (HKt.out.ext X12)
            clear cg X12
            go_wp2_with fail
            go_roundw
            case rel => exact ⟨k + 1, by omega, by go_num, HKu.out⟩
            case measure => simp [intOf]; omega
          · obtain ⟨-, -, -, -, -, hX, -⟩ := hKp
            go_wp2_with fail
            go_ret
            exact ⟨rfl, hX⟩

end Go.Proofs.YtmgppnceddnlmaaDoor
