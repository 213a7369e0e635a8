/- Law ArrayRebuilds: the walk. -/
import Derived.Test.YtmgppnceddnlmaaDoorRebuilds
import Derived.Deep.CutBlock
namespace Go.Proofs.YtmgppnceddnlmaaDoor
open Go.RowKit

theorem Tryd.infoTexts : (Tryd.prog.info? 40).map (fun i => (i.zero, i.size, i.bytes)) = some (some (.slice none 0 0), 1, 24) := by kernel_rfl

/-- A list of strings that came in stands when the world grows. -/
theorem TextsIn.ext {w w' : World} {a : Option Addr} {n cap : Nat} {xs : List Blk} (h : TextsIn w a n cap xs) (x : Ext w w') : TextsIn w' a n cap xs := ⟨h.sl.ext x, h.short⟩

/-- The state behind the writes. -/
def Filled (A : Lay) (w wr : World) (n rows : Nat) : Prop := ∃ (s : St) (D : Nat → List Blk), IsArr wr A s ∧ Fresh s n rows 2 ∧ Holds s D ∧ Ext w wr

/-- Of each row that was read where its parts lie. -/
structure Was (wr : World) (A : Lay) (s : St) (P C : Nat → Nat) (r : Nat) : Prop where
  at_ : ∀ j, j < r → Pre wr (P j) 9 ((s.parts j).map Str)
  cap : ∀ j, j < r → s.n ≤ C j ∧ C j ≤ maxLen
  out : ∀ j, j < r → A.hi ≤ P j
abbrev WasV (n : Nat) (P C : Nat → Nat) (j : Nat) : Value := .slice (some ⟨P j, 0, none⟩) n (C j)

theorem Was.ext {wr w' : World} {A : Lay} {s : St} {P C : Nat → Nat} {r : Nat} (h : Was wr A s P C r) (x : Ext wr w') : Was w' A s P C r := ⟨fun j hj => (h.at_ j hj).ext x, h.cap, h.out⟩
theorem Was.keep {wr w' : World} {A : Lay} {s : St} {P C : Nat → Nat} {r : Nat} (h : Was wr A s P C r) (x : Keep A.lo A.hi wr w') : Was w' A s P C r := ⟨fun j hj => (h.at_ j hj).keep x (.inr (h.out j hj)), h.cap, h.out⟩

/-- A disk is built up to row r. -/
structure Mid (t : St) (n rows0 d r : Nat) (D : Nat → List Blk) : Prop where
  n : t.n = n
  rows : t.rows = rows0
  size : t.size = 2
  failed : ∀ e, t.failed e = false
  built : ∀ e, t.built e = if e = d then r else rows0
  holds : Holds t D
  few : Few t
theorem Replace_ok (A : Lay) (s : St) (w : World) (d : Nat) (h : IsArr w A s) (hd : d < s.n) (hf : s.failed d = true) :
    Calls Tryd.prog 21 #[Ptr A.p, .int .i64 (d : Int)] w (Moved A ((s.setFailed d false).setBuilt d 0) .nilIface w) := by
  have := Replace_any A s w (d : Int) h
  rw [St.replace, if_neg (by omega), Int.toNat_natCast, if_neg (by rw [hf]; decide)] at this
  exact this
theorem mid_start {s : St} {n rows d : Nat} {D : Nat → List Blk} (hF : Fresh s n rows 2) (hD : Holds s D) : Mid (((s.setFailed d true).setFailed d false).setBuilt d 0) n rows d 0 D where
  n := hF.n
  rows := hF.rows
  size := hF.size
  failed := fun e => by
    simp only [St.setBuilt, St.setFailed]
    split
    · rfl
    · exact hF.failed e
  built := fun e => by
    simp only [St.setBuilt, St.setFailed]
    split
    · rfl
    · exact hF.built e
  holds := replace_holds (fail_holds hD d) d (by simp [St.setFailed])
  few := replace_few (fail_few d fun row hr => by
    rw [lostN_zero fun e _ => hF.lost e row (by rw [← hF.rows]; exact hr)]
    omega) d (by simp [St.setFailed])
theorem mid_step {t : St} {n rows d r : Nat} {D : Nat → List Blk} (ok : t.Ok) (h : Mid t n rows d r D) (hd : d < n) (hr : r < rows) :
    ∃ t', t.rebuild d = (t', rows - (r + 1), 0) ∧ Mid t' n rows d (r + 1) D ∧ ∀ e, e < n → t'.lost e r = false := by
  have hb : t.built d = r := by rw [h.built d, if_pos rfl]
  obtain ⟨t', e1, e2, e3, e4, e5, e6, e7, e8, e9⟩ := rebuild_holds ok h.holds h.few d (by rw [h.n]; exact hd) (h.failed d) (by rw [hb, h.rows]; exact hr)
  refine ⟨t', by rw [e1, hb, h.rows], ⟨e4.trans h.n, e5.trans h.rows, e6.trans h.size, fun e => by rw [e7]; exact h.failed e, fun e => ?_, e2, e3⟩, fun e he => ?_⟩
  · rw [e8 e, hb, h.built e]
    split <;> rfl
  · rw [St.lost, e7, h.failed e, Bool.false_or, e8 e, hb, h.built e]
    split
    · exact decide_eq_false (by omega)
    · exact decide_eq_false (by omega)

set_option maxHeartbeats 4000000 in
set_option maxRecDepth 100000 in
theorem rebuilds_good (n rows d ln lc : Nat) (la : Option Addr) (l : List Blk) (w : World) (hg : Laid w) (hl : TextsIn w la ln lc l) (hn3 : 3 ≤ n) (hn10 : n ≤ 10) (hr1 : 1 ≤ rows) (hr20 : rows ≤ 20) (hd : (d : Int) < (n : Int)) :
    Calls Tryd.prog 5 #[.int .i64 (n : Int), .int .i64 (rows : Int), .int .i64 (d : Int), .slice la ln lc] w fun e w' => e = .returned (.bool true) ∧ Ext w w' := by
  have HN := Lib.hid (New_ok n rows 2 w hn3 hn10 hr1 hr20 (by omega) (by omega))
  have d1 : decide ((d : Int) < 0) = false := by simp
  have d2 : decide ((n : Int) ≤ (d : Int)) = false := by simp; omega
  have d3 : decide (n ≤ d) = false := decide_eq_false (by omega)
  obtain ⟨ii, hi0, hz0, hz1, hz2⟩ := info_parts Tryd.infoTexts
  have Hi := Lib.hid hi0
  have Hz0 := Lib.hid hz0
  have Hz1 := Lib.hid hz1
  have Hz2 := Lib.hid hz2
  clear hi0 hz0 hz1 hz2
  have hlb := hl.sl.bound
  have hpb : rows * (n - 2) ≤ 20 * 8 := Nat.mul_le_mul hr20 (by omega)
  have hprod : ((rows : Int) * ((n : Int) - 2)) = ((rows * (n - 2) : Nat) : Int) := by
    rw [Int.natCast_mul, show ((n - 2 : Nat) : Int) = (n : Int) - 2 by omega]
  go_enter Tryd.func5, Tryd.ntmps5
  go_wp2_with fail
  refine HN.out.mono ?_
  rintro e w1 ⟨A, rfl, hlo, hA, X1⟩
  have HF0 : Filled A w w1 n rows := ⟨_, _, hA, fresh_new n rows 2, new_holds n rows 2 hn3, X1⟩
  have hAhi := hA.hiw
  have hX1 := X1.size
  clear hA
  go_upto_block 0 with (fail)
  go_cut [8, 11] from 58 to 87 (fun _ _ wc => Filled A w wc n rows)
  case first =>
    go_wp2_with fail
    go_loopw [11] (fun ix wr => ∃ i : Nat, i ≤ ln ∧ ix = .int .i64 i ∧ Filled A w wr n rows) (fun ix _ => ln - (intOf ix).toNat)
    case atStart => exact ⟨0, by omega, rfl, HF0⟩
    case round =>
      obtain ⟨i, hi, rfl, s, D, hA, hF, hD, X⟩ := hrel
      by_cases hlt : (i : Int) < (ln : Int)
      · by_cases hlt2 : (i : Int) < ((rows * (n - 2) : Nat) : Int)
        · obtain ⟨g, off, x, rfl, hx, hc⟩ := (hl.sl.ext X).get (i := i) (by omega)
          by_cases h2 : x.length = 2
          · have hW : ∃ s' D', Calls Tryd.prog 19 #[Ptr A.p, .int .i64 (i : Int), Str x] wr (Moved A s' .nilIface wr) ∧ Fresh s' n rows 2 ∧ Holds s' D' := by
              obtain ⟨C, e1, e2, e3⟩ := write_holds hA.ok hD hF.few i (by rw [hF.n, hF.rows]; omega) x (by rw [hF.size]; exact h2)
              have e4 := Write_any A s wr (i : Int) x hA
              rw [e1] at e4
              exact ⟨_, _, e4, hF.cell C, e3⟩
            obtain ⟨s', D', hcall, hF', hD'⟩ := hW
            have HW := Lib.hid hcall
            have q2 : ((x.length : Int) == 2) = true := by simp [h2]
            clear hcall hx h2 hA hD hF
            generalize hq : rows * (n - 2) = q at *
            go_wp2_with fail
            refine HW.out.mono ?_
            rintro e w2 ⟨rfl, hA2, K2⟩
            have HX : Hid (Filled A w w2 n rows) := Lib.hid ⟨s', D', hA2, hF', hD', Below.trans X (K2.below (by omega) X.size)⟩
            clear hA2 K2 hF' hD'
            go_wp2_with fail
            go_roundw
            case rel => exact ⟨i + 1, by omega, by go_num, HX.out⟩
            case measure => simp [intOf]; omega
          · have q2 : ((x.length : Int) == 2) = false := by rw [beq_eq_false_iff_ne]; omega
            have HX : Hid (Filled A w wr n rows) := Lib.hid ⟨s, D, hA, hF, hD, X⟩
            clear hx h2 hA hD hF
            generalize hq : rows * (n - 2) = q at *
            go_wp2_with fail
            go_roundw
            case rel => exact ⟨i + 1, by omega, by go_num, HX.out⟩
            case measure => simp [intOf]; omega
        · have HX : Hid (Filled A w wr n rows) := Lib.hid ⟨s, D, hA, hF, hD, X⟩
          clear hA hD hF
          generalize hq : rows * (n - 2) = q at *
          go_wp2_with fail
          go_meet
          case rel => exact HX.out
      · have HX : Hid (Filled A w wr n rows) := Lib.hid ⟨s, D, hA, hF, hD, X⟩
        clear hA hD hF
        go_wp2_with fail
        go_meet
        case rel => exact HX.out
  case rest =>
    obtain ⟨s, D, hA, hF, hD, X⟩ := hcut
    have hsn := hF.n
    have hsr := hF.rows
    have hAhi2 : A.hi ≤ wc.heap.size := hA.hiw
    go_wp2_with fail
    go_loopw [12, 13] (fun v ix wr => ∃ (r : Nat) (P C : Nat → Nat), r ≤ rows ∧ ix = .int .i64 r ∧ Ext wc wr ∧ Was wr A s P C r ∧ wr.ownsRow wc.heap.size 40 1 v r ((List.range r).map (WasV n P C))) (fun _ ix _ => rows - (intOf ix).toNat)
    case atStart => exact ⟨0, fun _ => 0, fun _ => 0, by omega, rfl, Ext.refl _, ⟨fun _ h => absurd h (Nat.not_lt_zero _), fun _ h => absurd h (Nat.not_lt_zero _), fun _ h => absurd h (Nat.not_lt_zero _)⟩, World.ownsRow_nil _ _ _ _⟩
    case round =>
      obtain ⟨r, P, C, hr, rfl, XX, hw, hown⟩ := hrel
      by_cases hlt : (r : Int) < (rows : Int)
      · have hr20' : (r : Int) < 20 := by omega
        have HR := Lib.hid (Raw_ok A s wr r (hA.ext XX) (by omega))
        have HO := Lib.hid hown
        have HWs := Lib.hid hw
        have hsz := XX.size
        clear hown hw
        go_wp2_with fail
        refine HR.out.mono ?_
        rintro e w2 ⟨pa, pc, g, lc2, rfl, -, -, -, -, -, X2, gp, rfl, -, q1, q2, q3, q4⟩
        rw [hsn]
        have hs2 := X2.size
        have HO2 : Hid (w2.ownsRow wc.heap.size 40 1 u12 r ((List.range r).map (WasV n P C))) := Lib.hid (World.ownsRow.kept (h := HO.out) (hg := grownBy_ext X2 none) (hne := Classical.em _))
        go_wp2_with (at_builtin; refine wpList_append_own _ rfl (.tmp 106) (.tmp 108) 42 rfl wc.heap.size 40 ii _ 1 24 Tryd.underlying42 Hi.out Hz0.out Hz1.out Hz2.out rfl (by decide) _ _ _ rfl (HO2.out.alloc _) ⟨w2.heap.size, 0, none⟩ 1 1 [.slice (some ⟨gp, 0, none⟩) n pc] rfl rfl ?c1 ?c2 ?c3 ?c4 ?c5 ?_)
        case c1 => exact cell_one_new _ _ _
        case c2 => intro u hu; simp at hu; subst hu; rfl
        case c3 => unfold maxLen; omega
        case c4 => omega
        case c5 => simp; omega
        intro v' w3 hown2 hgrow _
        have hbs := hgrow.size
        simp only [World.size_alloc] at hbs
        have hX3 : Ext wc w3 := Below.grown (((XX.trans X2).alloc (by omega) _)) hgrow (by simp; omega) (fun q hq => (HO2.out.lt q hq).1)
        have hX13 : ∀ {gg e : Nat} {ys : Array Value}, Row w2 gg e ys → e ≠ 40 → Row w3 gg e ys := fun {gg e ys} q hne => row_past (HO2.out.alloc _) hgrow (q.alloc _) hne
        have HWs3 : Hid (Was w3 A s (upd P r gp) (upd C r pc) (r + 1)) := by
          refine Lib.hid ⟨fun j hj => ?_, fun j hj => ?_, fun j hj => ?_⟩
          · by_cases e : j = r
            · subst e
              rw [upd_eq]
              obtain ⟨cc, q⟩ := q1
              exact ⟨cc, hX13 q (by decide)⟩
            · rw [upd_lt (by omega)]
              obtain ⟨cc, q⟩ := (HWs.out.at_ j (by omega)).ext X2
              exact ⟨cc, hX13 q (by decide)⟩
          · by_cases e : j = r
            · subst e
              rw [upd_eq]
              exact ⟨q2, q3⟩
            · rw [upd_lt (by omega)]
              exact HWs.out.cap j (by omega)
          · by_cases e : j = r
            · subst e
              rw [upd_eq]
              omega
            · rw [upd_lt (by omega)]
              exact HWs.out.out j (by omega)
        have HO3 : Hid (w3.ownsRow wc.heap.size 40 1 v' (r + 1) ((List.range (r + 1)).map (WasV n (upd P r gp) (upd C r pc)))) := by
          refine Lib.hid ?_
          rw [List.range_succ, List.map_append]
          have e1 : (List.range r).map (WasV n (upd P r gp) (upd C r pc)) = (List.range r).map (WasV n P C) := List.map_congr_left fun j hj => by
            have : j < r := by simpa using hj
            simp only [WasV, upd_lt this]
          rw [e1]
          simpa [WasV, upd_eq] using hown2
        have HX3 := Lib.hid hX3
        clear hX3 hX13 hown2 hgrow q1
        go_wp2_with fail
        go_roundw
        case rel => exact ⟨r + 1, _, _, by omega, by go_num, HX3.out, HWs3.out, HO3.out⟩
        case measure => simp [intOf]; omega
      · have hrr : r = rows := by omega
        rw [hrr] at hown hw
        obtain ⟨wa, wcap, rfl, hws, hwb⟩ := sl_of_owns_at (f := WasV n P C) (xs := List.range rows) hown
        have HWs := Lib.hid hw
        have HM := Lib.hid (mid_start (d := d) hF hD)
        have HF1 := Lib.hid (Fail_ok A s wr d (hA.ext XX) (by omega) (hF.failed d))
        have HRp := Lib.hid (fun wx (h : IsArr wx A (s.setFailed d true)) => Replace_ok A (s.setFailed d true) wx d h (show d < s.n by omega) (by simp [St.setFailed]))
        have HSP := Lib.hid (fun j (hj : j < rows) => whole_parts (hF.whole j hj) (hD j (by omega)))
        have hXr := X.trans XX
        have hmx := hws.max
        clear hown hw hrr
        go_wp2_with fail
        refine HF1.out.mono ?_
        rintro e w4 ⟨rfl, hA4, K4⟩
        go_wp2_with fail
        refine (HRp.out w4 hA4).mono ?_
        rintro e w5 ⟨rfl, hA5, K5⟩
        have K45 := K4.trans K5
        have hX5 : Ext w w5 := Below.trans hXr (K45.below (by omega) hXr.size)
        have hws5 := hws.keep K45 (fun x hx => .inr (Nat.le_trans hAhi2 (hwb x hx)))
        have hWas5 := HWs.out.keep K45
        clear hA4 K4 K5 hws HWs
        go_wp2_with fail
        go_loopw [17] (fun ix wr2 => ∃ (r2 : Nat) (t : St), r2 ≤ rows ∧ ix = .int .i64 r2 ∧ IsArr wr2 A t ∧ Hid (Mid t n rows d r2 D) ∧ Keep A.lo A.hi w5 wr2 ∧ Ext w wr2) (fun ix _ => rows - (intOf ix).toNat)
        case atStart => exact ⟨0, _, by omega, rfl, hA5, HM, Keep.refl _ _ _, hX5⟩
        case round =>
          obtain ⟨r2, t, hr2, rfl, hB, HMt, K6, X6⟩ := hrel
          by_cases hlt2 : (r2 : Int) < (rows : Int)
          · have hr20' : (r2 : Int) < 20 := by omega
            obtain ⟨t', e1, hm', hl'⟩ := mid_step hB.ok HMt.out (by omega) (show r2 < rows by omega)
            have hRb := Rebuild_any A t wr (d : Int) hB
            rw [e1] at hRb
            simp only [errV_zero] at hRb
            have HRb := Lib.hid hRb
            have HM' := Lib.hid hm'
            have HL' := Lib.hid hl'
            clear hRb e1 hm' hl'
            go_wp2_with fail
            refine HRb.out.mono ?_
            rintro e w6 ⟨rfl, hC, K7⟩
            have HRw := Lib.hid (Raw_ok A t' w6 r2 hC (by rw [HM'.out.rows]; omega))
            have htn := HM'.out.n
            have HPP := Lib.hid (whole_parts (s := t') (row := r2) (fun e he => HL'.out e (by rw [← htn]; exact he)) (HM'.out.holds r2 (by rw [HM'.out.rows]; omega)))
            go_wp2_with fail
            refine HRw.out.mono ?_
            rintro e w7 ⟨pa, pc, g, lc2, rfl, p1, -, -, -, -, X7, -⟩
            rw [htn] at p1 ⊢
            have K67 := (K6.trans K7).trans (Keep.of_ext X7)
            have hws7 := hws5.keep K67 (fun x hx => .inr (Nat.le_trans hAhi2 (hwb x hx)))
            obtain ⟨gw, ow, z, hwe, hz, cw⟩ := hws7.get (i := r2) (by omega)
            subst hwe
            have hzr : z = r2 := by simpa [List.getElem?_range (show r2 < rows by omega)] using hz.symm
            subst hzr
            have hW7 := hWas5.keep K67
            have hcap := hW7.cap z (by omega)
            rw [hsn] at hcap
            have HT := Lib.hid (texts_any pa (some ⟨P z, 0, none⟩) n n pc (C z) (t'.parts z) (s.parts z) w7 p1 ((hW7.at_ z (by omega)).sl ((parts_length s z).trans hsn) hcap.1 hcap.2))
            have hdec : decide (t'.parts z = s.parts z) = true := decide_eq_true (by rw [HPP.out, HSP.out z (by omega)])
            rw [hdec] at HT
            have hX7 : Ext w w7 := Ext.trans (Below.trans X6 (K7.below (by omega) X6.size)) X7
            have hC7 := Lib.hid (hC.ext X7)
            have hleft : (((rows - (z + 1) : Nat) : Int) != (rows : Int) - (z : Int) - 1) = false := by
              rw [show ((rows - (z + 1) : Nat) : Int) = (rows : Int) - (z : Int) - 1 by omega]
              simp
            clear hdec hW7 hB hC HPP p1 hz
            go_wp2_with fail
            refine HT.out.mono ?_
            rintro e w8 ⟨rfl, X8⟩
            go_wp2_with fail
            go_roundw
            case rel => exact ⟨z + 1, t', by omega, by go_num, hC7.out.ext X8, HM', K67.trans (Keep.of_ext X8), hX7.trans X8⟩
            case measure => simp [intOf]; omega
          · have hr2r : r2 = rows := by omega
            have hE : t.rebuild (d : Int) = (t, 0, 6) := by
              rw [St.rebuild, if_neg (by have := HMt.out.n; omega), Int.toNat_natCast, if_pos (.inr (by rw [HMt.out.built d, if_pos rfl, HMt.out.rows, hr2r]))]
            have hRb := Rebuild_any A t wr (d : Int) hB
            rw [hE] at hRb
            have HRb := Lib.hid hRb
            clear hRb hE hB hr2r
            simp only [errV_pos 6 (show 0 < 6 by omega)] at HRb
            go_wp2_with fail
            refine HRb.out.mono ?_
            rintro e w6 ⟨rfl, hC, K7⟩
            have hX7 : Ext w w6 := Below.trans X6 (K7.below (by omega) X6.size)
            have HE := error_any 6 6 w6 (hg.ext hX7)
            rw [errV_pos 6 (by omega)] at HE
            have HE2 := Lib.hid HE
            clear HE hC
            go_wp2_with fail
            refine HE2.out.mono ?_
            rintro e w7 ⟨rfl, X8⟩
            go_wp2_with fail
            go_ret
            exact ⟨rfl, hX7.trans X8⟩

end Go.Proofs.YtmgppnceddnlmaaDoor
