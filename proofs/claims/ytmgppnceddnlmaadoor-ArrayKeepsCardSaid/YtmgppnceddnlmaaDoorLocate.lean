/- Contract of pq.Locate: what XSpec's locateE says. -/
import Derived.Test.YtmgppnceddnlmaaDoorHealE
namespace Go.Proofs.YtmgppnceddnlmaaDoor
open Go.RowKit

/-- What Locate hands back. -/
def NumRet (w : World) (r : Int × Nat) (e : Ending) (w' : World) : Prop := e = .returned (.tuple #[.int .i64 r.1, errV r.2]) ∧ Ext w w'
theorem NumRet.err {w w' : World} {r : Int × Nat} {n : Nat} (h : r = (0, n)) (hn : 0 < n) (hx : Ext w w') : NumRet w r (.returned (.tuple #[.int .i64 0, .iface 104 (.int .i64 (n : Int))])) w' :=
  ⟨by rw [h, errV_pos n hn], hx⟩

theorem locateE_1 {parts : List Blk} (h : parts.length < 3 ∨ 12 < parts.length) : locateE parts = (0, 1) := if_pos h
theorem locateE_b {parts : List Blk} (h : ¬ (parts.length < 3 ∨ 12 < parts.length)) (h2 : blocksE parts ≠ 0) : locateE parts = (0, blocksE parts) := by
  unfold locateE; rw [if_neg h, if_pos h2]
theorem locateE_0 {parts : List Blk} (h : ¬ (parts.length < 3 ∨ 12 < parts.length)) (h2 : ¬ blocksE parts ≠ 0) : locateE parts = locateS parts := by
  unfold locateE; rw [if_neg h, if_neg h2]

theorem sameBut_snoc (i : Nat) : ∀ (s : Nat) (l m : List Blk) (j : Nat) (a b : Blk), l[j]? = some a → m[j]? = some b →
    sameBut i s (l.take (j + 1)) (m.take (j + 1)) = (sameBut i s (l.take j) (m.take j) && (s + j == i || a == b))
  | _, [], _, _, _, _, h, _ => by simp at h
  | _, _ :: _, [], _, _, _, _, h => by simp at h
  | s, x :: l, y :: m, 0, a, b, h, h' => by
    simp at h h'
    subst h h'
    simp [sameBut]
  | s, x :: l, y :: m, j + 1, a, b, h, h' => by
    simp only [List.take_succ_cons, sameBut]
    rw [sameBut_snoc i (s + 1) l m j a b (by simpa using h) (by simpa using h'), Bool.and_assoc]
    have : s + 1 + j = s + (j + 1) := by omega
    rw [this]

theorem lostAt_length (n i : Nat) : (lostAt n i).length = n := by simp [lostAt]
theorem lostAt_getD (n i j : Nat) (hi : i < n) : (lostAt n i).getD j false = decide (j = i) := by
  rw [lostAt, getD_set _ _ _ _ _ (by simpa using hi)]
  by_cases h : j = i
  · simp [h]
  · simp [h, List.getD_eq_getElem?_getD, List.getElem?_replicate]
    split <;> rfl
theorem lostAt_gone (n i : Nat) (hi : i < n) : (goneOf n (lostAt n i)).length ≤ 2 := by
  have : goneOf n (lostAt n i) = (List.range n).filter (fun j => decide (j = i)) := by
    apply List.filter_congr
    intro j _
    exact lostAt_getD n i j hi
  rw [this]
  have hnd : ((List.range n).filter fun j => decide (j = i)).Nodup := List.Nodup.sublist List.filter_sublist List.nodup_range
  match hl : (List.range n).filter fun j => decide (j = i) with
  | [] => simp
  | [_] => simp
  | a :: b :: r =>
    exfalso
    rw [hl] at hnd
    have ha : a ∈ (List.range n).filter fun j => decide (j = i) := by rw [hl]; simp
    have hb : b ∈ (List.range n).filter fun j => decide (j = i) := by rw [hl]; simp
    simp at ha hb hnd
    exact hnd.1.1 (by omega)

theorem Tryd.infoBool : (Tryd.prog.info? 4).map (fun i => (i.zero, i.size, i.bytes)) = some (some (.bool false), 1, 1) := by kernel_rfl
def rowL (l : List Bool) : Array Value := (l.map Boo).toArray
theorem made_bools (n : Nat) : madeCells (Value.bool false).cells (n * 1) = rowL (List.replicate n false) := by
  apply Array.ext
  · simp [madeCells, rowL]
  · intro i h1 h2
    have : i < n := by simpa [madeCells] using h1
    simp [madeCells, rowL, Value.cells, Nat.mod_one]
theorem run_make_bools (w : World) (n : Nat) (h : n ≤ 1099511627776) :
    (Instr.makeSlice 43 (.int .i64 (n : Int)) (.int .i64 (n : Int))).run Tryd.prog w = .ok (.slice (some ⟨w.heap.size, 0, none⟩) n n) (w.alloc (.cells (rowL (List.replicate n false)) 4)) := by
  obtain ⟨i, hi, hz0, hz1, hz2⟩ := info_parts Tryd.infoBool
  have hr := run_make (P := Tryd.prog) w 43 4 i _ Tryd.underlying43 hi hz0 .i64 .i64 n n (by omega) (by omega) (by rw [hz2]; omega) (by omega)
  rw [hz1] at hr
  simp only [Int.toNat_natCast] at hr
  rw [hr, made_bools]

set_option maxHeartbeats 2000000 in
set_option maxRecDepth 100000 in
theorem Locate_any (pa : Option Addr) (pn pc : Nat) (parts : List Blk) (w : World) (hp : Sl w Str pa pn pc parts) :
    Calls Tryd.prog 67 #[.slice pa pn pc] w (NumRet w (locateE parts)) := by
  have hpl := hp.len
  have hb := hp.bound
  by_cases hm : (2 : Int) < (pn : Int) ∧ (pn : Int) ≤ 12
  · obtain ⟨hm1, hm2⟩ := hm
    have hr1 : ¬ (parts.length < 3 ∨ 12 < parts.length) := by omega
    have HR1 := Lib.hid hr1
    have HPL := Lib.hid hpl
    have HB := Lib.hid (blocks_any _ _ _ parts _ hp)
    clear hr1 hpl
    by_cases hbz : blocksE parts = 0
    · obtain ⟨k, rfl⟩ : ∃ k, pn = k + 2 := ⟨pn - 2, by omega⟩
      have HE := Lib.hid hbz
      rw [hbz, errV_zero] at HB
      obtain ⟨hu, h16⟩ := blocksE_zero hbz
      have HRS := Lib.hid (locateE_0 HR1.out (by rw [hbz]; decide))
      clear hbz
      obtain ⟨gp, offp, b1, rfl, hb1, c1⟩ := hp.get (i := k) (by omega)
      obtain ⟨gp', offp', b2, e2, hb2, c2⟩ := hp.get (i := k + 1) (by omega)
      simp only [Option.some.injEq, Addr.mk.injEq, and_true] at e2
      obtain ⟨rfl, rfl⟩ := e2
      have hsub := hp.sub 0 k (by omega) (by omega)
      have hcap := hp.le
      have hk2 : ¬ pc = 0 := by omega
      rw [if_neg hk2] at hsub
      simp only [Option.map_some, Addr.add, if_true, Nat.sub_zero, List.drop_zero] at hsub
      have hds : ∀ b, b ∈ parts.take k → b.length = bsize (parts.take k) := by
        have h1 : Uni (bsize parts) (parts.take k) := fun b hb => hu b (List.mem_of_mem_take hb)
        intro b hb
        rw [h1.size (fun e => by rw [e] at hb; cases hb)]
        exact h1 b hb
      have hdz : bsize (parts.take k) ≤ 1048576 := by
        cases hpt : parts.take k with
        | nil => simp [bsize]
        | cons b l =>
          have : b ∈ parts := List.mem_of_mem_take (by rw [hpt]; simp)
          have := hu b this
          simp only [bsize, List.headD_cons]
          omega
      have HO := Lib.hid (of_any _ _ _ (parts.take k) _ hsub hds hdz (by omega))
      have Hb1 := Lib.hid hb1
      have Hb2 := Lib.hid hb2
      have HU := Lib.hid hu
      have hkc : (k : Int) ≤ (pc : Int) := by omega
      clear hb1 hb2 hds hdz hu hk2
      have HSP : Hid (locateS parts = if pOf (parts.take k) = b1 ∧ qOf (parts.take k) = b2 then (-1, 0) else match locateFrom parts parts.length 0 with | some i => ((i : Int), 0) | none => (0, 8)) := by
        have e : parts.length - 2 = k := by have := HPL.out; omega
        have e1 : parts.getD k [] = b1 := by rw [List.getD_eq_getElem?_getD, Hb1.out]; rfl
        have e2 : parts.getD (k + 1) [] = b2 := by rw [List.getD_eq_getElem?_getD, Hb2.out]; rfl
        exact Lib.hid (by simp only [locateS, e, e1, e2]; rfl)
      generalize pOf (parts.take k) = pp at *
      generalize qOf (parts.take k) = qq at *
      obtain ⟨mB, hmB⟩ : ∃ mB, mB = (pp == b1 && qq == b2) := ⟨_, rfl⟩
      have HMB := Lib.hid hmB
      clear hmB
      go_enter Tryd.func67, Tryd.ntmps67
      go_wp2_with fail
      refine (many_yes _ _ hm1 hm2).mono ?_
      rintro e w' ⟨rfl, rfl⟩
      go_wp2_with fail
      refine HB.out.mono ?_
      rintro e w' ⟨rfl, rfl⟩
      go_wp2_with fail
      refine HO.out.mono ?_
      rintro e w1 ⟨rfl, X1⟩
      have c1' := X1.cell c1
      have c2' := X1.cell c2
      go_upto_region 8 with (fail)
      go_cut [47] (fun s wc => s = .bool mB ∧ w1 = wc)
      case first =>
        cases h1 : (pp == b1) with
        | true =>
          cases h2 : (qq == b2) with
          | true =>
            have HH : Hid (mB = true) := Lib.hid (by rw [HMB.out, h1, h2]; rfl)
            go_wp2_with fail
            go_meet
            case rel => exact ⟨by rw [HH.out], rfl⟩
          | false =>
            have HH : Hid (mB = false) := Lib.hid (by rw [HMB.out, h1, h2]; rfl)
            go_wp2_with fail
            go_meet
            case rel => exact ⟨by rw [HH.out], rfl⟩
        | false =>
          have HH : Hid (mB = false) := Lib.hid (by rw [HMB.out, h1]; rfl)
          go_wp2_with fail
          go_meet
          case rel => exact ⟨by rw [HH.out], rfl⟩
      case rest =>
        obtain ⟨rfl, rfl⟩ := hcut
        cases mB with
        | true =>
          go_wp2_with fail
          go_ret2
          have h2 := HMB.out
          simp at h2
          refine ⟨?_, X1⟩
          rw [HRS.out, HSP.out, if_pos ⟨h2.1.symm ▸ rfl, h2.2.symm ▸ rfl⟩]
          rfl
        | false =>
          have hno : Hid (locateS parts = match locateFrom parts parts.length 0 with | some i => ((i : Int), 0) | none => (0, 8)) := by
            have h2 := HMB.out
            have h3 : ¬ (pp = b1 ∧ qq = b2) := by
              rintro ⟨rfl, rfl⟩
              simp at h2
            refine Lib.hid ?_
            rw [HSP.out, if_neg h3]
          have hmk : ∀ wx : World, (Instr.makeSlice 43 (.int .i64 ((k : Int) + 2)) (.int .i64 ((k : Int) + 2))).run Tryd.prog wx = .ok (.slice (some ⟨wx.heap.size, 0, none⟩) (k + 2) (k + 2)) (wx.alloc (.cells (rowL (List.replicate (k + 2) false)) 4)) :=
            fun wx => run_make_bools wx (k + 2) (by omega)
          go_wp2_with fail
          go_loopw [50] (fun i wr => ∃ j : Nat, j ≤ k + 2 ∧ i = .int .i64 j ∧ Ext w wr ∧ Hid (locateFrom parts (k + 2 - j) j = locateFrom parts parts.length 0)) (fun i _ => k + 2 - (intOf i).toNat)
          case atStart => exact ⟨0, by omega, rfl, X1, Lib.hid (by rw [HPL.out]; rfl)⟩
          case round =>
            obtain ⟨j, hj, rfl, X, HL⟩ := hrel
            by_cases hlt : (j : Int) < (k : Int) + 2
            · have hjk : j < k + 2 := by omega
              have hcell : (rowL (List.replicate (k + 2) false))[j]? = some (.bool false) := by simp [rowL, hjk]
              have hset : (rowL (List.replicate (k + 2) false)).setIfInBounds j (.bool true) = rowL (lostAt (k + 2) j) := by
                apply Array.ext'
                simp [rowL, lostAt, List.map_set]
              have hXA : Ext wr (wr.alloc (.cells (rowL (lostAt (k + 2) j)) 4)) := (Below.refl _ _).alloc (Nat.le_refl _) _
              have hla : Sl (wr.alloc (.cells (rowL (lostAt (k + 2) j)) 4)) Boo (some ⟨wr.heap.size, 0, none⟩) (k + 2) (k + 2) (lostAt (k + 2) j) :=
                sl_row (e := 4) _ (Row.new _ _ _) (lostAt_length _ _) (by unfold maxLen; omega)
              have HH := Lib.hid (heal_any _ _ k pc (k + 2) (bsize parts) parts (lostAt (k + 2) j) _ ((hp.ext X).ext hXA) hla (by omega) (by omega) (by omega)
                (fun i hi _ => HU.out.getD (by rw [HPL.out]; exact hi)) (lostAt_gone _ _ hjk))
              have HXA := Lib.hid (X.trans hXA)
              have HST := Lib.hid hset
              have hstep : Hid (locateFrom parts (k + 2 - j) j = if sameBut j 0 (healS parts (lostAt parts.length j)) parts then some j else locateFrom parts (k + 2 - (j + 1)) (j + 1)) := by
                have : k + 2 - j = (k + 2 - (j + 1)) + 1 := by omega
                rw [this]
                exact Lib.hid rfl
              have hhl : Hid ((healS parts (lostAt (k + 2) j)).length = k + 2) := Lib.hid (by rw [healS_length parts _ (by have := HPL.out; omega)]; exact HPL.out)
              rw [HPL.out] at hstep
              generalize healS parts (lostAt (k + 2) j) = hh at *
              clear hset hla hXA
              go_wp2_with fail
              rw [HST.out]
              refine HH.out.mono ?_
              rintro e w2 ⟨g2, c2, rfl, P2, hc1, hc2, hg2, X2⟩
              have X2' := HXA.out.trans X2
              go_wp2_with fail
              have hhn : ∀ t, t < k + 2 → ∃ x, hh[t]? = some x := fun t ht => ⟨_, List.getElem?_eq_getElem (by have := hhl.out; omega)⟩
              have HHN := Lib.hid hhn
              clear hhn
              go_loop [10, 63] (fun s m => ∃ (t : Nat) (sv : Bool), t ≤ k + 2 ∧ m = .int .i64 t ∧ s = .bool sv ∧ Hid (sv = sameBut j 0 (hh.take t) (parts.take t))) (fun _ m => k + 2 - (intOf m).toNat)
              case atStart => exact ⟨0, true, by omega, rfl, rfl, Lib.hid (by simp [sameBut])⟩
              case round =>
                obtain ⟨t, sv, ht, rfl, rfl, HS⟩ := hrel
                by_cases htl : (t : Int) < (k : Int) + 2
                · obtain ⟨x, hx⟩ := HHN.out t (by omega)
                  obtain ⟨gy, oy, y, e3, hy, cy⟩ := (hp.ext X2').get (i := t) (by omega)
                  simp only [Option.some.injEq, Addr.mk.injEq, and_true] at e3
                  obtain ⟨rfl, rfl⟩ := e3
                  have cx := P2.cell (i := t) (v := Str x) (by rw [List.getElem?_map, hx]; rfl)
                  have HN := Lib.hid (sameBut_snoc j 0 hh parts t x y hx hy)
                  clear hx hy
                  cases sv with
                  | false =>
                    go_wp2_with fail
                    go_round
                    case rel => exact ⟨t + 1, false, by omega, by go_num, rfl, Lib.hid (by rw [HN.out, ← HS.out]; rfl)⟩
                    case measure => simp [intOf]; omega
                  | true =>
                    by_cases htj : t = j
                    · have hb1 : ((t : Int) == (j : Int)) = true := by rw [beq_iff_eq]; omega
                      have HT := Lib.hid htj
                      clear htj
                      go_wp2_with fail
                      go_round
                      case rel => exact ⟨t + 1, true, by omega, by go_num, rfl, Lib.hid (by rw [HN.out, ← HS.out, HT.out]; simp)⟩
                      case measure => simp [intOf]; omega
                    · have hb1 : ((t : Int) == (j : Int)) = false := by rw [beq_eq_false_iff_ne]; omega
                      have HT := Lib.hid htj
                      clear htj
                      cases hxy : (x == y) with
                      | true =>
                        have HX := Lib.hid hxy
                        go_wp2_with fail
                        go_round
                        case rel => exact ⟨t + 1, true, by omega, by go_num, rfl, Lib.hid (by rw [HN.out, ← HS.out, HX.out]; simp)⟩
                        case measure => simp [intOf]; omega
                      | false =>
                        have HX := Lib.hid hxy
                        go_wp2_with fail
                        go_round
                        case rel => exact ⟨t + 1, false, by omega, by go_num, rfl, Lib.hid (by rw [HN.out, ← HS.out, HX.out]; simp; exact HT.out)⟩
                        case measure => simp [intOf]; omega
                · have hsv : sv = sameBut j 0 hh parts := by
                    have h1 := HS.out
                    have e1 : hh.take t = hh := List.take_of_length_le (by have := hhl.out; omega)
                    have e2 : parts.take t = parts := List.take_of_length_le (by have := HPL.out; omega)
                    rw [e1, e2] at h1
                    exact h1
                  have HSV := Lib.hid hsv
                  clear hsv
                  cases sv with
                  | true =>
                    go_wp2_with fail
                    go_ret2
                    refine ⟨?_, X2'⟩
                    have h1 := HL.out
                    rw [hstep.out, ← HSV.out, if_pos rfl] at h1
                    rw [HRS.out, hno.out, ← h1]
                    rfl
                  | false =>
                    go_wp2_with fail
                    go_roundw
                    case rel =>
                      refine ⟨j + 1, by omega, by go_num, X2', ?_⟩
                      have h1 := HL.out
                      rw [hstep.out, ← HSV.out, if_neg (by decide)] at h1
                      exact Lib.hid h1
                    case measure => simp [intOf]; omega
            · go_wp2_with fail
              go_ret2
              refine ⟨?_, X⟩
              have h0 : k + 2 - j = 0 := by omega
              have h1 := HL.out
              rw [h0] at h1
              rw [HRS.out, hno.out, ← h1]
              rfl
    · obtain ⟨en, hen⟩ : ∃ en, en = blocksE parts := ⟨_, rfl⟩
      have HR := Lib.hid (locateE_b HR1.out hbz)
      rw [← hen, errV_pos en (by omega)] at HB
      rw [← hen] at HR
      have hep : 0 < en := by omega
      clear hbz hen
      go_enter Tryd.func67, Tryd.ntmps67
      go_wp2_with fail
      refine (many_yes pn _ hm1 hm2).mono ?_
      rintro e w' ⟨rfl, rfl⟩
      go_wp2_with fail
      refine HB.out.mono ?_
      rintro e w' ⟨rfl, rfl⟩
      go_wp2_with fail
      go_ret2
      exact NumRet.err HR.out hep (Ext.refl _)
  · have HR := Lib.hid (locateE_1 (parts := parts) (by omega))
    have HM := Lib.hid hm
    clear hm hpl
    go_enter Tryd.func67, Tryd.ntmps67
    go_wp2_with fail
    refine (many_no pn _ HM.out).mono ?_
    rintro e w' ⟨rfl, rfl⟩
    go_wp2_with fail
    go_ret2
    exact NumRet.err (n := 1) HR.out (by decide) (Ext.refl _)

end Go.Proofs.YtmgppnceddnlmaaDoor
