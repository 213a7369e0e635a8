/- Contract of pq.heal: of parts of which two at most are lost, and of which the others are of one length, a new row of the parts healed. -/
import Derived.Test.YtmgppnceddnlmaaHealed
import Derived.Test.YtmgppnceddnlmaaClone
import Derived.Deep.DeepCutAuto
namespace Go.Proofs.Ytmgppnceddnlmaa
open Go.RowKit

abbrev Boo (b : Bool) : Value := .bool b

theorem lastLen_snoc : ∀ (l : List Blk) (x : List Bool) (j : Nat) (b : Blk) (t : Bool) (m : Nat), l[j]? = some b → x[j]? = some t →
    lastLen (l.take (j + 1)) (x.take (j + 1)) m = if t then lastLen (l.take j) (x.take j) m else b.length
  | [], _, _, _, _, _, h, _ => by simp at h
  | _ :: _, [], _, _, _, _, _, h => by simp at h
  | y :: l, z :: x, 0, b, t, m, h, h' => by
    simp at h h'
    subst h h'
    simp [lastLen]
  | y :: l, z :: x, j + 1, b, t, m, h, h' => by
    simp only [List.take_succ_cons, lastLen]
    exact lastLen_snoc l x j b t _ (by simpa using h) (by simpa using h')

/-- The parts, the first j of them cleaned. -/
def cleanTo (parts : List Blk) (lost : List Bool) (n j : Nat) : List Blk := cleaned (parts.take j) (lost.take j) n ++ parts.drop j
theorem cleanTo_zero (parts : List Blk) (lost : List Bool) (n : Nat) : cleanTo parts lost n 0 = parts := by simp [cleanTo, cleaned]
theorem cleanTo_full (parts : List Blk) (lost : List Bool) (n : Nat) (h : lost.length = parts.length) : cleanTo parts lost n parts.length = cleaned parts lost n := by
  have h2 : lost.take parts.length = lost := by rw [← h, List.take_length]
  rw [cleanTo, List.take_length, h2, List.drop_length, List.append_nil]
theorem cleanTo_length (parts : List Blk) (lost : List Bool) (n j : Nat) : (cleanTo parts lost n j).length = parts.length := by
  simp [cleanTo, cleaned_length]; omega
theorem cleaned_snoc : ∀ (l : List Blk) (x : List Bool) (j n : Nat) (b : Blk) (t : Bool), l[j]? = some b → x[j]? = some t →
    cleaned (l.take (j + 1)) (x.take (j + 1)) n = cleaned (l.take j) (x.take j) n ++ [if t then zeros n else b]
  | [], _, _, _, _, _, h, _ => by simp at h
  | _ :: _, [], _, _, _, _, _, h => by simp at h
  | y :: l, z :: x, 0, n, b, t, h, h' => by
    simp at h h'
    subst h h'
    simp [cleaned]
  | y :: l, z :: x, j + 1, n, b, t, h, h' => by
    simp only [List.take_succ_cons, cleaned, List.cons_append]
    rw [cleaned_snoc l x j n b t (by simpa using h) (by simpa using h')]
theorem cleanTo_get (parts : List Blk) (lost : List Bool) (n j : Nat) : (cleanTo parts lost n j)[j]? = parts[j]? := by
  by_cases h : j < parts.length
  · have hl : (cleaned (parts.take j) (lost.take j) n).length = j := by rw [cleaned_length, List.length_take]; omega
    rw [cleanTo, List.getElem?_append_right (by omega), hl, List.getElem?_drop]
    simp
  · rw [List.getElem?_eq_none (by rw [cleanTo_length]; omega), List.getElem?_eq_none (by omega)]
theorem cleanTo_step (parts : List Blk) (lost : List Bool) (n j : Nat) (b : Blk) (t : Bool) (hb : parts[j]? = some b) (ht : lost[j]? = some t) :
    cleanTo parts lost n (j + 1) = if t then (cleanTo parts lost n j).set j (zeros n) else cleanTo parts lost n j := by
  have hj : j < parts.length := (List.getElem?_eq_some_iff.1 hb).1
  have hl : (cleaned (parts.take j) (lost.take j) n).length = j := by rw [cleaned_length, List.length_take]; omega
  have hd : parts.drop j = b :: parts.drop (j + 1) := by
    have := List.drop_eq_getElem_cons hj
    rw [this]
    rw [List.getElem?_eq_getElem hj] at hb
    rw [Option.some.inj hb]
  rw [cleanTo, cleaned_snoc parts lost j n b t hb ht, cleanTo, hd, List.append_assoc]
  cases t with
  | false => rfl
  | true =>
    simp only [if_true]
    rw [List.set_append_right _ _ (by omega), hl]
    simp

/-- Which data are lost among the first j parts. -/
def goneTo (k : Nat) (lost : List Bool) (j : Nat) : List Nat := (List.range j).filter fun i => lost.getD i false && decide (i < k)
theorem goneTo_succ (k : Nat) (lost : List Bool) (j : Nat) : goneTo k lost (j + 1) = goneTo k lost j ++ if lost.getD j false && decide (j < k) then [j] else [] := by
  simp only [goneTo, List.range_succ, List.filter_append, List.filter_cons, List.filter_nil]
theorem goneTo_end (k : Nat) (lost : List Bool) (m : Nat) (h : k ≤ m) : goneTo k lost m = goneOf k lost := by
  obtain ⟨d, rfl⟩ : ∃ d, m = k + d := ⟨m - k, by omega⟩
  clear h
  induction d with
  | zero =>
    apply List.filter_congr
    intro i hi
    have : i < k := by simpa using hi
    simp [this]
  | succ d ih =>
    rw [← Nat.add_assoc, goneTo_succ, ih]
    have : ¬ (k + d < k) := by omega
    simp [this]

theorem Try.infoInt : (Try.prog.info? 3).map (fun i => (i.zero, i.size, i.bytes)) = some (some (.int .i64 0), 1, 8) := by kernel_rfl

/-- What stands behind the call of healed. -/
def HealedAt (g : Nat) (w wc : World) (l : List Blk) : Prop := Pre wc g 9 (l.map Str) ∧ Below w.heap.size w wc

set_option maxHeartbeats 2000000 in
set_option maxRecDepth 100000 in
theorem heal_any (pa la : Option Addr) (k pc lc n : Nat) (parts : List Blk) (lost : List Bool) (w : World) (hp : Sl w Str pa (k + 2) pc parts) (hl : Sl w Boo la (k + 2) lc lost)
    (h1 : 1 ≤ k) (h10 : k ≤ 10) (hn : n ≤ 1048576) (hlen : ∀ i, i < k + 2 → lost.getD i false = false → (parts.getD i []).length = n) (hc : (goneOf (k + 2) lost).length ≤ 2) :
    Calls Try.prog 39 #[.slice pa (k + 2) pc, .slice la (k + 2) lc] w (CloneOf w 9 (k + 2) ((healS parts lost).map Str)) := by
  have HL := Lib.hid hlen
  have HC := Lib.hid hc
  clear hlen hc
  go_enter Try.func39, Try.ntmps39
  go_wp2_with fail
  go_loop [6, 17] (fun s i => ∃ j sz : Nat, j ≤ k + 2 ∧ i = .int .i64 j ∧ s = .int .i64 sz ∧ sz ≤ n ∧ Hid (sz = lastLen (parts.take j) (lost.take j) 0)) (fun _ i => k + 2 - (intOf i).toNat)
  case atStart => exact ⟨0, 0, by omega, rfl, rfl, by omega, Lib.hid (by simp [lastLen])⟩
  case round =>
    obtain ⟨j, sz, hj, rfl, rfl, hsz, HS⟩ := hrel
    by_cases hlt : (j : Int) < (k : Int) + 2
    · obtain ⟨gp, offp, b, rfl, hb, cb⟩ := hp.get (i := j) (by omega)
      obtain ⟨gl, offl, t, rfl, ht, ct⟩ := hl.get (i := j) (by omega)
      have HB := Lib.hid hb
      have HT := Lib.hid ht
      have HN := Lib.hid (lastLen_snoc parts lost j b t 0 hb ht)
      clear hb ht
      cases t with
      | true =>
        go_wp2_with fail
        go_round
        case rel => exact ⟨j + 1, sz, by omega, by go_num, rfl, hsz, Lib.hid (by rw [HN.out, if_pos rfl]; exact HS.out)⟩
        case measure => simp [intOf]; omega
      | false =>
        have hbn : b.length ≤ n := by
          have h2 := HL.out j (by omega) (by rw [List.getD_eq_getElem?_getD, HT.out]; rfl)
          rw [List.getD_eq_getElem?_getD, HB.out] at h2
          exact Nat.le_of_eq h2
        go_wp2_with fail
        go_round
        case rel => exact ⟨j + 1, b.length, by omega, by go_num, rfl, hbn, Lib.hid (by rw [HN.out, if_neg (by decide)])⟩
        case measure => simp [intOf]; omega
    · have hlp := hp.len
      have hll := hl.len
      have hex : ∃ i, i < parts.length ∧ lost.getD i false = false := by
        refine Classical.byContradiction fun hno => ?_
        have hall : ∀ i, i < k + 2 → lost.getD i false = true := by
          intro i hi
          cases hx : lost.getD i false with
          | true => rfl
          | false => exact absurd ⟨i, by omega, hx⟩ hno
        have hg : goneOf (k + 2) lost = List.range (k + 2) := by
          rw [goneOf, List.filter_eq_self]
          intro i hi
          exact hall i (by simpa using hi)
        have := HC.out
        rw [hg, List.length_range] at this
        omega
      have hsn : sz = n := by
        have hj2 : j = parts.length := by omega
        have e1 : parts.take j = parts := by rw [hj2, List.take_length]
        have e2 : lost.take j = lost := by rw [hj2, hlp, ← hll, List.take_length]
        have h2 := HS.out
        rw [e1, e2] at h2
        rw [h2]
        exact lastLen_eq parts lost 0 n (by omega) (fun i hi hx => HL.out i (by omega) hx) (.inr hex)
      have HLL := Lib.hid (lastLen_eq parts lost 0 n (by omega) (fun i hi hx => HL.out i (by omega) hx) (.inr hex))
      have HLP := Lib.hid hlp
      have HLE := Lib.hid hll
      subst hsn
      clear hlp hll hex HS
      go_wp2_with fail
      refine (clone_str _ _ _ parts _ hp (by omega) (by omega)).mono ?_
      rintro e w1 ⟨g, c, rfl, P1, hkc, hcm, hg, X1⟩
      have hmk := fun wx => run_make_bytes wx sz (by omega)
      go_wp2_with fail
      go_loopw [10, 34] (fun v i wr => ∃ j : Nat, j ≤ k + 2 ∧ i = .int .i64 j ∧ Below w.heap.size w wr ∧ w1.heap.size ≤ wr.heap.size ∧ Pre wr g 9 ((cleanTo parts lost sz j).map Str) ∧ wr.ownsRow w1.heap.size 3 1 v (goneTo k lost j).length ((goneTo k lost j).map Num)) (fun _ i _ => k + 2 - (intOf i).toNat)
      case atStart =>
        refine ⟨0, by omega, rfl, X1, Nat.le_refl _, ?_, World.ownsRow_nil _ _ _ _⟩
        rw [cleanTo_zero]
        exact P1
      case round =>
        obtain ⟨i, hi, rfl, hbel, hsize, P2, hown⟩ := hrel
        by_cases hit : (i : Int) < (k : Int) + 2
        · obtain ⟨gl, offl, t, rfl, ht, ct⟩ := (hl.ext hbel).get (i := i) (by omega)
          obtain ⟨gp, offp, b, rfl, hb, _⟩ := hp.get (i := i) (by omega)
          have HT := Lib.hid ht
          have HB := Lib.hid hb
          have HN := Lib.hid (cleanTo_step parts lost sz i b t hb ht)
          have hlg : lost.getD i false = t := by rw [List.getD_eq_getElem?_getD, ht]; rfl
          have HG := Lib.hid (goneTo_succ k lost i)
          have HLG := Lib.hid hlg
          have HO := Lib.hid hown
          clear ht hb hlg hown
          cases t with
          | false =>
            go_wp2_with fail
            go_roundw
            case rel =>
              refine ⟨i + 1, by omega, by go_num, hbel, hsize, ?_, ?_⟩
              · rw [HN.out, if_neg (by decide)]; exact P2
              · rw [HG.out, HLG.out]
                simp only [Bool.false_and, Bool.false_eq_true, if_false, List.append_nil]
                exact HO.out
            case measure => simp [intOf]; omega
          | true =>
            have hcb := run_convert_bytes_back (P := Try.prog) (wr.alloc (.cells (rowB (zeros sz)) 5)) 70 9 5 ⟨wr.heap.size, 0, none⟩ sz (zeros sz) Try.underlying70 Try.underlying5 Try.underlying9 (fun j hj => by
              rw [add_lit, Nat.zero_add, (Row.new wr (rowB (zeros sz)) 5).cell]
              exact rowB_get _ _ _ (List.getElem?_eq_getElem hj))
            rw [zeros_length] at hcb
            have PA := P2.alloc (.cells (rowB (zeros sz)) 5)
            obtain ⟨old, hold⟩ : ∃ v, (wr.alloc (.cells (rowB (zeros sz)) 5)).cell? ⟨g, i, none⟩ = some v :=
              ⟨_, PA.cell (i := i) (List.getElem?_eq_getElem (by rw [List.length_map, cleanTo_length]; have := HLP.out; omega))⟩
            have hfr := PA.free i
            have PB := PA.set i (by rw [List.length_map, cleanTo_length]; have := HLP.out; omega) (Str (zeros sz))
            rw [← List.map_set] at PB
            have HPB := Lib.hid PB
            have hgw := P1.lt
            have BB : Below w.heap.size w ((wr.alloc (.cells (rowB (zeros sz)) 5)).setCell ⟨g, i, none⟩ (Str (zeros sz))) :=
              (hbel.alloc hbel.size _).setCell (show w.heap.size ≤ g from hg) _
            have HBB := Lib.hid BB
            have OB := Lib.hid (ownsRow_setCell_below (HO.out.alloc (.cells (rowB (zeros sz)) 5)) (a := ⟨g, i, none⟩) hgw (Str (zeros sz)))
            clear PA PB BB
            by_cases hik : (i : Int) < (k : Int)
            · obtain ⟨ii, hi0, hz0, hz1, hz2⟩ := info_parts Try.infoInt
              have Hi := Lib.hid hi0
              have Hz0 := Lib.hid hz0
              have Hz1 := Lib.hid hz1
              have Hz2 := Lib.hid hz2
              clear hi0 hz0 hz1 hz2
              have hgl : (goneTo k lost i).length ≤ 1048576 := by
                have h1 : (goneTo k lost i).length ≤ (List.range i).length := List.length_filter_le _ _
                rw [List.length_range] at h1
                omega
              go_wp2_with (at_builtin; refine wpList_append_own _ rfl (.tmp 50) (.tmp 52) 39 rfl w1.heap.size 3 ii (.int .i64 0) 1 8 Try.underlying39 Hi.out Hz0.out Hz1.out Hz2.out rfl (by decide) _ _ _ rfl (OB.out.alloc _) ⟨wr.heap.size + 1, 0, none⟩ 1 1 [Num i] rfl rfl ?c1 ?c2 ?c3 ?c4 ?c5 ?_)
              case c2 => rfl
              case c3 => unfold maxLen; omega
              case c4 => omega
              case c5 => omega
              intro v' w2 hown2 hgrow2 _
              have HO2 := Lib.hid hown2
              have hg3 := hgrow2.size
              have X2 : Below w.heap.size w w2 := (HBB.out.alloc (by have := HBB.out.size; exact this) (.cells #[Num i] 3)).grown hgrow2 (by simp; omega) (fun q hq => by have := (OB.out.lt q hq).1; omega)
              have P3 : Pre w2 g 9 (((cleanTo parts lost sz i).set i (zeros sz)).map Str) := by
                obtain ⟨cc, rr⟩ := HPB.out.alloc (.cells #[Num i] 3)
                refine ⟨cc, (hgrow2.block g (by simp; omega) (fun e => ?_)).trans rr⟩
                have := (OB.out.lt g e.symm).1
                omega
              clear hown2
              go_wp2_with fail
              go_roundw
              case rel =>
                refine ⟨i + 1, by omega, by go_num, X2, ?_, ?_, ?_⟩
                · simp at hg3; omega
                · rw [HN.out]; simp only [↓reduceIte]; exact P3
                · rw [HG.out, HLG.out]
                  have : i < k := by omega
                  simp only [Bool.true_and, this, decide_true, if_true, List.length_append, List.length_cons, List.length_nil, List.map_append, List.map_cons, List.map_nil]
                  exact HO2.out
              case measure => simp [intOf]; omega
            · go_wp2_with fail
              go_roundw
              case rel =>
                refine ⟨i + 1, by omega, by go_num, HBB.out, ?_, ?_, ?_⟩
                · simp; omega
                · rw [HN.out]; simp only [↓reduceIte]; exact HPB.out
                · rw [HG.out, HLG.out]
                  have : ¬ i < k := by omega
                  simp only [Bool.true_and, this, decide_false, Bool.false_eq_true, if_false, List.append_nil]
                  exact OB.out
              case measure => simp [intOf]; omega
        · obtain rfl : i = k + 2 := by omega
          have hlo : lost.length = parts.length := by have := HLP.out; have := HLE.out; omega
          have hcl : cleanTo parts lost sz (k + 2) = cleaned parts lost sz := by rw [← HLP.out]; exact cleanTo_full parts lost sz hlo
          rw [hcl] at P2
          rw [goneTo_end k lost (k + 2) (by omega)] at hown
          have hol : (cleaned parts lost sz).length = k + 2 := by rw [cleaned_length]; exact HLP.out
          have huo : ∀ j, j < k + 2 → ((cleaned parts lost sz).getD j []).length = sz := by
            intro j hj
            rw [cleaned_getD parts lost sz j hlo.symm (by have := HLP.out; omega)]
            split
            · exact zeros_length sz
            · rename_i hx
              exact HL.out j hj (by simpa using hx)
          have hspec : healS parts lost = (let data := healedS ((cleaned parts lost sz).take k) (goneOf k lost) ((cleaned parts lost sz).getD k []) ((cleaned parts lost sz).getD (k + 1) []) (lost.getD k false) (lost.getD (k + 1) false); data ++ [pOf data, qOf data]) := by
            have e : parts.length - 2 = k := by have := HLP.out; omega
            simp only [healS, HLL.out, e]
          generalize hOUT : cleaned parts lost sz = OUT at *
          have hsplit : OUT = OUT.take k ++ [OUT.getD k [], OUT.getD (k + 1) []] := by
            apply list_ext_getD (d := []) (k + 2) hol (by simp; omega)
            intro j hj
            by_cases hjk : j < k
            · rw [List.getD_eq_getElem?_getD, List.getD_eq_getElem?_getD, List.getElem?_append_left (by simp; omega), List.getElem?_take, if_pos hjk]
            · have hlt : (OUT.take k).length = k := by simp; omega
              rw [List.getD_eq_getElem?_getD (l := OUT.take k ++ _), List.getElem?_append_right (by omega), hlt]
              have : j = k ∨ j = k + 1 := by omega
              rcases this with rfl | rfl <;> simp
          have hu : Uni sz (OUT.take k) := by
            intro b hb
            obtain ⟨j, hj⟩ := List.getElem?_of_mem hb
            rw [List.getElem?_take] at hj
            split at hj
            · have := huo j (by omega)
              rw [List.getD_eq_getElem?_getD, hj] at this
              exact this
            · cases hj
          have hdl : (OUT.take k).length = k := by simp; omega
          have hpl := huo k (by omega)
          have hql := huo (k + 1) (by omega)
          obtain ⟨gl, offl, t1, rfl, ht1, ct1⟩ := (hl.ext hbel).get (i := k) (by omega)
          obtain ⟨gl', offl', t2, e2, ht2, ct2⟩ := (hl.ext hbel).get (i := k + 1) (by omega)
          simp only [Option.some.injEq, Addr.mk.injEq, and_true] at e2
          obtain ⟨rfl, rfl⟩ := e2
          have hlt1 : lost.getD k false = t1 := by rw [List.getD_eq_getElem?_getD, ht1]; rfl
          have hlt2 : lost.getD (k + 1) false = t2 := by rw [List.getD_eq_getElem?_getD, ht2]; rfl
          rw [hlt1, hlt2] at hspec
          generalize OUT.getD k [] = op at *
          generalize OUT.getD (k + 1) [] = oq at *
          generalize OUT.take k = data at *
          subst hsplit
          have ck := P2.cell (i := k) (v := Str op) (by rw [List.getElem?_map, List.getElem?_append_right (by omega), hdl]; simp)
          have ck1 := P2.cell (i := k + 1) (v := Str oq) (by rw [List.getElem?_map, List.getElem?_append_right (by omega), hdl]; simp)
          obtain ⟨ga, gc, rfl, hgs⟩ := sl_of_owns hown
          have hgc := HC.out
          rw [gone_succ, gone_succ, List.length_append, List.length_append, hlt1, hlt2] at hgc
          have hmem : ∀ j, j ∈ goneOf k lost → j < k := fun j hj => (mem_gone.1 hj).1
          have HSP := Lib.hid hspec
          have HGC := Lib.hid hgc
          have HM := Lib.hid hmem
          have HDL := Lib.hid hdl
          have hdl' : data.length = k := hdl
          have hkc' : (k : Int) ≤ (c : Int) := by omega
          clear hspec hgc hmem hlt1 hlt2 ht1 ht2 hOUT hol huo hown hcl hlo hdl
          go_upto_region 19 with (fail)
          go_cut [5] (fun s5 wc => s5 = .int .i64 (k : Int) ∧ HealedAt g w wc (healedS data (goneOf k lost) op oq t1 t2 ++ [op, oq]))
          case first =>
            have b1 : (k : Int) < (k : Int) + 2 := by omega
            have b2 : (k : Int) + 1 < (k : Int) + 2 := by omega
            have b3 : (0 : Int) ≤ (k : Int) + 1 := by omega
            have b4 : ((k : Int) + 1).toNat = k + 1 := by omega
            have b5 : IntKind.i64.wrap ((k : Int) + 1) = (k : Int) + 1 := IntWalk.i64_in _ (by omega)
            go_still_tail 22, (by kernel_rfl)
            clear b1 b2 b3 b4 b5
            have XD : Below w.heap.size w wr.drew := hbel.drew
            have hfin : ∀ (e : Ending) (w' : World), HealedPost g wr.drew (healedS data (goneOf k lost) op oq t1 t2 ++ [op, oq]) e w' → e = .returned (.tuple #[]) ∧ HealedAt g w w' (healedS data (goneOf k lost) op oq t1 t2 ++ [op, oq]) :=
              fun e w' h => ⟨h.1, h.2.1, XD.grown h.2.2 (by have := hbel.size; exact this) (fun q hq => by have := Option.some.inj hq; omega)⟩
            have HF := Lib.hid hfin
            have hne : data ≠ [] := by intro e; rw [e] at hdl'; simp at hdl'; omega
            generalize hGG : goneOf k lost = G at *
            match G, hGG with
            | [], _ =>
              have HD := healed_zero g c data [op, oq] op oq wr.drew sz ga gc t1 t2 P2 (by omega) hcm hne hu hn hpl hql (by omega)
              rw [hdl'] at HD
              have HD2 := Lib.hid HD
              clear HD
              go_wp2_with fail
              refine HD2.out.mono ?_
              intro e w4 hpost
              obtain ⟨rfl, hat⟩ := HF.out e w4 hpost
              go_wp2_with fail
              go_meet
              case rel => exact ⟨rfl, hat⟩
            | [a], _ =>
              have ha : a < data.length := by have := HM.out a (by simp); omega
              cases t1 with
              | false =>
                have HD := healed_one_p g c data [op, oq] op oq wr.drew sz a ga gc t2 P2 (hgs.carry fun _ _ h => h) (by omega) hcm hne hu hn hpl hql (by omega) ha
                rw [hdl'] at HD
                have HD2 := Lib.hid HD
                clear HD
                go_wp2_with fail
                refine HD2.out.mono ?_
                intro e w4 hpost
                obtain ⟨rfl, hat⟩ := HF.out e w4 hpost
                go_wp2_with fail
                go_meet
                case rel => exact ⟨rfl, hat⟩
              | true =>
                cases t2 with
                | true =>
                  exfalso
                  have := HGC.out
                  simp at this
                | false =>
                  have HD := healed_one_q g c data [op, oq] op oq wr.drew sz a ga gc P2 (hgs.carry fun _ _ h => h) (by omega) hcm hne hu hn hpl hql (by omega) ha
                  rw [hdl'] at HD
                  have HD2 := Lib.hid HD
                  clear HD
                  go_wp2_with fail
                  refine HD2.out.mono ?_
                  intro e w4 hpost
                  obtain ⟨rfl, hat⟩ := HF.out e w4 hpost
                  go_wp2_with fail
                  go_meet
                  case rel => exact ⟨rfl, hat⟩
            | [a, b], _ =>
              have ha : a < data.length := by have := HM.out a (by simp); omega
              have hb : b < data.length := by have := HM.out b (by simp); omega
              have HD := healed_two g c data [op, oq] op oq wr.drew sz a b ga gc t1 t2 P2 (hgs.carry fun _ _ h => h) (by omega) hcm hne hu hn hpl hql (by omega) ha hb
              rw [hdl'] at HD
              have HD2 := Lib.hid HD
              clear HD
              go_wp2_with fail
              refine HD2.out.mono ?_
              intro e w4 hpost
              obtain ⟨rfl, hat⟩ := HF.out e w4 hpost
              go_wp2_with fail
              go_meet
              case rel => exact ⟨rfl, hat⟩
            | a :: b :: d :: r, hGG =>
              exfalso
              have := HGC.out
              simp only [List.length_cons] at this
              omega
          case rest =>
            obtain ⟨rfl, P4, X4⟩ := hcut
            have hne : data ≠ [] := by intro e; rw [e] at hdl'; simp at hdl'; omega
            obtain ⟨hql1, hqu⟩ := healedS_uni hu hne (goneOf k lost) op oq t1 t2
            have HSP2 := Lib.hid HSP.out
            generalize healedS data (goneOf k lost) op oq t1 t2 = dd at *
            rw [hdl'] at hql1
            have hdn : dd ≠ [] := by intro e; rw [e] at hql1; simp at hql1; omega
            have hds := hqu.size hdn
            have HS4 : Sl wc Str (some ⟨g, 0, none⟩) k c dd := P4.sl_left hql1 (by omega) hcm
            have HO := Lib.hid (of_any _ _ _ dd _ HS4 (fun b hb => by rw [hqu b hb, hds]) (by omega) (by omega))
            have HQ1 := Lib.hid hql1
            clear hql1 hds hql hpl hdl'
            go_wp2_with fail
            refine HO.out.mono ?_
            rintro e w5 ⟨rfl, X5⟩
            have P5 := P4.ext X5
            obtain ⟨v1, c1⟩ : ∃ v, w5.cell? ⟨g, k, none⟩ = some v := ⟨_, P5.cell (i := k) (List.getElem?_eq_getElem (by have := HQ1.out; simp; omega))⟩
            have f1 := P5.free k
            have P6 := P5.set k (by have := HQ1.out; simp; omega) (Str (pOf dd))
            obtain ⟨v2, c2⟩ : ∃ v, w5.cell? ⟨g, k + 1, none⟩ = some v := ⟨_, P5.cell (i := k + 1) (List.getElem?_eq_getElem (by have := HQ1.out; simp; omega))⟩
            have f2 := P5.free (k + 1)
            have HP7 := Lib.hid (P6.set (k + 1) (by have := HQ1.out; simp; omega) (Str (qOf dd)))
            clear P6
            go_wp2_with fail
            go_ret
            refine ⟨g, c, rfl, ?_, hkc, hcm, hg, ?_⟩
            · have h7 := HP7.out
              rw [← List.map_set, ← List.map_set, List.set_append_right _ _ (by have := HQ1.out; omega), HQ1.out, Nat.sub_self, List.set_append_right _ _ (by have := HQ1.out; omega), HQ1.out] at h7
              simp only [List.set_cons_zero, Nat.add_sub_cancel_left, List.set_cons_succ] at h7
              rw [HSP2.out]
              exact h7
            · exact ((X4.trans (X5.mono X4.size)).setCell (show w.heap.size ≤ g from hg) _).setCell (show w.heap.size ≤ g from hg) _

end Go.Proofs.Ytmgppnceddnlmaa
