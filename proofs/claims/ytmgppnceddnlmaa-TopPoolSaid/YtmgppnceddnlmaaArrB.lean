/- Contracts of array's parts, Lost, spot, Raw. -/
import Derived.Test.YtmgppnceddnlmaaArr
namespace Go.Proofs.Ytmgppnceddnlmaa
open Go.RowKit

theorem owns_ne {w : World} {b b' e e' n n' : Nat} {v v' : Value} {xs ys : List Value} (h : w.ownsRow b e 1 v n xs) (h' : w.ownsRow b' e' 1 v' n' ys) (hne : e ≠ e') : v.ownBlock = none ∨ v.ownBlock ≠ v'.ownBlock := by
  rcases h.2 with ⟨rfl, _⟩ | ⟨g, cap, cur, rfl, _, hg, _⟩
  · exact .inl rfl
  · refine .inr fun e1 => ?_
    rcases h'.2 with ⟨rfl, _⟩ | ⟨g', cap', cur', rfl, _, hg', _⟩
    · cases e1
    · simp [Value.ownBlock] at e1
      subst e1
      rw [hg] at hg'
      simp at hg'
      exact hne hg'.2
theorem Row.ne {w : World} {g g' e e' : Nat} {xs ys : Array Value} (h : Row w g e xs) (h' : Row w g' e' ys) (hne : e ≠ e') : g ≠ g' := by
  rintro rfl
  unfold Row at h h'
  rw [h] at h'
  simp at h'
  exact hne h'.2

/-- Where the parts of a row lie. -/
def PartsAt (w w' : World) (s : St) (row g : Nat) (pa : Option Addr) (pc : Nat) : Prop :=
  ∃ gp, pa = some ⟨gp, 0, none⟩ ∧ gp ≠ g ∧ Pre w' gp 9 ((s.parts row).map Str) ∧ s.n ≤ pc ∧ pc ≤ maxLen ∧ w.heap.size ≤ gp
theorem PartsAt.off {w w' : World} {s : St} {row g : Nat} {pa : Option Addr} {pc : Nat} (h : PartsAt w w' s row g pa pc) : ∀ x, pa = some x → x.block ≠ g := by
  obtain ⟨gp, rfl, hne, _⟩ := h
  intro x hx
  cases hx
  exact hne
/-- What parts hands back. -/
def PartsRet (w : World) (s : St) (row : Nat) (e : Ending) (w' : World) : Prop :=
  ∃ pa pc g lc oa oc, e = .returned (.tuple #[.slice pa s.n pc, .slice (some ⟨g, 0, none⟩) s.n lc, .slice oa s.n oc, .nilIface]) ∧
    Sl w' Str pa s.n pc (s.parts row) ∧ Pre w' g 4 ((s.losts row).map Boo) ∧ s.n ≤ lc ∧ lc ≤ maxLen ∧ w.heap.size ≤ g ∧ Sl w' Num oa s.n oc (order s.n row) ∧ Ext w w' ∧ (∀ x, oa = some x → w.heap.size ≤ x.block) ∧ PartsAt w w' s row g pa pc

theorem lay_lt (n row i : Nat) (h : 0 < n) : lay n row i < n := Nat.mod_lt _ h
theorem parts_length (s : St) (row : Nat) : (s.parts row).length = s.n := by simp [St.parts, order]
theorem losts_length (s : St) (row : Nat) : (s.losts row).length = s.n := by simp [St.losts, order]

set_option maxHeartbeats 2000000 in
set_option maxRecDepth 100000 in
theorem parts_any (A : Lay) (s : St) (w : World) (row : Nat) (h : IsArr w A s) (hr : row < s.rows) :
    Calls Try.prog 43 #[Ptr A.p, .int .i64 (row : Int)] w (PartsRet w s row) := by
  have c1 := h.cl
  have hn3 := h.ok.n3
  have hn10 := h.ok.n10
  have hr20 := h.ok.r20
  have HO := Lib.hid (order_any s.n row w hn3 hn10 (by omega))
  obtain ⟨i1, hi0, hz0, hz1, hz2⟩ := info_parts Try.infoStr
  have Hi := Lib.hid hi0
  have Hz0 := Lib.hid hz0
  have Hz1 := Lib.hid hz1
  have Hz2 := Lib.hid hz2
  clear hi0 hz0 hz1 hz2
  obtain ⟨i2, hi0, hz0, hz1, hz2⟩ := info_parts Try.infoBool
  have Bi := Lib.hid hi0
  have Bz0 := Lib.hid hz0
  have Bz1 := Lib.hid hz1
  have Bz2 := Lib.hid hz2
  clear hi0 hz0 hz1 hz2
  go_enter Try.func43, Try.ntmps43
  go_wp2_with fail
  refine HO.out.mono ?_
  rintro e w1 ⟨oa, oc, rfl, ho, X1, hob⟩
  go_wp2_with fail
  go_loopw [9, 10, 11, 31] (fun er v1 v2 i wr => ∃ j : Nat, j ≤ s.n ∧ i = .int .i64 j ∧ er = .nilIface ∧ Ext w wr ∧ w1.heap.size ≤ wr.heap.size ∧ Ext w1 wr ∧
      wr.ownsRow w1.heap.size 9 1 v1 j (((List.range j).map fun i => s.part row (lay s.n row i)).map Str) ∧
      wr.ownsRow w1.heap.size 4 1 v2 j (((List.range j).map fun i => s.lost (lay s.n row i) row).map Boo)) (fun _ _ _ i _ => s.n - (intOf i).toNat)
  case atStart => exact ⟨0, by omega, rfl, rfl, X1, Nat.le_refl _, Ext.refl _, World.ownsRow_nil _ _ _ _, World.ownsRow_nil _ _ _ _⟩
  case round =>
    obtain ⟨j, hj, rfl, rfl, X, hsz, XX, hown1, hown2⟩ := hrel
    by_cases hlt : (j : Int) < (s.n : Int)
    · have ho' := ho.ext XX
      obtain ⟨go, oo, x, rfl, hx, co⟩ := ho'.get (i := j) (by omega)
      rw [order_get s.n row j (by omega)] at hx
      obtain rfl := Option.some.inj hx
      have hd := lay_lt s.n row j (by omega)
      have ha := h.ext X
      have c1 := ha.cl
      have c2 := ha.cm hd
      have c3 := ha.ck hd
      have HL := Lib.hid (lost_any A s wr (lay s.n row j) row ha hd)
      have Hx := Lib.hid (show s.part row (lay s.n row j) = if s.lost (lay s.n row j) row then [] else s.cell (lay s.n row j) row from rfl)
      have HO1 := Lib.hid hown1
      have HO2 := Lib.hid hown2
      have hd' : ((lay s.n row j : Nat) : Int) < (s.n : Int) := by omega
      obtain ⟨D, hD, hDm, -, hDf, hDc⟩ := ha.disk _ hd
      clear hown1 hown2 hx
      go_upto_if 40 with (go_at_call 52; refine HL.out.mono ?_; rintro e w' ⟨rfl, rfl⟩)
      go_cut [9, 14, 15, 38, 39, 40] (fun er b l _ _ _ wc => er = .nilIface ∧ b = Str (s.part row (lay s.n row j)) ∧ l = .bool (s.lost (lay s.n row j) row) ∧ wr = wc)
      case first =>
        cases hlost : s.lost (lay s.n row j) row with
        | true =>
          have HLL := Lib.hid hlost
          clear hlost hDf
          go_wp2_with fail
          go_meet
          case rel => exact ⟨rfl, by rw [Hx.out, HLL.out]; rfl, by rw [HLL.out], rfl⟩
        | false =>
          have HLL := Lib.hid hlost
          have hff : D.failed = false := by
            rw [hDf]
            cases hf : s.failed (lay s.n row j) with
            | false => rfl
            | true => rw [St.lost, hf] at hlost; cases hlost
          have HR := Lib.hid (read_ok (A.k (lay s.n row j)) D wr row hD hff (by omega) (by omega))
          have Hcc := Lib.hid (hDc row hr hlost)
          clear hlost hDf hff hDc hDm
          go_wp2_with fail
          refine HR.out.mono ?_
          rintro e w' ⟨rfl, rfl⟩
          go_wp2_with fail
          go_meet
          case rel => exact ⟨rfl, by rw [Hx.out, HLL.out, Hcc.out]; rfl, by rw [HLL.out], rfl⟩
      case rest =>
        obtain ⟨rfl, rfl, rfl, rfl⟩ := hcut
        clear hD hDf hDc hDm ha
        go_wp2_with (at_builtin; refine wpList_append_own _ rfl (.tmp 59) (.tmp 61) 22 rfl w1.heap.size 9 i1 _ 1 16 Try.underlying22 Hi.out Hz0.out Hz1.out Hz2.out rfl (by decide) _ _ _ rfl (HO1.out.alloc _) ⟨wr.heap.size, 0, none⟩ 1 1 [Str (s.part row (lay s.n row j))] rfl rfl ?c1 ?c2 ?c3 ?c4 ?c5 ?_)
        case c1 => exact cell_one_new _ _ _
        case c2 => intro u hu; simp at hu; subst hu; rfl
        case c3 => unfold maxLen; omega
        case c4 => omega
        case c5 => simp; omega
        intro v1' w2 hownA hgrowA _
        have HA := Lib.hid hownA
        have HB : Hid (w2.ownsRow w1.heap.size 4 1 u11 j (((List.range j).map fun i => s.lost (lay s.n row i) row).map Boo)) :=
          Lib.hid (by refine World.ownsRow.kept (h := ?kpA) (hg := hgrowA) (hne := ?kpB); (case kpA => exact HO2.out.alloc _); (case kpB => exact owns_ne HO2.out HO1.out (by decide)))
        have hs2 := hgrowA.size
        have X2 : Ext w1 w2 := (XX.alloc hsz _).grown hgrowA (by simp; omega) (fun q hq => (HO1.out.lt q hq).1)
        clear hownA
        simp only [World.size_alloc] at hs2
        go_wp2_with (at_builtin; refine wpList_append_own _ rfl (.tmp 63) (.tmp 65) 32 rfl w1.heap.size 4 i2 _ 1 1 Try.underlying32 Bi.out Bz0.out Bz1.out Bz2.out rfl (by decide) _ _ _ rfl (HB.out.alloc _) ⟨w2.heap.size, 0, none⟩ 1 1 [Boo (s.lost (lay s.n row j) row)] rfl rfl ?c1 ?c2 ?c3 ?c4 ?c5 ?_)
        case c1 => exact cell_one_new _ _ _
        case c2 => intro u hu; simp at hu; subst hu; rfl
        case c3 => unfold maxLen; omega
        case c4 => omega
        case c5 => simp; omega
        intro v2' w3 hownC hgrowC _
        have HC := Lib.hid hownC
        have HD : Hid (w3.ownsRow w1.heap.size 9 1 v1' (j + 1) ((List.range j).map (Str ∘ fun i => s.part row (lay s.n row i)) ++ [Str (s.part row (lay s.n row j))])) :=
          Lib.hid (by refine World.ownsRow.kept (h := ?kpA) (hg := hgrowC) (hne := ?kpB); (case kpA => exact HA.out.alloc _); (case kpB => exact owns_ne HA.out HB.out (by decide)))
        have hs3 := hgrowC.size
        have X3 : Ext w1 w3 := (X2.alloc (by omega) _).grown hgrowC (by simp; omega) (fun q hq => (HB.out.lt q hq).1)
        clear hownC
        simp only [World.size_alloc] at hs3
        go_wp2_with fail
        go_roundw
        case rel =>
          refine ⟨j + 1, by omega, by go_num, rfl, X1.trans X3, by omega, X3, ?_, ?_⟩
          · rw [List.range_succ, List.map_append, List.map_append, List.map_map]
            exact HD.out
          · rw [List.range_succ, List.map_append, List.map_append, List.map_map]
            exact HC.out
        case measure => simp [intOf]; omega
    · have hjn : j = s.n := by omega
      rw [hjn] at hown1 hown2
      have hne12 := owns_ne hown1 hown2 (by decide)
      obtain ⟨pa, pc, rfl, hps⟩ := sl_of_owns hown1
      obtain ⟨la, lc, rfl, hls⟩ := sl_of_owns hown2
      obtain ⟨g, off, rfl, _⟩ := hls.cells (by omega)
      have hg0 : off = 0 ∧ w1.heap.size ≤ g := by
        rcases hown2.2 with ⟨h0, _⟩ | ⟨g', c', cu, h0, hb, _⟩
        · cases h0
        · simp at h0
          exact ⟨h0.1.2, h0.1.1 ▸ hb⟩
      obtain ⟨rfl, hgb⟩ := hg0
      have hpre := Pre.of_owns hown2
      obtain ⟨gp, offp, rfl, _⟩ := hps.cells (by omega)
      have hgp0 : offp = 0 ∧ w1.heap.size ≤ gp := by
        rcases hown1.2 with ⟨h0, _⟩ | ⟨g', c', cu, h0, hb, _⟩
        · cases h0
        · simp at h0
          exact ⟨h0.1.2, h0.1.1 ▸ hb⟩
      obtain ⟨rfl, hgpb⟩ := hgp0
      have hprep := Pre.of_owns hown1
      have hpgne : gp ≠ g := by
        rcases hne12 with e | e
        · cases e
        · intro e2
          exact e (by simp [Value.ownBlock, e2])
      have e1 : ((List.range s.n).map fun i => s.part row (lay s.n row i)) = s.parts row := by rw [St.parts, order, List.map_map]; rfl
      have e2 : ((List.range s.n).map fun i => s.lost (lay s.n row i) row) = s.losts row := by rw [St.losts, order, List.map_map]; rfl
      rw [e1] at hps hprep
      rw [e2] at hpre
      have hle := hls.le
      have hmx := hls.max
      have hw1 := X1.size
      have hpg : PartsAt w wr s row g (some ⟨gp, 0, none⟩) pc := ⟨gp, rfl, hpgne, hprep, hps.le, hps.max, by omega⟩
      have ho' := ho.ext XX
      have HJ := Lib.hid hjn
      clear hown1 hown2 e1 e2 hls hjn
      go_wp2_with fail
      refine bodyPost_ret (v := .tuple #[.slice (some ⟨gp, 0, none⟩) s.n pc, .slice (some ⟨g, 0, none⟩) s.n lc, .slice oa s.n oc, .nilIface]) (by simp [results, Try.results43, go_sem]) rfl ?_
      exact ⟨_, pc, g, lc, oa, oc, rfl, hps, hpre, hle, hmx, by omega, ho', X, hob, hpg⟩

end Go.Proofs.Ytmgppnceddnlmaa
