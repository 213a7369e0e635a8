/- Law TopPool: the walk. -/
import Derived.Test.YtmgppnceddnlmaaPoolW
import Derived.Deep.CutBlock
namespace Go.Proofs.Ytmgppnceddnlmaa
open Go.RowKit

/-! ### pool.New -/
set_option maxRecDepth 100000 in
theorem pnew_no (n spares : Int) (w : World) (h : n < 1 ∨ 10 < n ∨ spares < 0 ∨ 10 < spares) :
    Calls Try.prog 15 #[.int .i64 n, .int .i64 spares] w fun e w' => e = .returned (.tuple #[.pointer none, errV 1]) ∧ w = w' := by
  rw [errV_pos 1 (by omega)]
  by_cases c1 : n < 1
  · clear h
    go_enter Try.func15, Try.ntmps15
    go_wp2_with fail
    go_ret2
    exact ⟨rfl, rfl⟩
  · have d1 : decide (n < 1) = false := by simpa using c1
    by_cases c2 : 10 < n
    · clear h
      go_enter Try.func15, Try.ntmps15
      go_wp2_with fail
      go_ret2
      exact ⟨rfl, rfl⟩
    · have d2 : decide (10 < n) = false := by simpa using c2
      by_cases c3 : spares < 0
      · clear h
        go_enter Try.func15, Try.ntmps15
        go_wp2_with fail
        go_ret2
        exact ⟨rfl, rfl⟩
      · have d3 : decide (spares < 0) = false := by simpa using c3
        have c4 : 10 < spares := by omega
        clear h
        go_enter Try.func15, Try.ntmps15
        go_wp2_with fail
        go_ret2
        exact ⟨rfl, rfl⟩

/-- What New has made so far: slots of the first a, states of the first b and of c spares. -/
structure PGrown (w wr : World) (a b c : Nat) (vs vl : Value) : Prop where
  head : Row wr w.heap.size 88 #[vs, vl]
  st : wr.ownsRow (w.heap.size + 1) 3 1 vs (b + c) ((List.replicate b (0 : Int) ++ List.replicate c 1).map NumI)
  sl : wr.ownsRow (w.heap.size + 1) 3 1 vl a (((List.range a).map (fun (i : Nat) => (i : Int))).map NumI)
  ne : vs.ownBlock = none ∨ vl.ownBlock = none ∨ vs.ownBlock ≠ vl.ownBlock
  ext : Ext w wr

theorem owns_form {w : World} {base e n : Nat} {v : Value} {xs : List Value} (h : w.ownsRow base e 1 v n xs) : ∃ a c, v = .slice a n c := by
  rcases h.2 with ⟨rfl, rfl⟩ | ⟨g, cap, cur, rfl, _⟩
  · exact ⟨_, _, rfl⟩
  · exact ⟨_, _, rfl⟩
theorem own_lt_ne {w : World} {base e n : Nat} {v : Value} {xs : List Value} (h : w.ownsRow base e 1 v n xs) {k : Nat} (hk : w.heap.size ≤ k) : v.ownBlock ≠ some k := fun q => by
  have := (h.lt k q).2
  omega

section
variable {w wr w2 : World} {a b c b' c' : Nat} {vs vl v' : Value}
theorem PGrown.slot (G : PGrown w wr a b c vs vl) (hown : w2.ownsRow (w.heap.size + 1) 3 1 v' (a + 1) (((List.range a).map (fun (i : Nat) => (i : Int))).map NumI ++ [NumI (a : Int)]))
    (hg : (wr.alloc (.cells #[NumI (a : Int)] 3)).grownBy w2 vl.ownBlock) (hwh : v'.ownBlock = vl.ownBlock ∨ v'.ownBlock = some (wr.heap.size + 1)) : PGrown w (w2.setCell ⟨w.heap.size, 1, none⟩ v') (a + 1) b c vs v' where
  head := (row_past (G.sl.alloc _) hg (G.head.alloc _) (by decide)).set 1 v'
  st := by
    refine World.ownsRow.kept (h := World.ownsRow.kept (h := G.st.alloc (.cells #[NumI (a : Int)] 3)) (hg := hg) (hne := ?_)) (hg := grownBy_setCell w2 ⟨w.heap.size, 1, none⟩ v') (hne := .inr fun e => ?_)
    · rcases G.ne with e | e | e
      · exact .inl e
      · rw [e]
        cases hv : vs.ownBlock with
        | none => exact .inl rfl
        | some k => exact .inr (by simp)
      · exact .inr e
    · have := (G.st.lt _ e).1
      simp only at this
      omega
  sl := by
    refine World.ownsRow.kept (h := ?kpA) (hg := grownBy_setCell w2 ⟨w.heap.size, 1, none⟩ v') (hne := .inr fun e => ?kpB)
    case kpA =>
      rw [List.range_succ, List.map_append, List.map_append]
      exact hown
    case kpB =>
      have := (hown.lt _ e).1
      simp only at this
      omega
  ne := by
    rcases hwh with e | e
    · rw [e]
      exact G.ne
    · refine .inr (.inr ?_)
      rw [e]
      exact own_lt_ne G.st (by omega)
  ext := ((G.ext.alloc G.ext.size _).grown hg (by have := G.ext.size; simp; omega) (fun q hq => by have := (G.sl.lt q hq).1; omega)).setCell (Nat.le_refl _) _
theorem PGrown.state (G : PGrown w wr a b c vs vl) (z : Int) (hz : List.replicate b (0 : Int) ++ List.replicate c 1 ++ [z] = List.replicate b' 0 ++ List.replicate c' 1) (hn : b + c + 1 = b' + c')
    (hown : w2.ownsRow (w.heap.size + 1) 3 1 v' (b + c + 1) ((List.replicate b (0 : Int) ++ List.replicate c 1).map NumI ++ [NumI z]))
    (hg : (wr.alloc (.cells #[NumI z] 3)).grownBy w2 vs.ownBlock) (hwh : v'.ownBlock = vs.ownBlock ∨ v'.ownBlock = some (wr.heap.size + 1)) : PGrown w (w2.setCell ⟨w.heap.size, 0, none⟩ v') a b' c' v' vl where
  head := (row_past (G.st.alloc _) hg (G.head.alloc _) (by decide)).set 0 v'
  sl := by
    refine World.ownsRow.kept (h := World.ownsRow.kept (h := G.sl.alloc (.cells #[NumI z] 3)) (hg := hg) (hne := ?_)) (hg := grownBy_setCell w2 ⟨w.heap.size, 0, none⟩ v') (hne := .inr fun e => ?_)
    · rcases G.ne with e | e | e
      · rw [e]
        cases hv : vl.ownBlock with
        | none => exact .inl rfl
        | some k => exact .inr (by simp)
      · exact .inl e
      · exact .inr (Ne.symm e)
    · have := (G.sl.lt _ e).1
      simp only at this
      omega
  st := by
    refine World.ownsRow.kept (h := ?kpA) (hg := grownBy_setCell w2 ⟨w.heap.size, 0, none⟩ v') (hne := .inr fun e => ?kpB)
    case kpA =>
      rw [← hz, ← hn, List.map_append (f := NumI) (l₂ := [z])]
      exact hown
    case kpB =>
      have := (hown.lt _ e).1
      simp only at this
      omega
  ne := by
    rcases hwh with e | e
    · rw [e]
      exact G.ne
    · rw [e]
      cases hv : vl.ownBlock with
      | none => exact .inr (.inl rfl)
      | some k =>
        refine .inr (.inr fun q => ?_)
        have := own_lt_ne G.sl (k := wr.heap.size + 1) (by omega)
        rw [hv, q] at this
        exact this rfl
  ext := ((G.ext.alloc G.ext.size _).grown hg (by have := G.ext.size; simp; omega) (fun q hq => by have := (G.st.lt q hq).1; omega)).setCell (Nat.le_refl _) _
end

def PNewRet (n spares : Nat) (w : World) (e : Ending) (w' : World) : Prop := ∃ vs vl, e = .returned (.tuple #[.pointer (some ⟨w.heap.size, 0, none⟩), .nilIface]) ∧ PGrown w w' n n spares vs vl
set_option maxHeartbeats 1000000 in
set_option maxRecDepth 100000 in
theorem pnew_ok (n spares : Nat) (w : World) (h1 : 1 ≤ n) (h2 : n ≤ 10) (h3 : spares ≤ 10) :
    Calls Try.prog 15 #[.int .i64 (n : Int), .int .i64 (spares : Int)] w (PNewRet n spares w) := by
  obtain ⟨ii, hi0, hz0, hz1, hz2⟩ := info_parts Try.infoInt
  have Hi := Lib.hid hi0
  have Hz0 := Lib.hid hz0
  have Hz1 := Lib.hid hz1
  have Hz2 := Lib.hid hz2
  clear hi0 hz0 hz1 hz2
  have d1 : decide ((spares : Int) < 0) = false := by simp
  go_enter Try.func15, Try.ntmps15
  have hgr0 : PGrown w (w.alloc (.cells #[.slice none 0 0, .slice none 0 0] 88)) 0 0 0 (.slice none 0 0) (.slice none 0 0) :=
    ⟨Row.new _ _ _, World.ownsRow_nil _ _ _ _, World.ownsRow_nil _ _ _ _, .inl rfl, (Below.refl _ _).alloc (Nat.le_refl _) _⟩
  have HG0 := Lib.hid hgr0
  clear hgr0
  go_wp2_with fail
  go_loopw [29] (fun ix wr => ∃ (j : Nat) (vs vl : Value), j ≤ n + spares ∧ ix = .int .i64 j ∧ PGrown w wr (min j n) (min j n) (j - n) vs vl) (fun ix _ => n + spares - (intOf ix).toNat)
  case atStart => exact ⟨0, _, _, by omega, rfl, by rw [show min 0 n = 0 by omega, show 0 - n = 0 by omega]; exact HG0.out⟩
  case round =>
    obtain ⟨j, vs, vl, hj, rfl, G⟩ := hrel
    have hc0 : wr.cell? ⟨w.heap.size, 0, none⟩ = some vs := G.head.cell 0
    have hc1 : wr.cell? ⟨w.heap.size, 1, none⟩ = some vl := G.head.cell 1
    have hf0 := G.head.free 0
    have hf1 := G.head.free 1
    have hsz := G.ext.size
    have hlt0 := G.head.lt
    by_cases hlt : (j : Int) < (n : Int) + (spares : Int)
    · by_cases hjn : (j : Int) < (n : Int)
      · rw [show min j n = j by omega, show j - n = 0 by omega] at G
        have HG := Lib.hid G
        have OL := Lib.hid G.sl
        clear G
        go_wp2_with (at_builtin; refine wpList_append_where rfl (.tmp 39) (.tmp 41) 39 rfl (w.heap.size + 1) 3 ii _ Try.underlying39 Hi.out Hz0.out Hz1.out rfl _ _ _ rfl (OL.out.alloc _) ⟨wr.heap.size, 0, none⟩ 1 1 [Num j] rfl rfl ?c1 ?c2 ?c3 ?c4 ?c5 ?c6 ?_)
        case c1 => exact cell_one_new _ _ _
        case c2 => intro u hu; simp at hu; subst hu; rfl
        case c3 => unfold maxLen; omega
        case c4 => rw [Hz2.out]; omega
        case c5 => simp; omega
        case c6 => omega
        intro vl' w2 hown2 hgrow2 hwh2
        have G3 := PGrown.slot HG.out (by rw [List.map_map]; exact hown2) hgrow2 (by simpa using hwh2)
        obtain ⟨la', lc', rfl⟩ := owns_form hown2
        have hs2 := G3.ext.size
        have hf2 : w2.frozen? ⟨w.heap.size, 1, none⟩ = false := (row_past (OL.out.alloc _) hgrow2 (HG.out.head.alloc _) (by decide)).free 1
        have hc2 : w2.cell? ⟨w.heap.size, 1, none⟩ = some vl := (row_past (OL.out.alloc _) hgrow2 (HG.out.head.alloc _) (by decide)).cell 1
        have hc3 : (w2.setCell ⟨w.heap.size, 1, none⟩ (.slice la' (j + 1) lc')).cell? ⟨w.heap.size, 0, none⟩ = some vs := G3.head.cell 0
        have hf3 : (w2.setCell ⟨w.heap.size, 1, none⟩ (.slice la' (j + 1) lc')).frozen? ⟨w.heap.size, 0, none⟩ = false := G3.head.free 0
        have HG3 := Lib.hid G3
        have OS := Lib.hid G3.st
        simp only [World.size_setCell] at hs2
        clear G3 hown2 hgrow2 hwh2 HG OL hc0 hc1 hf0 hf1
        go_wp2_with (at_builtin; refine wpList_append_where rfl (.tmp 49) (.tmp 51) 39 rfl (w.heap.size + 1) 3 ii _ Try.underlying39 Hi.out Hz0.out Hz1.out rfl _ _ _ rfl (OS.out.alloc _) ⟨w2.heap.size, 0, none⟩ 1 1 [.int .i64 0] rfl rfl ?e1 ?e2 ?e3 ?e4 ?e5 ?e6 ?_)
        case e1 =>
          intro jj u hj
          have := cell_one_new (w2.setCell ⟨w.heap.size, 1, none⟩ (.slice la' (j + 1) lc')) (.int .i64 0) 3 jj u hj
          simpa using this
        case e2 => intro u hu; simp at hu; subst hu; rfl
        case e3 => unfold maxLen; omega
        case e4 => rw [Hz2.out]; omega
        case e5 => simp; omega
        case e6 => omega
        intro vs' w4 hown4 hgrow4 hwh4
        obtain ⟨sa', sc', rfl⟩ := owns_form hown4
        have G5 := PGrown.state (b' := j + 1) (c' := 0) HG3.out 0 (by simp [List.replicate_succ']) (by omega) (by simpa using hown4) (by simpa using hgrow4) (by simpa using hwh4)
        have hr5 := row_past (OS.out.alloc (.cells #[.int .i64 0] 3)) hgrow4 (HG3.out.head.alloc _) (by decide)
        have hf5 : w4.frozen? ⟨w.heap.size, 0, none⟩ = false := hr5.free 0
        have hc5 : w4.cell? ⟨w.heap.size, 0, none⟩ = some vs := hr5.cell 0
        have HG5 := Lib.hid G5
        clear G5 hown4 hgrow4 hwh4 hr5 OS hf2 hc2 hc3 hf3
        go_wp2_with fail
        go_roundw
        case rel => exact ⟨j + 1, _, _, by omega, by go_num, by rw [show min (j + 1) n = j + 1 by omega, show j + 1 - n = 0 by omega]; exact HG5.out⟩
        case measure => simp [intOf]; omega
      · rw [show min j n = n by omega] at G
        have HG := Lib.hid G
        have OS := Lib.hid G.st
        have hjd : decide (j < n) = false := decide_eq_false (by omega)
        clear G
        go_wp2_with (at_builtin; refine wpList_append_where rfl (.tmp 49) (.tmp 51) 39 rfl (w.heap.size + 1) 3 ii _ Try.underlying39 Hi.out Hz0.out Hz1.out rfl _ _ _ rfl (OS.out.alloc _) ⟨wr.heap.size, 0, none⟩ 1 1 [.int .i64 1] rfl rfl ?e1 ?e2 ?e3 ?e4 ?e5 ?e6 ?_)
        case e2 => rfl
        case e3 => unfold maxLen; omega
        case e4 => rw [Hz2.out]; omega
        intro vs' w4 hown4 hgrow4 hwh4
        obtain ⟨sa', sc', rfl⟩ := owns_form hown4
        have G5 := PGrown.state (b' := n) (c' := j - n + 1) HG.out 1 (by simp [List.replicate_succ', List.append_assoc]) (by omega) (by simpa using hown4) (by simpa using hgrow4) (by simpa using hwh4)
        have hr5 := row_past (OS.out.alloc (.cells #[.int .i64 1] 3)) hgrow4 (HG.out.head.alloc _) (by decide)
        have hf5 : w4.frozen? ⟨w.heap.size, 0, none⟩ = false := hr5.free 0
        have hc5 : w4.cell? ⟨w.heap.size, 0, none⟩ = some vs := hr5.cell 0
        have HG5 := Lib.hid G5
        clear G5 hown4 hgrow4 hwh4 hr5 OS hc0 hc1 hf0 hf1
        go_wp2_with fail
        go_roundw
        case rel => exact ⟨j + 1, _, _, by omega, by go_num, by rw [show min (j + 1) n = n by omega, show j + 1 - n = j - n + 1 by omega]; exact HG5.out⟩
        case measure => simp [intOf]; omega
    · rw [show min j n = n by omega, show j - n = spares by omega] at G
      have HG := Lib.hid G
      clear G
      go_wp2_with fail
      go_ret2
      exact ⟨_, _, rfl, HG.out⟩

/-- A new pool. -/
def PoolNew (n spares : Nat) (w : World) (e : Ending) (w' : World) : Prop :=
  ∃ P : PLay, e = .returned (.tuple #[.pointer (some ⟨P.p, 0, none⟩), .nilIface]) ∧ P.lo = w.heap.size ∧ IsPool w' P (List.replicate n 0 ++ List.replicate spares 1) ((List.range n).map (fun (i : Nat) => (i : Int))) ∧ Ext w w'
theorem pool_new (n spares : Nat) (w : World) (h1 : 2 ≤ n) (h2 : n ≤ 10) (h3 : spares ≤ 10) :
    Calls Try.prog 15 #[.int .i64 (n : Int), .int .i64 (spares : Int)] w (PoolNew n spares w) := by
  refine (pnew_ok n spares w (by omega) h2 h3).mono ?_
  rintro e w' ⟨vs, vl, rfl, G⟩
  obtain ⟨S, cS, rfl, hS, hs1, hs2, hs3⟩ := owns_pre G.st (by omega)
  obtain ⟨L, cL, rfl, hL, hl1, hl2, hl3⟩ := owns_pre G.sl (by omega)
  refine ⟨{ p := w.heap.size, S := S, L := L, cS := cS, cL := cL, lo := w.heap.size, hi := w'.heap.size }, rfl, rfl, ?_, G.ext⟩
  have e1 : (List.replicate n (0 : Int) ++ List.replicate spares 1).length = n + spares := by simp
  have e2 : ((List.range n).map (fun (i : Nat) => (i : Int))).length = n := by simp
  exact {
    head := by rw [e1, e2]; exact G.head
    st := hS
    sl := hL
    ne := by
      rcases G.ne with e | e | e
      · simp [Value.ownBlock] at e
      · simp [Value.ownBlock] at e
      · intro q
        exact e (congrArg (fun x => (Value.slice (some ⟨x, 0, none⟩) 0 0).ownBlock) q)
    capS := by rw [e1]; exact ⟨hs1, hs2⟩
    capL := by rw [e2]; exact ⟨hl1, hl2⟩
    lop := ⟨Nat.le_refl _, G.head.lt⟩
    loS := ⟨by show w.heap.size ≤ S; omega, hS.lt⟩
    loL := ⟨by show w.heap.size ≤ L; omega, hL.lt⟩
    hiw := Nat.le_refl _ }

end Go.Proofs.Ytmgppnceddnlmaa
