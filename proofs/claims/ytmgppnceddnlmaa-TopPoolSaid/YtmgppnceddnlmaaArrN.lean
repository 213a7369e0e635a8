/- Contract of array.New. -/
import Derived.Test.YtmgppnceddnlmaaArrU
namespace Go.Proofs.Ytmgppnceddnlmaa
open Go.RowKit

theorem Try.infoMember : (Try.prog.info? 84).map (fun i => (i.zero, i.size, i.bytes)) = some (some (.pointer none), 1, 8) := by kernel_rfl

theorem new_ok (n rows size : Nat) (h1 : 3 ≤ n) (h2 : n ≤ 10) (h3 : 1 ≤ rows) (h4 : rows ≤ 20) (h5 : 1 ≤ size) (h6 : size ≤ 16) : (St.new n rows size).Ok :=
  ⟨h1, h2, h3, h4, h5, h6, fun _ => Nat.le_refl _, fun _ _ _ _ _ => zeros_length _⟩

/-- What stands of a new array when so many of its disks are there. -/
structure Grown (w wr : World) (rows size : Nat) (v : Value) (j : Nat) (m k : Nat → Nat) : Prop where
  head : Row wr w.heap.size 80 #[v, Num rows, Num size]
  own : wr.ownsRow (w.heap.size + 1) 84 1 v j (((List.range j).map m).map Ptr)
  mem : ∀ d, d < j → Row wr (m d) 86 #[Ptr (k d), Num rows]
  mlo : ∀ d, d < j → w.heap.size ≤ m d
  klo : ∀ d, d < j → w.heap.size ≤ k d
  disk : ∀ d, d < j → ∃ x, IsDisk wr (k d) { newDisk rows size with wr := x }
  minj : ∀ d d', d < j → d' < j → m d = m d' → d = d'
  kinj : ∀ d d', d < j → d' < j → k d = k d' → d = d'
  ext : Ext w wr

def upd (m : Nat → Nat) (j x : Nat) : Nat → Nat := fun d => if d = j then x else m d
theorem upd_lt {m : Nat → Nat} {j x d : Nat} (h : d < j) : upd m j x d = m d := if_neg (by omega)
theorem upd_eq {m : Nat → Nat} {j x : Nat} : upd m j x j = x := if_pos rfl

/-- What New hands back. -/
def NewRet (w : World) (s : St) (e : Ending) (w' : World) : Prop :=
  ∃ A : Lay, e = .returned (.tuple #[Ptr A.p, .nilIface]) ∧ A.lo = w.heap.size ∧ IsArr w' A s ∧ Ext w w'

theorem Grown.arr {w wr : World} {n rows size : Nat} {v : Value} {m k : Nat → Nat} (h : Grown w wr rows size v n m k) (hok : (St.new n rows size).Ok) :
    ∃ A : Lay, A.p = w.heap.size ∧ A.lo = w.heap.size ∧ IsArr wr A (St.new n rows size) := by
  have hn := hok.n3
  have hn : 3 ≤ n := hn
  obtain ⟨a, cap, rfl, hs⟩ := sl_of_owns h.own
  obtain ⟨g, off, rfl, _⟩ := hs.cells (by omega)
  have hg0 : off = 0 ∧ w.heap.size + 1 ≤ g := by
    rcases h.own.2 with ⟨h0, _⟩ | ⟨g', c', cu, h0, hb, _⟩
    · cases h0
    · simp at h0
      exact ⟨h0.1.2, h0.1.1 ▸ hb⟩
  obtain ⟨rfl, hgb⟩ := hg0
  have hp := Pre.of_owns h.own
  refine ⟨{ p := w.heap.size, L := g, cap := cap, lo := w.heap.size, hi := wr.heap.size, m := m, k := k }, rfl, rfl, ?_⟩
  exact {
    plo := Nat.le_refl _
    phi := h.head.lt
    Llo := by show w.heap.size ≤ g; omega
    Lhi := hp.lt
    hiw := Nat.le_refl _
    head := h.head
    ncap := hs.le
    capm := hs.max
    list := by rw [List.map_map] at hp; exact hp
    mem := h.mem
    mlo := fun d hd => ⟨h.mlo d hd, (h.mem d hd).lt⟩
    klo := fun d hd => ⟨h.klo d hd, by obtain ⟨x, r⟩ := h.disk d hd; exact r.lt⟩
    disk := fun d hd => by
      obtain ⟨x, r⟩ := h.disk d hd
      refine ⟨_, r, rfl, rfl, rfl, fun q hq _ => ?_⟩
      show (if q < rows then zeros size else []) = zeros size
      exact if_pos hq
    minj := h.minj
    kinj := h.kinj
    ok := hok }

theorem row_past {w w' : World} {base E n : Nat} {v : Value} {xs : List Value} (ho : w.ownsRow base E 1 v n xs) (hg : w.grownBy w' v.ownBlock) {g e : Nat} {ys : Array Value} (r : Row w g e ys) (hne : e ≠ E) : Row w' g e ys := by
  refine (hg.block g r.lt fun x => ?_).trans r
  rcases ho.2 with ⟨rfl, _⟩ | ⟨g', cap, cur, rfl, _, hr, _⟩
  · cases x
  · simp [Value.ownBlock] at x
    subst x
    unfold Row at r
    rw [r] at hr
    simp at hr
    exact hne hr.2

/-- One more disk. -/
theorem Grown.step {w wr w2 w3 : World} {rows size j : Nat} {v v' : Value} {m k : Nat → Nat} {x : Int} (G : Grown w wr rows size v j m k) (X2 : Ext wr w2)
    (hdk : IsDisk w2 wr.heap.size { newDisk rows size with wr := x }) (C : Array Value)
    (hown : w3.ownsRow (w.heap.size + 1) 84 1 v' (j + 1) (((List.range j).map m).map Ptr ++ [Ptr w2.heap.size]))
    (hO : ((w2.alloc (.cells #[Ptr wr.heap.size, Num rows] 86)).alloc (.cells C 84)).ownsRow (w.heap.size + 1) 84 1 v j (((List.range j).map m).map Ptr))
    (hg : ((w2.alloc (.cells #[Ptr wr.heap.size, Num rows] 86)).alloc (.cells C 84)).grownBy w3 v.ownBlock) :
    Grown w (w3.setCell ⟨w.heap.size, 0, none⟩ v') rows size v' (j + 1) (upd m j w2.heap.size) (upd k j wr.heap.size) := by
  have hsz := G.ext.size
  have hplt := G.head.lt
  have hs2 := X2.size
  have past : ∀ {g e : Nat} {ys : Array Value}, Row w2 g e ys → e ≠ 84 → Row w3 g e ys := fun r hne => row_past hO hg ((r.alloc _).alloc _) hne
  have past2 : ∀ {g e : Nat} {ys : Array Value}, Row w2 g e ys → e ≠ 84 → g ≠ w.heap.size → Row (w3.setCell ⟨w.heap.size, 0, none⟩ v') g e ys := fun r hne hp => (past r hne).set_ne _ hp _
  have hbel : Below w.heap.size w w3 := (((G.ext.trans X2).alloc (by simpa using Nat.le_trans hsz hs2) _).alloc (by simp; omega) _).grown hg (by simp; omega) (fun q hq => by have := (hO.lt q hq).1; omega)
  exact {
    head := (past (G.head.ext X2) (by decide)).set 0 v'
    own := by
      refine World.ownsRow.kept (h := ?kpA) (hg := grownBy_setCell w3 ⟨w.heap.size, 0, none⟩ v') (hne := ?kpB)
      case kpA =>
        rw [List.range_succ, List.map_append, List.map_append]
        have e1 : (List.range j).map (upd m j w2.heap.size) = (List.range j).map m := List.map_congr_left fun d hd => upd_lt (by simpa using hd)
        rw [e1]
        simpa [upd_eq] using hown
      case kpB =>
        refine .inr fun e => ?_
        have := (hown.lt _ e).1
        simp only at this
        omega
    mem := fun d hd => by
      by_cases e : d = j
      · subst e
        rw [upd_eq, upd_eq]
        refine (row_past hO hg ((Row.new w2 _ _).alloc _) (by decide)).set_ne _ ?_ _
        show w2.heap.size ≠ w.heap.size
        omega
      · rw [upd_lt (by omega), upd_lt (by omega)]
        have r := G.mem d (by omega)
        exact past2 (r.ext X2) (by decide) (fun e => G.head.ne r (by decide) e.symm)
    mlo := fun d hd => by
      by_cases e : d = j
      · subst e; rw [upd_eq]; omega
      · rw [upd_lt (by omega)]; exact G.mlo d (by omega)
    klo := fun d hd => by
      by_cases e : d = j
      · subst e; rw [upd_eq]; omega
      · rw [upd_lt (by omega)]; exact G.klo d (by omega)
    disk := fun d hd => by
      by_cases e : d = j
      · subst e
        rw [upd_eq]
        exact ⟨x, past2 hdk (by decide) (by omega)⟩
      · rw [upd_lt (by omega)]
        obtain ⟨y, r⟩ := G.disk d (by omega)
        exact ⟨y, past2 (r.ext X2) (by decide) (fun e => G.head.ne r (by decide) e.symm)⟩
    minj := fun d d' hd hd' e => by
      by_cases e1 : d = j
      · by_cases e2 : d' = j
        · omega
        · rw [e1, upd_eq, upd_lt (by omega)] at e
          have := (G.mem d' (by omega)).lt
          omega
      · by_cases e2 : d' = j
        · rw [e2, upd_eq, upd_lt (by omega)] at e
          have := (G.mem d (by omega)).lt
          omega
        · rw [upd_lt (by omega), upd_lt (by omega)] at e
          exact G.minj d d' (by omega) (by omega) e
    kinj := fun d d' hd hd' e => by
      by_cases e1 : d = j
      · by_cases e2 : d' = j
        · omega
        · rw [e1, upd_eq, upd_lt (by omega)] at e
          obtain ⟨y, r⟩ := G.disk d' (by omega)
          have := r.lt
          omega
      · by_cases e2 : d' = j
        · rw [e2, upd_eq, upd_lt (by omega)] at e
          obtain ⟨y, r⟩ := G.disk d (by omega)
          have := r.lt
          omega
        · rw [upd_lt (by omega), upd_lt (by omega)] at e
          exact G.kinj d d' (by omega) (by omega) e
    ext := hbel.setCell (Nat.le_refl _) _ }

set_option maxHeartbeats 2000000 in
set_option maxRecDepth 100000 in
theorem New_ok (n rows size : Nat) (w : World) (h1 : 3 ≤ n) (h2 : n ≤ 10) (h3 : 1 ≤ rows) (h4 : rows ≤ 20) (h5 : 1 ≤ size) (h6 : size ≤ 16) :
    Calls Try.prog 14 #[.int .i64 (n : Int), .int .i64 (rows : Int), .int .i64 (size : Int)] w (NewRet w (St.new n rows size)) := by
  obtain ⟨ii, hi0, hz0, hz1, hz2⟩ := info_parts Try.infoMember
  have Hi := Lib.hid hi0
  have Hz0 := Lib.hid hz0
  have Hz1 := Lib.hid hz1
  have Hz2 := Lib.hid hz2
  have HN := Lib.hid (fun wx => dnew_ok rows size wx h3 h4 h5 h6)
  clear hi0 hz0 hz1 hz2
  go_enter Try.func14, Try.ntmps14
  go_wp2_with fail
  refine (check_yes _ _ (by omega) (by omega)).mono ?_
  rintro e w' ⟨rfl, rfl⟩
  go_wp2_with fail
  go_loopw [22] (fun ix wr => ∃ (j : Nat) (v : Value) (m k : Nat → Nat), j ≤ n ∧ ix = .int .i64 j ∧ Grown w wr rows size v j m k) (fun ix _ => n - (intOf ix).toNat)
  case atStart =>
    refine ⟨0, .slice none 0 0, fun _ => 0, fun _ => 0, by omega, rfl, ?_⟩
    exact ⟨Row.new _ _ _, World.ownsRow_nil _ _ _ _, fun _ h => absurd h (Nat.not_lt_zero _), fun _ h => absurd h (Nat.not_lt_zero _), fun _ h => absurd h (Nat.not_lt_zero _),
      fun _ h => absurd h (Nat.not_lt_zero _), fun _ _ h => absurd h (Nat.not_lt_zero _), fun _ _ h => absurd h (Nat.not_lt_zero _), (Below.refl _ _).alloc (Nat.le_refl _) _⟩
  case round =>
    obtain ⟨j, v, m, k, hj, rfl, G⟩ := hrel
    have HG := Lib.hid G
    by_cases hlt : (j : Int) < (n : Int)
    · have hsz := G.ext.size
      have hplt := G.head.lt
      clear G
      go_wp2_with fail
      refine (HN.out wr).mono ?_
      rintro e w2 ⟨rfl, hdk, X2⟩
      have hs2 := X2.size
      have hR2 := HG.out.head.ext X2
      have r0 : w2.cell? ⟨w.heap.size, 0, none⟩ = some v := hR2.cell 0
      have f0 := hR2.free 0
      have HO : Hid (w2.ownsRow (w.heap.size + 1) 84 1 v j (((List.range j).map m).map Ptr)) := by
        refine Lib.hid (World.ownsRow.kept (h := HG.out.own) (hg := grownBy_ext X2 none) (hne := ?_))
        cases v with
        | slice a _ _ => cases a with
          | none => exact .inl rfl
          | some a => exact .inr (by simp [Value.ownBlock])
        | _ => exact .inl rfl
      go_wp2_with (at_builtin; refine wpList_append_own _ rfl (.tmp 37) (.tmp 42) 78 rfl (w.heap.size + 1) 84 ii _ 1 8 Try.underlying78 Hi.out Hz0.out Hz1.out Hz2.out rfl (by decide) _ _ _ rfl ((HO.out.alloc _).alloc _) ⟨w2.heap.size + 1, 0, none⟩ 1 1 [Ptr w2.heap.size] rfl rfl ?c1 ?c2 ?c3 ?c4 ?c5 ?_)
      case c1 =>
        have e1 := cell_one_new (w2.alloc (.cells #[Ptr wr.heap.size, Num rows] 86)) (Ptr w2.heap.size) 84
        simp only [World.size_alloc] at e1
        exact e1
      case c2 => intro u hu; simp at hu; subst hu; rfl
      case c3 => unfold maxLen; omega
      case c4 => omega
      case c5 => simp; omega
      intro v' w3 hown hgrow hv0
      obtain ⟨a', c', rfl⟩ : ∃ a c, v' = .slice a (j + 1) c := by
        rcases hown.2 with ⟨rfl, _⟩ | ⟨g', c', cu, rfl, _⟩
        · exact absurd rfl hv0
        · exact ⟨_, _, rfl⟩
      clear hv0
      obtain ⟨x, hdk⟩ := hdk
      have hG := HG.out.step X2 hdk _ (by rw [List.map_map]; exact hown) ((HO.out.alloc _).alloc _) hgrow
      have r3 : w3.cell? ⟨w.heap.size, 0, none⟩ = some v := by
        have := row_past ((HO.out.alloc _).alloc _) hgrow ((hR2.alloc _).alloc _) (by decide)
        exact this.cell 0
      have f3 : w3.frozen? ⟨w.heap.size, 0, none⟩ = false := by
        have := row_past ((HO.out.alloc _).alloc _) hgrow ((hR2.alloc _).alloc _) (by decide)
        exact this.free 0
      have HG4 := Lib.hid hG
      clear hown hgrow hG hdk
      go_wp2_with fail
      go_roundw
      case rel => exact ⟨j + 1, _, _, _, by omega, by go_num, HG4.out⟩
      case measure => simp [intOf]; omega
    · have hjn : j = n := by omega
      rw [hjn] at G
      obtain ⟨A, hp, hlo, hA⟩ := G.arr (new_ok n rows size h1 h2 h3 h4 h5 h6)
      have HA := Lib.hid hA
      have HX := Lib.hid G.ext
      clear G hA hjn HG
      go_wp2_with fail
      go_ret2
      exact ⟨A, by rw [hp]; rfl, hlo, HA.out, HX.out⟩

set_option maxRecDepth 100000 in
theorem New_no (n rows size : Int) (w : World) (h : n < 3 ∨ 10 < n ∨ rows < 1 ∨ 20 < rows ∨ size < 1 ∨ 16 < size) :
    Calls Try.prog 14 #[.int .i64 n, .int .i64 rows, .int .i64 size] w fun e w' => e = .returned (.tuple #[.pointer none, errV 1]) ∧ Ext w w' := by
  by_cases hn : n < 3 ∨ 10 < n
  · have HC := Lib.hid (check_no n w hn)
    rw [errV_pos 1 (by omega)] at HC
    clear h hn
    go_enter Try.func14, Try.ntmps14
    go_wp2_with fail
    refine HC.out.mono ?_
    rintro e w' ⟨rfl, rfl⟩
    go_wp2_with fail
    go_ret2
    exact ⟨rfl, Ext.refl _⟩
  · have HN := Lib.hid (fun wx => dnew_no rows size wx (by omega))
    rw [errV_pos 1 (by omega)] at HN
    have HC := Lib.hid (check_yes n w (by omega) (by omega))
    have hn0 : (0 : Int) < n := by omega
    clear h hn
    go_enter Try.func14, Try.ntmps14
    go_wp2_with fail
    refine HC.out.mono ?_
    rintro e w' ⟨rfl, rfl⟩
    go_wp2_with fail
    go_loopw [22] (fun ix wr => ix = .int .i64 0 ∧ Ext w wr) (fun _ _ => 0)
    case atStart => exact ⟨rfl, (Below.refl _ _).alloc (Nat.le_refl _) _⟩
    case round =>
      obtain ⟨rfl, X⟩ := hrel
      go_wp2_with fail
      refine (HN.out wr).mono ?_
      rintro e w' ⟨rfl, rfl⟩
      go_wp2_with fail
      go_ret2
      exact ⟨rfl, X⟩

end Go.Proofs.Ytmgppnceddnlmaa
