/- Contracts of package pool, and of what it calls of slices. -/
import Derived.Test.YtmgppnceddnlmaaPoolS
import Derived.Test.YtmgppnceddnlmaaUtil
namespace Go.Proofs.Ytmgppnceddnlmaa
open Go.RowKit

set_option maxRecDepth 100000 in
theorem index_any (a : Option Addr) (n cap : Nat) (l : List Int) (v : Int) (w : World) (h : Sl w NumI a n cap l) :
    Calls Try.prog 47 #[.slice a n cap, .int .i64 v] w fun e w' => (∃ r, e = .returned (.int .i64 r) ∧ IdxIs l v r) ∧ w = w' := by
  have hl := h.len
  have hb := h.bound
  go_enter Try.func47, Try.ntmps47
  go_wp2_with fail
  go_loop [8] (fun i => ∃ k : Nat, k ≤ n ∧ i = .int .i64 k ∧ Hid (∀ j, j < k → l[j]? ≠ some v)) (fun i => n - (intOf i).toNat)
  case atStart => exact ⟨0, by omega, rfl, Lib.hid fun j hj => absurd hj (Nat.not_lt_zero _)⟩
  case round =>
    obtain ⟨k, hk, rfl, HA⟩ := hrel
    by_cases hlt : (k : Int) < (n : Int)
    · obtain ⟨g, off, x, rfl, hx, hc⟩ := h.get (i := k) (by omega)
      by_cases hv : v = x
      · have hb1 : (v == x) = true := by simpa using hv
        have HX : Hid (IdxIs l v (k : Int)) := Lib.hid (.inr ⟨k, rfl, by rw [hx, hv], HA.out⟩)
        clear hx hv
        go_wp2_with fail
        go_ret
        exact ⟨⟨_, rfl, HX.out⟩, rfl⟩
      · have hb1 : (v == x) = false := by simpa using hv
        have HX : Hid (∀ j, j < k + 1 → l[j]? ≠ some v) := Lib.hid fun j hj => by
          by_cases e : j = k
          · rw [e, hx]
            intro q
            exact hv (Option.some.inj q).symm
          · exact HA.out j (by omega)
        clear hx hv
        go_wp2_with fail
        go_round
        case rel => exact ⟨k + 1, by omega, by go_num, HX⟩
        case measure => simp [intOf]; omega
    · have HX : Hid (IdxIs l v (-1)) := Lib.hid (.inl ⟨rfl, fun j => by
        by_cases hj : j < k
        · exact HA.out j hj
        · rw [List.getElem?_eq_none (by omega)]
          intro q
          cases q⟩)
      clear hl
      go_wp2_with fail
      go_ret
      exact ⟨⟨_, rfl, HX.out⟩, rfl⟩

set_option maxHeartbeats 400000 in
set_option maxRecDepth 100000 in
theorem clone_ints (a : Option Addr) (n cap : Nat) (l : List Int) (w : World) (h : Sl w NumI a n cap l) (hn : 0 < n) (hb : n ≤ 1048576) :
    Calls Try.prog 45 #[.slice a n cap] w (CloneOf w 3 n (l.map NumI)) := by
  obtain ⟨g, off, rfl, hc⟩ := h.cells hn
  obtain ⟨i, hi, hz0, hz1, hz2⟩ := info_parts Try.infoInt
  have HC := Lib.hid hc
  have HL := Lib.hid h.len
  have Hi := Lib.hid hi
  have Hz0 := Lib.hid hz0
  have Hz1 := Lib.hid hz1
  have Hz2 := Lib.hid hz2
  clear hc hi hz0 hz1 hz2
  have hq := fun wx => Lib.run_eql_slice_nil (P := Try.prog) wx 39 3 (some ⟨g, off, none⟩) n cap 0 0 Try.underlying39
  go_enter Try.func45, Try.ntmps45
  have hown : (w.alloc (.cells #[] 3)).ownsRow w.heap.size 3 1 (.slice (some ⟨w.heap.size, 0, none⟩) 0 0) 0 [] := World.ownsRow_made w #[] 0 (Nat.le_refl _) (Nat.zero_le _) rfl
  have HO := Lib.hid hown
  clear hown
  go_wp2_with (at_builtin; refine wpList_append_own _ rfl (.tmp 5) (.tmp 6) 39 rfl w.heap.size 3 i _ 1 8 Try.underlying39 Hi.out Hz0.out Hz1.out Hz2.out rfl (by decide) _ 0 [] rfl HO.out ⟨g, off, none⟩ n cap (l.map NumI) rfl ?c0 ?c1 ?c2 ?c3 ?c4 ?c5 ?_)
  case c0 => rw [List.length_map, HL.out, Nat.mul_one]
  case c1 =>
    intro j u hj
    rw [List.getElem?_map] at hj
    obtain ⟨x, hx, rfl⟩ := Option.map_eq_some_iff.1 hj
    rw [add_lit]
    exact (World.cell?_alloc_lt w _ _ (World.block_lt_of_cell? w _ (HC.out j x hx))).trans (HC.out j x hx)
  case c2 =>
    intro u hu
    obtain ⟨x, _, rfl⟩ := List.mem_map.1 hu
    rfl
  case c3 => unfold maxLen; omega
  case c4 => omega
  case c5 => simp
  intro v w2 hown hgrow _
  have HO2 := Lib.hid hown
  clear hown
  go_wp2_with fail
  go_ret
  exact clone_post HO2.out hn ((Below.refl _ _).alloc (Nat.le_refl _) _) hgrow (by simp)

/-- Where a pool lies. -/
structure PLay where
  p : Nat
  S : Nat
  L : Nat
  cS : Nat
  cL : Nat
  lo : Nat
  hi : Nat
structure IsPool (w : World) (P : PLay) (states slots : List Int) : Prop where
  head : Row w P.p 88 #[.slice (some ⟨P.S, 0, none⟩) states.length P.cS, .slice (some ⟨P.L, 0, none⟩) slots.length P.cL]
  st : Pre w P.S 3 (states.map NumI)
  sl : Pre w P.L 3 (slots.map NumI)
  ne : P.S ≠ P.L
  capS : states.length ≤ P.cS ∧ P.cS ≤ maxLen
  capL : slots.length ≤ P.cL ∧ P.cL ≤ maxLen
  lop : P.lo ≤ P.p ∧ P.p < P.hi
  loS : P.lo ≤ P.S ∧ P.S < P.hi
  loL : P.lo ≤ P.L ∧ P.L < P.hi
  hiw : P.hi ≤ w.heap.size

namespace IsPool
variable {w w' : World} {P : PLay} {states slots : List Int}
theorem carry (h : IsPool w P states slots) (hs : w.heap.size ≤ w'.heap.size) (hk : ∀ b, P.lo ≤ b → b < P.hi → w'.heap[b]? = w.heap[b]?) : IsPool w' P states slots :=
  { h with
    head := (hk _ h.lop.1 h.lop.2).trans h.head
    st := let ⟨c, r⟩ := h.st; ⟨c, (hk _ h.loS.1 h.loS.2).trans r⟩
    sl := let ⟨c, r⟩ := h.sl; ⟨c, (hk _ h.loL.1 h.loL.2).trans r⟩
    hiw := Nat.le_trans h.hiw hs }
theorem ext (h : IsPool w P states slots) (x : Ext w w') : IsPool w' P states slots := h.carry x.size fun b _ hb => x.block b (Nat.lt_of_lt_of_le hb h.hiw)
theorem keep {lo hi : Nat} (h : IsPool w P states slots) (x : Keep lo hi w w') (hd : hi ≤ P.lo ∨ P.hi ≤ lo) : IsPool w' P states slots :=
  h.carry x.size fun b h1 h2 => x.block b (Nat.lt_of_lt_of_le h2 h.hiw) (by omega)
theorem c0 (h : IsPool w P states slots) : w.cell? ⟨P.p, 0, none⟩ = some (.slice (some ⟨P.S, 0, none⟩) states.length P.cS) := by rw [h.head.cell]; rfl
theorem c1 (h : IsPool w P states slots) : w.cell? ⟨P.p, 1, none⟩ = some (.slice (some ⟨P.L, 0, none⟩) slots.length P.cL) := by rw [h.head.cell]; rfl
theorem slS (h : IsPool w P states slots) : Sl w NumI (some ⟨P.S, 0, none⟩) states.length P.cS states := h.st.sl rfl h.capS.1 h.capS.2
theorem slL (h : IsPool w P states slots) : Sl w NumI (some ⟨P.L, 0, none⟩) slots.length P.cL slots := h.sl.sl rfl h.capL.1 h.capL.2
theorem pS (h : IsPool w P states slots) : P.p ≠ P.S := by
  obtain ⟨c, r⟩ := h.st
  exact h.head.ne r (by decide)
theorem pL (h : IsPool w P states slots) : P.p ≠ P.L := by
  obtain ⟨c, r⟩ := h.sl
  exact h.head.ne r (by decide)
/-- A state is set. -/
theorem setS (h : IsPool w P states slots) (i : Nat) (hi : i < states.length) (z : Int) : IsPool (w.setCell ⟨P.S, i, none⟩ (NumI z)) P (states.set i z) slots :=
  { h with
    head := by rw [List.length_set]; exact h.head.set_ne _ h.pS _
    st := by rw [List.map_set]; exact h.st.set i (by simpa using hi) _
    sl := h.sl.set_ne _ (Ne.symm h.ne) _
    capS := by rw [List.length_set]; exact h.capS
    hiw := by simpa using h.hiw }
theorem setL (h : IsPool w P states slots) (i : Nat) (hi : i < slots.length) (z : Int) : IsPool (w.setCell ⟨P.L, i, none⟩ (NumI z)) P states (slots.set i z) :=
  { h with
    head := by rw [List.length_set]; exact h.head.set_ne _ h.pL _
    st := h.st.set_ne _ h.ne _
    sl := by rw [List.map_set]; exact h.sl.set i (by simpa using hi) _
    capL := by rw [List.length_set]; exact h.capL
    hiw := by simpa using h.hiw }
end IsPool

/-- What a call leaves that turns a pool. -/
def PoolMoved (P : PLay) (states slots : List Int) (v : Value) (w : World) (e : Ending) (w' : World) : Prop := e = .returned v ∧ IsPool w' P states slots ∧ Keep P.lo P.hi w w'

section
variable (P : PLay) (states slots : List Int) (w : World)
set_option maxRecDepth 100000 in
theorem ready_works (d : Nat) (h : IsPool w P states slots) (hd : states[d]? = some 0) :
    Calls Try.prog 46 #[.pointer (some ⟨P.p, 0, none⟩), .int .i64 (d : Int), .int .i64 2, .bool false] w fun e w' => e = .returned .nilIface ∧ w = w' := by
  have hdl : d < states.length := (List.getElem?_eq_some_iff.1 hd).1
  have hdI : (d : Int) < (states.length : Int) := by omega
  have c := h.c0
  have cd : w.cell? ⟨P.S, d, none⟩ = some (.int .i64 0) := h.st.cell (by rw [List.getElem?_map, hd]; rfl)
  have h0 : decide ((d : Int) < 0) = false := by simp
  have h1 : decide ((states.length : Int) ≤ (d : Int)) = false := by simp; omega
  have h2 : decide (states.length ≤ d) = false := decide_eq_false (by omega)
  clear hd
  go_enter Try.func46, Try.ntmps46
  go_wp2_with fail
  go_ret
  exact ⟨rfl, rfl⟩
set_option maxRecDepth 100000 in
theorem ready_filling (d : Nat) (h : IsPool w P states slots) (hd : states[d]? = some 3) :
    Calls Try.prog 46 #[.pointer (some ⟨P.p, 0, none⟩), .int .i64 (d : Int), .int .i64 3, .bool true] w fun e w' => e = .returned .nilIface ∧ w = w' := by
  have hdl : d < states.length := (List.getElem?_eq_some_iff.1 hd).1
  have hdI : (d : Int) < (states.length : Int) := by omega
  have c := h.c0
  have cd : w.cell? ⟨P.S, d, none⟩ = some (.int .i64 3) := h.st.cell (by rw [List.getElem?_map, hd]; rfl)
  have h0 : decide ((d : Int) < 0) = false := by simp
  have h1 : decide ((states.length : Int) ≤ (d : Int)) = false := by simp; omega
  have h2 : decide (states.length ≤ d) = false := decide_eq_false (by omega)
  clear hd
  go_enter Try.func46, Try.ntmps46
  go_wp2_with fail
  go_ret
  exact ⟨rfl, rfl⟩

set_option maxRecDepth 100000 in
theorem pfill_any (d : Nat) (h : IsPool w P states slots) (hd : states[d]? = some 3) :
    Calls Try.prog 23 #[.pointer (some ⟨P.p, 0, none⟩), .int .i64 (d : Int)] w (PoolMoved P (states.set d 0) slots .nilIface w) := by
  have hdl : d < states.length := (List.getElem?_eq_some_iff.1 hd).1
  have hdI : (d : Int) < (states.length : Int) := by omega
  have c := h.c0
  have cd : w.cell? ⟨P.S, d, none⟩ = some (.int .i64 3) := h.st.cell (by rw [List.getElem?_map, hd]; rfl)
  have cf := h.st.free d
  have HR := Lib.hid (ready_filling P states slots w d h hd)
  have HS := Lib.hid (h.setS d hdl 0)
  have HK := Lib.hid (Keep.setCell (lo := P.lo) (hi := P.hi) w (a := ⟨P.S, d, none⟩) (NumI 0) h.loS.1 h.loS.2)
  clear hd
  go_enter Try.func23, Try.ntmps23
  go_wp2_with fail
  refine HR.out.mono ?_
  rintro e w' ⟨rfl, rfl⟩
  go_wp2_with fail
  go_ret
  exact ⟨rfl, HS.out, HK.out⟩

set_option maxHeartbeats 1000000 in
set_option maxRecDepth 100000 in
theorem pfail_any (d s : Nat) (h : IsPool w P states slots) (hd : states[d]? = some 0) (hs : ∀ r, IdxIs slots d r → r = (s : Int)) (hsl : s < slots.length) :
    Calls Try.prog 19 #[.pointer (some ⟨P.p, 0, none⟩), .int .i64 (d : Int)] w fun e w' =>
      (∃ r, IdxIs (states.set d 2) 1 r ∧ PoolMoved P (if r < 0 then states.set d 2 else (states.set d 2).set r.toNat 3) (slots.set s r) (.tuple #[.int .i64 r, .nilIface]) w e w') := by
  have hdl : d < states.length := (List.getElem?_eq_some_iff.1 hd).1
  have hdI : (d : Int) < (states.length : Int) := by omega
  have c := h.c0
  have cd : w.cell? ⟨P.S, d, none⟩ = some (.int .i64 0) := h.st.cell (by rw [List.getElem?_map, hd]; rfl)
  have cf := h.st.free d
  have HR := Lib.hid (ready_works P states slots w d h hd)
  have h2 := h.setS d hdl 2
  have K2 := Keep.setCell (lo := P.lo) (hi := P.hi) w (a := ⟨P.S, d, none⟩) (NumI 2) h.loS.1 h.loS.2
  have c0' := h2.c0
  have c1' := h2.c1
  have hS := h2.slS
  rw [List.length_set] at c0' hS
  have HI1 := Lib.hid (index_any _ _ _ slots d _ h2.slL)
  have HI2 := Lib.hid (index_any _ _ _ (states.set d 2) 1 _ hS)
  have HS := Lib.hid hs
  have hslI : (s : Int) < (slots.length : Int) := by omega
  have hs0 : decide ((s : Int) < 0) = false := by simp
  have cL : (w.setCell ⟨P.S, d, none⟩ (NumI 2)).cell? ⟨P.L, s, none⟩ = some (NumI slots[s]) := h2.sl.cell (by rw [List.getElem?_map, List.getElem?_eq_getElem hsl]; rfl)
  have fL := h2.sl.free s
  clear hd hS hs
  go_enter Try.func19, Try.ntmps19
  go_wp2_with fail
  refine HR.out.mono ?_
  rintro e w' ⟨rfl, rfl⟩
  go_wp2_with fail
  refine HI1.out.mono ?_
  rintro e w' ⟨⟨r, rfl, hr⟩, rfl⟩
  have hrs := HS.out r hr
  subst hrs
  clear hr
  go_wp2_with fail
  refine HI2.out.mono ?_
  rintro e w' ⟨⟨r, rfl, hr⟩, rfl⟩
  have HR2 := Lib.hid hr
  rcases hr with ⟨rfl, _⟩ | ⟨k, rfl, hk, _⟩
  · have h3 := h2.setL s hsl (-1)
    have K3 := K2.trans (Keep.setCell (lo := P.lo) (hi := P.hi) (w.setCell ⟨P.S, d, none⟩ (NumI 2)) (a := ⟨P.L, s, none⟩) (NumI (-1)) h.loL.1 h.loL.2)
    have H3 := Lib.hid h3
    have HK3 := Lib.hid K3
    clear h3 K3
    go_wp2_with fail
    refine bodyPost_ret (v := .tuple #[.int .i64 (-1), .nilIface]) (by simp [results, Try.results19, go_sem]) rfl ?_
    exact ⟨-1, HR2.out, rfl, H3.out, HK3.out⟩
  · have hkl : k < states.length := by
      have := (List.getElem?_eq_some_iff.1 hk).1
      simpa using this
    have hkI : (k : Int) < (states.length : Int) := by omega
    have h3 := h2.setL s hsl (k : Int)
    have K3 := K2.trans (Keep.setCell (lo := P.lo) (hi := P.hi) (w.setCell ⟨P.S, d, none⟩ (NumI 2)) (a := ⟨P.L, s, none⟩) (NumI (k : Int)) h.loL.1 h.loL.2)
    have c3 := h3.c0
    rw [List.length_set] at c3
    have ck : ((w.setCell ⟨P.S, d, none⟩ (NumI 2)).setCell ⟨P.L, s, none⟩ (NumI (k : Int))).cell? ⟨P.S, k, none⟩ = some (NumI 1) := h3.st.cell (by rw [List.getElem?_map, hk]; rfl)
    have fk := h3.st.free k
    have h4 := h3.setS k (by rw [List.length_set]; exact hkl) 3
    have K4 := K3.trans (Keep.setCell (lo := P.lo) (hi := P.hi) _ (a := ⟨P.S, k, none⟩) (NumI 3) h.loS.1 h.loS.2)
    have hk0 : decide ((0 : Int) ≤ (k : Int)) = true := by simp
    have H4 := Lib.hid h4
    have HK4 := Lib.hid K4
    clear h3 h4 K3 K4 hk
    go_wp2_with fail
    refine bodyPost_ret (v := .tuple #[.int .i64 (k : Int), .nilIface]) (by simp [results, Try.results19, go_sem]) rfl ?_
    refine ⟨(k : Int), HR2.out, rfl, ?_, HK4.out⟩
    rw [if_neg (by omega), Int.toNat_natCast]
    exact H4.out
end

end Go.Proofs.Ytmgppnceddnlmaa
