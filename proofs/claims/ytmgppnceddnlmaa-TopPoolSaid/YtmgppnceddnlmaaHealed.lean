/- Contract of pq.healed: in the slice's own block the data are healed. -/
import Derived.Test.YtmgppnceddnlmaaPq
import Derived.Deep.QuietTactic
import Derived.BigQuiet
import Derived.StillTailTactics
namespace Go.Proofs.Ytmgppnceddnlmaa
open Go.RowKit

/-- What healed leaves. -/
def HealedPost (g : Nat) (w : World) (l : List Blk) (e : Ending) (w' : World) : Prop :=
  e = .returned (.tuple #[]) ∧ Pre w' g 9 (l.map Str) ∧ w.grownBy w' (some g)

section
variable (g cap : Nat) (data rest : List Blk) (p q : Blk) (w : World) (n : Nat)

set_option maxHeartbeats 2000000 in
set_option maxRecDepth 100000 in
theorem healed_two (i k : Nat) (ga : Option Addr) (gc : Nat) (lp lq : Bool) (hP : Pre w g 9 ((data ++ rest).map Str)) (hg : Sl w Num ga 2 gc [i, k])
    (hcap : data.length ≤ cap) (hcm : cap ≤ maxLen) (hne : data ≠ []) (hu : Uni n data) (hn : n ≤ 1048576) (hpl : p.length = n) (hql : q.length = n) (hten : data.length ≤ 10) (hi : i < data.length) (hk : k < data.length) :
    Calls Try.prog 72 #[.slice (some ⟨g, 0, none⟩) data.length cap, .slice ga 2 gc, Str p, Str q, .bool lp, .bool lq] w
      (HealedPost g w (healedS data [i, k] p q lp lq ++ rest)) := by
  have HS : Sl w Str (some ⟨g, 0, none⟩) data.length cap data := hP.sl_left rfl hcap hcm
  have hsz : bsize data = n := hu.size hne
  have hpo : (pOf data).length = n := pOf_length hu hne
  have hqo : (qOf data).length = n := qOf_length hu hne
  have C1 := fun wx (h : Sl wx Str (some ⟨g, 0, none⟩) data.length cap data) => of_any _ _ _ data wx h (fun b hb => by rw [hu b hb, hsz]) (by omega) (by omega)
  have C2 := fun wx => plus_any (pOf data) p wx (by omega) (by omega)
  have C3 := fun wx => plus_any (qOf data) q wx (by omega) (by omega)
  have hdp : (bplus (pOf data) p).length = n := by rw [bplus_length, hpo]
  have hdq : (bplus (qOf data) q).length = n := by rw [bplus_length, hqo]
  have HF : Hid (healedS data [i, k] p q lp lq = (data.set i (btimes (bplus (btimes (bplus (pOf data) p) (gp 2 k)) (bplus (qOf data) q)) (gi (gp 2 i ^^^ gp 2 k)))).set k (bplus (bplus (pOf data) p) (btimes (bplus (btimes (bplus (pOf data) p) (gp 2 k)) (bplus (qOf data) q)) (gi (gp 2 i ^^^ gp 2 k))))) := Lib.hid rfl
  generalize hdp' : bplus (pOf data) p = dp at *
  generalize hdq' : bplus (qOf data) q = dq at *
  have C4 := fun wx => times_any dp (gp 2 k) wx (by omega)
  have C5 := fun wx => plus_any (btimes dp (gp 2 k)) dq wx (by rw [btimes_length]; omega) (by rw [btimes_length]; omega)
  have hbt : (bplus (btimes dp (gp 2 k)) dq).length = n := by rw [bplus_length, btimes_length, hdp]
  generalize bplus (btimes dp (gp 2 k)) dq = mid at *
  obtain ⟨c, hc⟩ : ∃ c, c = gp 2 i ^^^ gp 2 k := ⟨_, rfl⟩
  have hx : bits .xor .u8 ((gp 2 i).toNat : Int) ((gp 2 k).toNat : Int) = (c.toNat : Int) := by rw [hc]; exact xor_u8 _ _
  rw [← hc] at HF
  have C6 := fun wx => times_any mid (gi c) wx (by omega)
  have C7 := fun wx => plus_any dp (btimes mid (gi c)) wx (by rw [btimes_length]; omega) (by omega)
  generalize btimes mid (gi c) = x at *
  generalize bplus dp x = y at *
  obtain ⟨di, hdi⟩ : ∃ d, data[i]? = some d := ⟨_, List.getElem?_eq_getElem hi⟩
  obtain ⟨dk, hdk⟩ : ∃ d, data[k]? = some d := ⟨_, List.getElem?_eq_getElem hk⟩
  have hi' : (i : Int) < (data.length : Int) := by omega
  have hk' : (k : Int) < (data.length : Int) := by omega
  obtain ⟨gg, go, i', rfl, e0, c0⟩ := hg.get (i := 0) (by omega)
  obtain ⟨gg', go', k', e1, e2, c1⟩ := hg.get (i := 1) (by omega)
  simp only [Option.some.injEq, Addr.mk.injEq, and_true] at e1
  obtain ⟨rfl, rfl⟩ := e1
  simp only [List.getElem?_cons_zero, List.getElem?_cons_succ, Option.some.injEq] at e0 e2
  subst e0 e2
  rw [Nat.add_zero] at c0
  have HC1 := Lib.hid C1
  have HC2 := Lib.hid C2
  have HC3 := Lib.hid C3
  have HC4 := Lib.hid C4
  have HC5 := Lib.hid C5
  have HC6 := Lib.hid C6
  have HC7 := Lib.hid C7
  have Hdi := Lib.hid hdi
  have Hdk := Lib.hid hdk
  clear C1 C2 C3 C4 C5 C6 C7 hdi hdk hsz hpo hqo hdp hdq hdp' hdq' hbt hc hpl hql
  go_enter Try.func72, Try.ntmps72
  go_wp2_with fail
  refine (HC1.out _ HS).mono ?_
  rintro e w1 ⟨rfl, x1⟩
  go_wp2_with fail
  refine (HC2.out _).mono ?_
  rintro e w2 ⟨rfl, x2⟩
  go_wp2_with fail
  refine (HC3.out _).mono ?_
  rintro e w3 ⟨rfl, x3⟩
  have X := (x1.trans x2).trans x3
  have c0' := X.cell c0
  have c1' := X.cell c1
  go_wp2_with fail
  go_quiet (fail)
  go_wp2_with fail
  refine (power_any 2 i _ (by omega)).mono ?_
  rintro e w' ⟨rfl, rfl⟩
  go_wp2_with fail
  refine (power_any 2 k _ (by omega)).mono ?_
  rintro e w' ⟨rfl, rfl⟩
  go_wp2_with fail
  refine (HC4.out _).mono ?_
  rintro e w4 ⟨rfl, x4⟩
  go_wp2_with fail
  refine (HC5.out _).mono ?_
  rintro e w5 ⟨rfl, x5⟩
  go_wp2_with fail
  refine (inverse_any c _).mono ?_
  rintro e w' ⟨rfl, rfl⟩
  go_wp2_with fail
  refine (HC6.out _).mono ?_
  rintro e w6 ⟨rfl, x6⟩
  have P6 : Pre w6 g 9 ((data ++ rest).map Str) := ((((hP.ext X).ext (w' := w3.drewN nq) ⟨rfl, rfl, rfl, Nat.le_refl _, fun _ _ => rfl⟩).ext x4).ext x5).ext x6
  have c6 := P6.cell (i := i) (v := Str di) (by rw [List.getElem?_map, List.getElem?_append_left hi, Hdi.out]; rfl)
  have f6 := P6.free i
  go_wp2_with fail
  have P7 := P6.set i (by simp; omega) (Str x)
  refine (HC7.out _).mono ?_
  rintro e w7 ⟨rfl, x7⟩
  have P8 := P7.ext x7
  obtain ⟨v8, c8⟩ : ∃ v, w7.cell? ⟨g, k, none⟩ = some v := ⟨_, P8.cell (i := k) (List.getElem?_eq_getElem (by simp; omega))⟩
  have f8 := P8.free k
  have GB : w.grownBy w7 (some g) := by
    have g1 := grownBy_ext X (some g)
    have g2 : w3.grownBy (w3.drewN nq) (some g) := ⟨rfl, rfl, rfl, Nat.le_refl _, fun _ _ _ => rfl⟩
    have g3 := grownBy_ext ((x4.trans x5).trans x6) (some g)
    exact grownBy_trans (grownBy_trans (grownBy_trans (grownBy_trans g1 g2) g3) (grownBy_setCell w6 ⟨g, i, none⟩ (Str x))) (grownBy_ext x7 _)
  go_wp2_with fail
  go_end0
  refine ⟨rfl, ?_, grownBy_trans GB (grownBy_setCell w7 ⟨g, k, none⟩ (Str y))⟩
  have P9 := P8.set k (by simp; omega) (Str y)
  rw [HF.out]
  have e9 : ((((data ++ rest).map Str).set i (Str x)).set k (Str y)) = ((data.set i x).set k y ++ rest).map Str := by
    rw [← List.map_set, ← List.map_set, List.set_append_left _ _ hi, List.set_append_left _ _ (by simpa using hk)]
  rw [e9] at P9
  exact P9
set_option maxHeartbeats 2000000 in
set_option maxRecDepth 100000 in
theorem healed_one_p (i : Nat) (ga : Option Addr) (gc : Nat) (lq : Bool) (hP : Pre w g 9 ((data ++ rest).map Str)) (hg : Sl w Num ga 1 gc [i])
    (hcap : data.length ≤ cap) (hcm : cap ≤ maxLen) (hne : data ≠ []) (hu : Uni n data) (hn : n ≤ 1048576) (hpl : p.length = n) (hql : q.length = n) (hten : data.length ≤ 10) (hi : i < data.length) :
    Calls Try.prog 72 #[.slice (some ⟨g, 0, none⟩) data.length cap, .slice ga 1 gc, Str p, Str q, .bool false, .bool lq] w
      (HealedPost g w (healedS data [i] p q false lq ++ rest)) := by
  have HS : Sl w Str (some ⟨g, 0, none⟩) data.length cap data := hP.sl_left rfl hcap hcm
  have hsz : bsize data = n := hu.size hne
  have hpo : (pOf data).length = n := pOf_length hu hne
  have hqo : (qOf data).length = n := qOf_length hu hne
  have C1 := fun wx (h : Sl wx Str (some ⟨g, 0, none⟩) data.length cap data) => of_any _ _ _ data wx h (fun b hb => by rw [hu b hb, hsz]) (by omega) (by omega)
  have C2 := fun wx => plus_any (pOf data) p wx (by omega) (by omega)
  have C3 := fun wx => plus_any (qOf data) q wx (by omega) (by omega)
  have hdp : (bplus (pOf data) p).length = n := by rw [bplus_length, hpo]
  have hdq : (bplus (qOf data) q).length = n := by rw [bplus_length, hqo]
  have HF : Hid (healedS data [i] p q false lq = data.set i (bplus (pOf data) p)) := Lib.hid rfl
  generalize hdp' : bplus (pOf data) p = dp at *
  generalize hdq' : bplus (qOf data) q = dq at *
  obtain ⟨di, hdi⟩ : ∃ d, data[i]? = some d := ⟨_, List.getElem?_eq_getElem hi⟩
  have hi' : (i : Int) < (data.length : Int) := by omega
  obtain ⟨gg, go, i', rfl, e0, c0⟩ := hg.get (i := 0) (by omega)
  simp only [List.getElem?_cons_zero, Option.some.injEq] at e0
  subst e0
  rw [Nat.add_zero] at c0
  have HC1 := Lib.hid C1
  have HC2 := Lib.hid C2
  have HC3 := Lib.hid C3
  have Hdi := Lib.hid hdi
  clear C1 C2 C3 hdi hsz hpo hqo hdp hdq hdp' hdq' hpl hql
  go_enter Try.func72, Try.ntmps72
  go_wp2_with fail
  refine (HC1.out _ HS).mono ?_
  rintro e w1 ⟨rfl, x1⟩
  go_wp2_with fail
  refine (HC2.out _).mono ?_
  rintro e w2 ⟨rfl, x2⟩
  go_wp2_with fail
  refine (HC3.out _).mono ?_
  rintro e w3 ⟨rfl, x3⟩
  have X := (x1.trans x2).trans x3
  have c0' := X.cell c0
  have P3 := hP.ext X
  have c3 := P3.cell (i := i) (v := Str di) (by rw [List.getElem?_map, List.getElem?_append_left hi, Hdi.out]; rfl)
  have f3 := P3.free i
  go_wp2_with fail
  go_end0
  refine ⟨rfl, ?_, grownBy_trans (grownBy_ext X _) (grownBy_setCell w3 ⟨g, i, none⟩ (Str dp))⟩
  have P4 := P3.set i (by simp; omega) (Str dp)
  rw [← List.map_set, List.set_append_left _ _ hi] at P4
  rw [HF.out]
  exact P4

set_option maxHeartbeats 2000000 in
set_option maxRecDepth 100000 in
theorem healed_one_q (i : Nat) (ga : Option Addr) (gc : Nat) (hP : Pre w g 9 ((data ++ rest).map Str)) (hg : Sl w Num ga 1 gc [i])
    (hcap : data.length ≤ cap) (hcm : cap ≤ maxLen) (hne : data ≠ []) (hu : Uni n data) (hn : n ≤ 1048576) (hpl : p.length = n) (hql : q.length = n) (hten : data.length ≤ 10) (hi : i < data.length) :
    Calls Try.prog 72 #[.slice (some ⟨g, 0, none⟩) data.length cap, .slice ga 1 gc, Str p, Str q, .bool true, .bool false] w
      (HealedPost g w (healedS data [i] p q true false ++ rest)) := by
  have HS : Sl w Str (some ⟨g, 0, none⟩) data.length cap data := hP.sl_left rfl hcap hcm
  have hsz : bsize data = n := hu.size hne
  have hpo : (pOf data).length = n := pOf_length hu hne
  have hqo : (qOf data).length = n := qOf_length hu hne
  have C1 := fun wx (h : Sl wx Str (some ⟨g, 0, none⟩) data.length cap data) => of_any _ _ _ data wx h (fun b hb => by rw [hu b hb, hsz]) (by omega) (by omega)
  have C2 := fun wx => plus_any (pOf data) p wx (by omega) (by omega)
  have C3 := fun wx => plus_any (qOf data) q wx (by omega) (by omega)
  have hdp : (bplus (pOf data) p).length = n := by rw [bplus_length, hpo]
  have hdq : (bplus (qOf data) q).length = n := by rw [bplus_length, hqo]
  have HF : Hid (healedS data [i] p q true false = data.set i (btimes (bplus (qOf data) q) (gi (gp 2 i)))) := Lib.hid rfl
  generalize hdp' : bplus (pOf data) p = dp at *
  generalize hdq' : bplus (qOf data) q = dq at *
  have C4 := fun wx => times_any dq (gi (gp 2 i)) wx (by omega)
  generalize btimes dq (gi (gp 2 i)) = x at *
  obtain ⟨di, hdi⟩ : ∃ d, data[i]? = some d := ⟨_, List.getElem?_eq_getElem hi⟩
  have hi' : (i : Int) < (data.length : Int) := by omega
  obtain ⟨gg, go, i', rfl, e0, c0⟩ := hg.get (i := 0) (by omega)
  simp only [List.getElem?_cons_zero, Option.some.injEq] at e0
  subst e0
  rw [Nat.add_zero] at c0
  have HC1 := Lib.hid C1
  have HC2 := Lib.hid C2
  have HC3 := Lib.hid C3
  have HC4 := Lib.hid C4
  have Hdi := Lib.hid hdi
  clear C1 C2 C3 C4 hdi hsz hpo hqo hdp hdq hdp' hdq' hpl hql
  go_enter Try.func72, Try.ntmps72
  go_wp2_with fail
  refine (HC1.out _ HS).mono ?_
  rintro e w1 ⟨rfl, x1⟩
  go_wp2_with fail
  refine (HC2.out _).mono ?_
  rintro e w2 ⟨rfl, x2⟩
  go_wp2_with fail
  refine (HC3.out _).mono ?_
  rintro e w3 ⟨rfl, x3⟩
  have X := (x1.trans x2).trans x3
  have c0' := X.cell c0
  go_wp2_with fail
  have HI := Lib.hid hi
  have HL := Lib.hid hten
  go_region_with (first
    | (go_at_call 87; refine (power_any 2 i _ (by have := HI.out; have := HL.out; omega)).mono ?_; rintro e w' ⟨rfl, rfl⟩)
    | (go_at_call 89; refine (inverse_any (gp 2 i) _).mono ?_; rintro e w' ⟨rfl, rfl⟩)
    | (go_at_call 96; refine (HC4.out _).mono ?_; rintro e w4 ⟨rfl, x4⟩; have c0'' := x4.cell c0'; have P4 : Pre w4 g 9 ((data ++ rest).map Str) := ((hP.ext X).ext (w' := w3.drew) ⟨rfl, rfl, rfl, Nat.le_refl _, fun _ _ => rfl⟩).ext x4; have c4 := P4.cell (i := i) (v := Str di) (by rw [List.getElem?_map, List.getElem?_append_left HI.out, Hdi.out]; rfl); have f4 := P4.free i))
  all_goals
    go_wp2_with fail
    go_end0
    have GB : w.grownBy w4 (some g) := grownBy_trans (grownBy_trans (b := w3) (grownBy_ext X (some g)) (grownBy_drew (grownBy_refl w3 (some g)))) (grownBy_ext x4 _)
    refine ⟨rfl, ?_, grownBy_trans GB (grownBy_setCell w4 ⟨g, i, none⟩ (Str x))⟩
    have P5 := P4.set i (by simp; omega) (Str x)
    rw [← List.map_set, List.set_append_left _ _ hi] at P5
    rw [HF.out]
    exact P5

set_option maxHeartbeats 2000000 in
set_option maxRecDepth 100000 in
theorem healed_zero (ga : Option Addr) (gc : Nat) (lp lq : Bool) (hP : Pre w g 9 ((data ++ rest).map Str))
    (hcap : data.length ≤ cap) (hcm : cap ≤ maxLen) (hne : data ≠ []) (hu : Uni n data) (hn : n ≤ 1048576) (hpl : p.length = n) (hql : q.length = n) (hten : data.length ≤ 10) :
    Calls Try.prog 72 #[.slice (some ⟨g, 0, none⟩) data.length cap, .slice ga 0 gc, Str p, Str q, .bool lp, .bool lq] w
      (HealedPost g w (healedS data [] p q lp lq ++ rest)) := by
  have HS : Sl w Str (some ⟨g, 0, none⟩) data.length cap data := hP.sl_left rfl hcap hcm
  have hsz : bsize data = n := hu.size hne
  have hpo : (pOf data).length = n := pOf_length hu hne
  have hqo : (qOf data).length = n := qOf_length hu hne
  have C1 := fun wx (h : Sl wx Str (some ⟨g, 0, none⟩) data.length cap data) => of_any _ _ _ data wx h (fun b hb => by rw [hu b hb, hsz]) (by omega) (by omega)
  have C2 := fun wx => plus_any (pOf data) p wx (by omega) (by omega)
  have C3 := fun wx => plus_any (qOf data) q wx (by omega) (by omega)
  have hdp : (bplus (pOf data) p).length = n := by rw [bplus_length, hpo]
  have hdq : (bplus (qOf data) q).length = n := by rw [bplus_length, hqo]
  have HF : Hid (healedS data [] p q lp lq = data) := Lib.hid rfl
  have HC1 := Lib.hid C1
  have HC2 := Lib.hid C2
  have HC3 := Lib.hid C3
  clear C1 C2 C3 hsz hpo hqo hdp hdq hpl hql
  go_enter Try.func72, Try.ntmps72
  go_wp2_with fail
  refine (HC1.out _ HS).mono ?_
  rintro e w1 ⟨rfl, x1⟩
  go_wp2_with fail
  refine (HC2.out _).mono ?_
  rintro e w2 ⟨rfl, x2⟩
  go_wp2_with fail
  refine (HC3.out _).mono ?_
  rintro e w3 ⟨rfl, x3⟩
  have X := (x1.trans x2).trans x3
  go_wp2_with fail
  go_end0
  refine ⟨rfl, ?_, grownBy_ext X _⟩
  rw [HF.out]
  exact hP.ext X
end

end Go.Proofs.Ytmgppnceddnlmaa
