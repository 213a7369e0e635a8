/- Contract of pq.Heal: what XSpec's healE says. -/
import Derived.Test.YtmgppnceddnlmaaHealW
namespace Go.Proofs.Ytmgppnceddnlmaa
open Go.RowKit

/-- What Heal hands back. -/
def HealRet (w : World) (r : List Blk × Nat) (e : Ending) (w' : World) : Prop :=
  (r.2 ≠ 0 ∧ e = .returned (.tuple #[.slice none 0 0, errV r.2]) ∧ Ext w w') ∨
  (r.2 = 0 ∧ ∃ g c, e = .returned (.tuple #[.slice (some ⟨g, 0, none⟩) r.1.length c, .nilIface]) ∧ Pre w' g 9 (r.1.map Str) ∧ r.1.length ≤ c ∧ c ≤ maxLen ∧ w.heap.size ≤ g ∧ Ext w w')

theorem HealRet.err {w w' : World} {r : List Blk × Nat} {n : Nat} (h : r.2 = n) (hn : 0 < n) (hx : Ext w w') : HealRet w r (.returned (.tuple #[.slice none 0 0, .iface 64 (.int .i64 (n : Int))])) w' :=
  .inl ⟨by omega, by rw [h, errV_pos n hn], hx⟩

theorem haveOf_snoc : ∀ (l : List Blk) (x : List Bool) (j : Nat) (b : Blk) (t : Bool), l[j]? = some b → x[j]? = some t →
    haveOf (l.take (j + 1)) (x.take (j + 1)) = haveOf (l.take j) (x.take j) ++ if t then [] else [b]
  | [], _, _, _, _, h, _ => by simp at h
  | _ :: _, [], _, _, _, _, h => by simp at h
  | y :: l, z :: x, 0, b, t, h, h' => by
    simp at h h'
    subst h h'
    cases z <;> simp [haveOf]
  | y :: l, z :: x, j + 1, b, t, h, h' => by
    have := haveOf_snoc l x j b t (by simpa using h) (by simpa using h')
    simp only [List.take_succ_cons, haveOf, this]
    cases z <;> simp
theorem haveOf_le : ∀ (l : List Blk) (x : List Bool), (haveOf l x).length ≤ l.length
  | [], _ => by simp [haveOf]
  | _ :: _, [] => by simp [haveOf]
  | b :: l, x :: xs => by
    have := haveOf_le l xs
    cases x <;> simp [haveOf] <;> omega
/-- How many are lost. -/
theorem haveOf_count : ∀ (l : List Blk) (x : List Bool), l.length = x.length → (haveOf l x).length + (goneOf x.length x).length = l.length
  | [], [], _ => rfl
  | [], _ :: _, h => by simp at h
  | _ :: _, [], h => by simp at h
  | b :: l, x :: xs, h => by
    have ih := haveOf_count l xs (by simpa using h)
    have e : (goneOf (xs.length + 1) (x :: xs)).length = (if x then 1 else 0) + (goneOf xs.length xs).length := by
      simp only [goneOf, List.range_succ_eq_map, List.filter_cons, List.filter_map, List.getD_cons_zero]
      have : (List.filter ((fun i => (x :: xs).getD i false) ∘ Nat.succ) (List.range xs.length)) = List.filter (fun i => xs.getD i false) (List.range xs.length) := by
        apply List.filter_congr
        intro i _
        rfl
      rw [this]
      cases x <;> simp; omega
    simp only [List.length_cons] at e ⊢
    rw [e]
    cases x <;> simp [haveOf] <;> omega
theorem haveOf_mem : ∀ (l : List Blk) (x : List Bool) (i : Nat), l.length = x.length → i < l.length → x.getD i false = false → l.getD i [] ∈ haveOf l x
  | [], _, _, _, h, _ => by simp at h
  | _ :: _, [], _, h, _, _ => by simp at h
  | b :: l, x :: xs, 0, _, _, hx => by
    have : x = false := by simpa using hx
    subst this
    simp [haveOf]
  | b :: l, x :: xs, i + 1, h, hi, hx => by
    have := haveOf_mem l xs i (by simpa using h) (by simpa using hi) (by simpa using hx)
    simp only [List.getD_cons_succ, haveOf]
    cases x
    · exact List.mem_cons_of_mem _ this
    · exact this

theorem healS_length (parts : List Blk) (lost : List Bool) (h : 2 ≤ parts.length) : (healS parts lost).length = parts.length := by
  simp only [healS, List.length_append, List.length_cons, List.length_nil]
  have e : ∀ (data : List Blk) (gone : List Nat) p q lp lq, (healedS data gone p q lp lq).length = data.length := by
    intro data gone p q lp lq
    match gone with
    | [] => rfl
    | [i] => simp only [healedS]; split
             · simp
             · split <;> simp
    | [i, k] => simp [healedS]
    | _ :: _ :: _ :: _ => rfl
  rw [e, List.length_take, cleaned_length]
  omega

section
variable {parts : List Blk} {lost : List Bool}
theorem healE_1 (h : parts.length < 3 ∨ 12 < parts.length) : healE parts lost = ([], 1) := if_pos h
theorem healE_3 (h : ¬ (parts.length < 3 ∨ 12 < parts.length)) (h2 : lost.length ≠ parts.length) : healE parts lost = ([], 3) := by
  unfold healE; rw [if_neg h, if_pos h2]
theorem healE_8 (h : ¬ (parts.length < 3 ∨ 12 < parts.length)) (h2 : ¬ lost.length ≠ parts.length) (h3 : (haveOf parts lost).length + 2 < parts.length) : healE parts lost = ([], 8) := by
  unfold healE; rw [if_neg h, if_neg h2, if_pos h3]
theorem healE_b (h : ¬ (parts.length < 3 ∨ 12 < parts.length)) (h2 : ¬ lost.length ≠ parts.length) (h3 : ¬ (haveOf parts lost).length + 2 < parts.length) (h4 : blocksE (haveOf parts lost) ≠ 0) :
    healE parts lost = ([], blocksE (haveOf parts lost)) := by
  unfold healE; rw [if_neg h, if_neg h2, if_neg h3, if_pos h4]
theorem healE_0 (h : ¬ (parts.length < 3 ∨ 12 < parts.length)) (h2 : ¬ lost.length ≠ parts.length) (h3 : ¬ (haveOf parts lost).length + 2 < parts.length) (h4 : ¬ blocksE (haveOf parts lost) ≠ 0) :
    healE parts lost = (healS parts lost, 0) := by
  unfold healE; rw [if_neg h, if_neg h2, if_neg h3, if_neg h4]
end
theorem blocksE_zero {l : List Blk} (h : blocksE l = 0) : Uni (bsize l) l ∧ bsize l ≤ 16 := by
  unfold blocksE at h
  split at h
  · cases h
  · rename_i h1
    split at h
    · cases h
    · rename_i h2
      refine ⟨fun b hb => ?_, by omega⟩
      rw [List.any_eq_true] at h1
      refine Classical.byContradiction fun hne => h1 ⟨b, hb, by simpa using hne⟩

set_option maxHeartbeats 2000000 in
set_option maxRecDepth 100000 in
theorem Heal_any (pa la : Option Addr) (pn pc ln lc : Nat) (parts : List Blk) (lost : List Bool) (w : World) (hp : Sl w Str pa pn pc parts) (hl : Sl w Boo la ln lc lost) :
    Calls Try.prog 11 #[.slice pa pn pc, .slice la ln lc] w (HealRet w (healE parts lost)) := by
  have hpl := hp.len
  have hll := hl.len
  have hb := hp.bound
  by_cases hm : (2 : Int) < (pn : Int) ∧ (pn : Int) ≤ 12
  · obtain ⟨hm1, hm2⟩ := hm
    by_cases he : ln = pn
    · subst he
      have hr1 : ¬ (parts.length < 3 ∨ 12 < parts.length) := by omega
      have hr2 : ¬ lost.length ≠ parts.length := by omega
      have HR1 := Lib.hid hr1
      have HR2 := Lib.hid hr2
      have HPL := Lib.hid hpl
      have HLL := Lib.hid hll
      obtain ⟨ii, hi0, hz0, hz1, hz2⟩ := info_parts Try.infoStr
      have Hi := Lib.hid hi0
      have Hz0 := Lib.hid hz0
      have Hz1 := Lib.hid hz1
      have Hz2 := Lib.hid hz2
      clear hi0 hz0 hz1 hz2 hr1 hr2 hpl hll
      go_enter Try.func11, Try.ntmps11
      go_wp2_with fail
      refine (many_yes ln _ hm1 hm2).mono ?_
      rintro e w' ⟨rfl, rfl⟩
      go_wp2_with fail
      go_loopw [6, 25] (fun v i wr => ∃ j : Nat, j ≤ ln ∧ i = .int .i64 j ∧ Ext w wr ∧ wr.ownsRow w.heap.size 9 1 v (haveOf (parts.take j) (lost.take j)).length ((haveOf (parts.take j) (lost.take j)).map Str)) (fun _ i _ => ln - (intOf i).toNat)
      case atStart =>
        refine ⟨0, by omega, rfl, Ext.refl _, ?_⟩
        simp only [List.take_zero, haveOf, List.map_nil, List.length_nil]
        exact World.ownsRow_nil _ _ _ _
      case round =>
        obtain ⟨j, hj, rfl, X, hown⟩ := hrel
        by_cases hlt : (j : Int) < (ln : Int)
        · obtain ⟨gp, offp, b, rfl, hbb, cb⟩ := (hp.ext X).get (i := j) (by omega)
          obtain ⟨gl, offl, t, rfl, ht, ct⟩ := (hl.ext X).get (i := j) (by omega)
          have HN := Lib.hid (haveOf_snoc parts lost j b t hbb ht)
          have hle : (haveOf (parts.take j) (lost.take j)).length ≤ 12 := by
            have h1 := haveOf_le (parts.take j) (lost.take j)
            rw [List.length_take] at h1
            omega
          have HO := Lib.hid hown
          have HX := Lib.hid X
          clear hbb ht hown
          cases t with
          | true =>
            go_wp2_with fail
            go_roundw
            case rel =>
              refine ⟨j + 1, by omega, by go_num, HX.out, ?_⟩
              rw [HN.out]
              simp only [↓reduceIte, List.append_nil]
              exact HO.out
            case measure => simp [intOf]; omega
          | false =>
            have hsz := X.size
            go_wp2_with (at_builtin; refine wpList_append_own _ rfl (.tmp 35) (.tmp 37) 22 rfl w.heap.size 9 ii _ 1 16 Try.underlying22 Hi.out Hz0.out Hz1.out Hz2.out rfl (by decide) _ _ _ rfl (HO.out.alloc _) ⟨wr.heap.size, 0, none⟩ 1 1 [Str b] rfl rfl ?c1 ?c2 ?c3 ?c4 ?c5 ?_)
            case c1 => exact cell_one_new _ _ _
            case c2 => intro u hu; simp at hu; subst hu; rfl
            case c3 => unfold maxLen; omega
            case c4 => omega
            case c5 => simp; omega
            intro v' w2 hown2 hgrow2 _
            have HO2 := Lib.hid hown2
            have HX2 : Hid (Ext w w2) := Lib.hid ((HX.out.alloc hsz _).grown hgrow2 (by simp; omega) (fun q hq => (HO.out.lt q hq).1))
            clear hown2
            go_wp2_with fail
            go_roundw
            case rel =>
              refine ⟨j + 1, by omega, by go_num, HX2.out, ?_⟩
              rw [HN.out]
              simp only [Bool.false_eq_true, ↓reduceIte, List.length_append, List.length_cons, List.length_nil, List.map_append, List.map_cons, List.map_nil]
              exact HO2.out
            case measure => simp [intOf]; omega
        · have hj2 : j = parts.length := by have := HPL.out; omega
          have e1 : parts.take j = parts := by rw [hj2, List.take_length]
          have e2 : lost.take j = lost := by rw [hj2, HPL.out, ← HLL.out, List.take_length]
          rw [e1, e2] at hown
          clear e1 e2 hj2
          have hle := haveOf_le parts lost
          have hpl := HPL.out
          by_cases h8 : (((haveOf parts lost).length : Nat) : Int) < (ln : Int) - 2
          · have h8' : (haveOf parts lost).length + 2 < parts.length := by omega
            have HR : Hid ((healE parts lost).2 = 8) := Lib.hid (by rw [healE_8 HR1.out HR2.out h8'])
            obtain ⟨ga, gc, rfl, hgs⟩ := sl_of_owns hown
            clear hle hpl hown h8'
            go_wp2_with fail
            go_ret2
            exact HealRet.err (n := 8) HR.out (by decide) X
          · have HR8 : Hid (¬ (haveOf parts lost).length + 2 < parts.length) := Lib.hid (by omega)
            obtain ⟨ga, gc, rfl, hgs⟩ := sl_of_owns hown
            clear hle hpl hown
            have HB := Lib.hid (blocks_any _ _ _ (haveOf parts lost) _ hgs)
            by_cases hbz : blocksE (haveOf parts lost) = 0
            · have HE := Lib.hid hbz
              rw [hbz, errV_zero] at HB
              clear hbz
              go_wp2_with fail
              refine HB.out.mono ?_
              rintro e w' ⟨rfl, rfl⟩
              go_wp2_with fail
              have hlen : ∀ i, i < (parts.length - 2) + 2 → lost.getD i false = false → (parts.getD i []).length = bsize (haveOf parts lost) := by
                intro i hi hx
                have h2 := HR1.out
                exact (blocksE_zero HE.out).1 _ (haveOf_mem parts lost i (by have := HPL.out; have := HLL.out; omega) (by omega) hx)
              have hcount : (goneOf (parts.length - 2 + 2) lost).length ≤ 2 := by
                have h1 := haveOf_count parts lost (by have := HPL.out; have := HLL.out; omega)
                have h2 := HR8.out
                have h3 : lost.length = parts.length - 2 + 2 := by have := HPL.out; have := HLL.out; omega
                rw [h3] at h1
                omega
              have hk : parts.length - 2 + 2 = ln := by have := HPL.out; omega
              have hres : healE parts lost = (healS parts lost, 0) := healE_0 HR1.out HR2.out HR8.out (by rw [HE.out]; decide)
              have h2' := hp.ext X
              have h3' := hl.ext X
              rw [← hk] at h2' h3'
              have HH := heal_any pa la (parts.length - 2) pc lc (bsize (haveOf parts lost)) parts lost _ h2' h3' (by omega) (by omega) (by have := (blocksE_zero HE.out).2; omega) hlen hcount
              rw [hk] at HH
              have HH2 := Lib.hid HH
              have HRS := Lib.hid hres
              have HRL : Hid ((healS parts lost).length = ln) := Lib.hid (by rw [healS_length parts lost (by have := HPL.out; omega)]; exact HPL.out)
              clear HH hk h2' h3' hlen hcount hres
              refine HH2.out.mono ?_
              rintro e w2 ⟨g, c, rfl, P2, hc1, hc2, hg2, X2⟩
              go_wp2_with fail
              go_ret2
              refine .inr ⟨by rw [HRS.out], g, c, by rw [HRS.out]; simp only [HRL.out]; rfl, by rw [HRS.out]; exact P2, by rw [HRS.out]; simp only [HRL.out]; exact hc1, hc2, Nat.le_trans X.size hg2, X.trans X2⟩
            · obtain ⟨en, hen⟩ : ∃ en, en = blocksE (haveOf parts lost) := ⟨_, rfl⟩
              have HR : Hid ((healE parts lost).2 = en) := Lib.hid (by rw [healE_b HR1.out HR2.out HR8.out hbz, hen])
              rw [← hen, errV_pos en (by omega)] at HB
              have hep : 0 < en := by omega
              clear hbz hen
              go_wp2_with fail
              refine HB.out.mono ?_
              rintro e w' ⟨rfl, rfl⟩
              go_wp2_with fail
              go_ret2
              exact HealRet.err HR.out hep X
    · have HR : Hid ((healE parts lost).2 = 3) := by
        exact Lib.hid (by rw [healE_3 (by omega) (by omega)])
      have hne : ((ln : Int) != (pn : Int)) = true := by rw [bne_iff_ne]; omega
      clear hpl hll
      go_enter Try.func11, Try.ntmps11
      go_wp2_with fail
      refine (many_yes pn _ hm1 hm2).mono ?_
      rintro e w' ⟨rfl, rfl⟩
      go_wp2_with fail
      go_ret2
      exact HealRet.err (n := 3) HR.out (by decide) (Ext.refl _)
  · have HR : Hid ((healE parts lost).2 = 1) := by
      exact Lib.hid (by rw [healE_1 (by omega)])
    have HM := Lib.hid hm
    clear hm hpl hll
    go_enter Try.func11, Try.ntmps11
    go_wp2_with fail
    refine (many_no pn _ HM.out).mono ?_
    rintro e w' ⟨rfl, rfl⟩
    go_wp2_with fail
    go_ret2
    exact HealRet.err (n := 1) HR.out (by decide) (Ext.refl _)

end Go.Proofs.Ytmgppnceddnlmaa
