/- Contracts of array's Raw, Fail, Replace, Poke. -/
import Derived.Test.YtmgppnceddnlmaaArrC
namespace Go.Proofs.Ytmgppnceddnlmaa
open Go.RowKit

/-- What Raw hands back of a row that there is. -/
def RawRet (w : World) (s : St) (row : Nat) (e : Ending) (w' : World) : Prop :=
  ∃ pa pc g lc, e = .returned (.tuple #[.slice pa s.n pc, .slice (some ⟨g, 0, none⟩) s.n lc, .nilIface]) ∧
    Sl w' Str pa s.n pc (s.parts row) ∧ Pre w' g 4 ((s.losts row).map Boo) ∧ s.n ≤ lc ∧ lc ≤ maxLen ∧ w.heap.size ≤ g ∧ Ext w w' ∧ PartsAt w w' s row g pa pc

/-- What is lost may be called anything. -/
theorem IsArr.recell {w : World} {A : Lay} {s : St} (h : IsArr w A s) (C : Nat → Nat → Blk) (hC : ∀ d r, s.lost d r = false → C d r = s.cell d r) : IsArr w A { s with cell := C } :=
  { h with
    disk := fun d hd => let ⟨D, r, q1, q2, q3, q4⟩ := h.disk d hd; ⟨D, r, q1, q2, q3, fun r hr hl => (q4 r hr hl).trans (hC d r hl).symm⟩
    ok := { h.ok with len := fun d r hd hr hl => (congrArg List.length (hC d r hl)).trans (h.ok.len d r hd hr hl) } }

section
variable (A : Lay) (s : St) (w : World)

/-- What a call leaves that turns an array. -/
def Moved (A : Lay) (s : St) (v : Value) (w : World) (e : Ending) (w' : World) : Prop := e = .returned v ∧ IsArr w' A s ∧ Keep A.lo A.hi w w'

theorem toNat_lt {n : Nat} {d : Int} (h : ¬ (d < 0 ∨ (n : Int) ≤ d)) : d.toNat < n := by omega

set_option maxRecDepth 100000 in
theorem Fail_any (d : Int) (h : IsArr w A s) :
    Calls Try.prog 20 #[Ptr A.p, .int .i64 d] w (Moved A (s.fail d).1 (errV (s.fail d).2) w) := by
  by_cases hd : d < 0 ∨ (s.n : Int) ≤ d
  · have HR := Lib.hid (has_no A s w d h hd)
    have HE : Hid (s.fail d = (s, 1)) := Lib.hid (if_pos hd)
    clear hd
    go_enter Try.func20, Try.ntmps20
    go_wp2_with fail
    refine HR.out.mono ?_
    rintro e w' ⟨rfl, rfl⟩
    go_wp2_with fail
    go_ret
    rw [HE.out]
    exact ⟨rfl, h, Keep.refl _ _ _⟩
  · obtain ⟨k, rfl⟩ : ∃ k : Nat, d = (k : Int) := ⟨d.toNat, by omega⟩
    have hk : k < s.n := by omega
    have hkI : (k : Int) < (s.n : Int) := by omega
    have HR := Lib.hid (has_yes A s w k h hkI)
    have c1 := h.cl
    have c2 := h.cm hk
    have c3 := h.ck hk
    obtain ⟨D, hD, hm, hs, hf, hc⟩ := h.disk k hk
    cases hx : s.failed k with
    | true =>
      have HF := Lib.hid (fail_no (A.k k) D w hD (hf.trans hx))
      have HE : Hid (s.fail k = (s, 6)) := Lib.hid (by rw [St.fail, if_neg hd, Int.toNat_natCast, if_pos hx])
      clear hd hx hf hc hm hs
      go_enter Try.func20, Try.ntmps20
      go_wp2_with fail
      refine HR.out.mono ?_
      rintro e w' ⟨rfl, rfl⟩
      go_wp2_with fail
      refine HF.out.mono ?_
      rintro e w' ⟨rfl, rfl⟩
      go_wp2_with fail
      go_ret
      rw [HE.out]
      exact ⟨rfl, h, Keep.refl _ _ _⟩
    | false =>
      have HF := Lib.hid (fail_ok (A.k k) D w hD (hf.trans hx))
      have HE : Hid (s.fail k = (s.setFailed k true, 0)) := Lib.hid (by rw [St.fail, if_neg hd, Int.toNat_natCast, if_neg (by rw [hx]; decide)])
      have HT := fun {w' : World} {x : Int} (r : IsDisk w' (A.k k) { { D with failed := true } with wr := x }) (hg : w.grownBy w' (some (A.k k))) =>
        IsArr.turn h hk r hg (s.setFailed k true).failed s.cell hm hs (by simp [St.setFailed]) (fun r _ hl => by simp [St.lost, St.setFailed] at hl)
          (fun e he => ⟨by simp [St.setFailed, he], fun _ => rfl⟩) (h.ok.setFailed k)
      have klo := (h.klo k hk).1
      have khi := (h.klo k hk).2
      clear hd hx hf hc hm hs
      go_enter Try.func20, Try.ntmps20
      go_wp2_with fail
      refine HR.out.mono ?_
      rintro e w' ⟨rfl, rfl⟩
      go_wp2_with fail
      refine HF.out.mono ?_
      rintro e w' ⟨rfl, ⟨x, r⟩, hg⟩
      go_wp2_with fail
      go_ret
      rw [HE.out]
      exact ⟨rfl, HT r hg, Keep.of_grown hg klo khi⟩

set_option maxRecDepth 100000 in
theorem Replace_any (d : Int) (h : IsArr w A s) :
    Calls Try.prog 21 #[Ptr A.p, .int .i64 d] w (Moved A (s.replace d).1 (errV (s.replace d).2) w) := by
  by_cases hd : d < 0 ∨ (s.n : Int) ≤ d
  · have HR := Lib.hid (has_no A s w d h hd)
    have HE : Hid (s.replace d = (s, 1)) := Lib.hid (if_pos hd)
    clear hd
    go_enter Try.func21, Try.ntmps21
    go_wp2_with fail
    refine HR.out.mono ?_
    rintro e w' ⟨rfl, rfl⟩
    go_wp2_with fail
    go_ret
    rw [HE.out]
    exact ⟨rfl, h, Keep.refl _ _ _⟩
  · obtain ⟨k, rfl⟩ : ∃ k : Nat, d = (k : Int) := ⟨d.toNat, by omega⟩
    have hk : k < s.n := by omega
    have hkI : (k : Int) < (s.n : Int) := by omega
    have HR := Lib.hid (has_yes A s w k h hkI)
    have c1 := h.cl
    have c2 := h.cm hk
    have c3 := h.ck hk
    obtain ⟨D, hD, hm, hs, hf, hc⟩ := h.disk k hk
    cases hx : s.failed k with
    | false =>
      have HF := Lib.hid (replace_no (A.k k) D w hD (hf.trans hx))
      rw [errV_pos 6 (by omega)] at HF
      have HE : Hid (s.replace k = (s, 6)) := Lib.hid (by rw [St.replace, if_neg hd, Int.toNat_natCast, if_pos hx])
      clear hd hx hf hc hm hs
      go_enter Try.func21, Try.ntmps21
      go_wp2_with fail
      refine HR.out.mono ?_
      rintro e w' ⟨rfl, rfl⟩
      go_wp2_with fail
      refine HF.out.mono ?_
      rintro e w' ⟨rfl, rfl⟩
      go_wp2_with fail
      go_ret
      rw [HE.out]
      exact ⟨rfl, h, Keep.refl _ _ _⟩
    | true =>
      have HF := Lib.hid (replace_ok (A.k k) D w hD (hf.trans hx) (by rw [hm]; exact h.ok.r20) (by rw [hs]; exact h.ok.s16))
      have HE : Hid (s.replace k = ((s.setFailed k false).setBuilt k 0, 0)) := Lib.hid (by rw [St.replace, if_neg hd, Int.toNat_natCast, if_neg (by rw [hx]; decide)])
      have HT : ∀ {w' : World} {x : Int}, IsDisk w' (A.k k) { blankTo { D with failed := false } D.many with wr := x } → w.grownBy w' (some (A.k k)) →
          ∃ s1 : St, s1.n = s.n ∧ IsArr w' A s1 ∧ IsArr (w'.setCell ⟨A.m k, 1, none⟩ (Num 0)) A ((s.setFailed k false).setBuilt k 0) := by
        intro w' x r hg
        have hcl : ∀ r, r < D.many → (blankTo { D with failed := false } D.many).c r = zeros s.size := fun r hr => by
          show (if r < D.many then zeros D.size else D.c r) = _
          rw [if_pos hr, hs]
        have a1 := IsArr.turn (w' := w') h hk (D := { blankTo { D with failed := false } D.many with wr := x }) r hg (s.setFailed k false).failed (fun e r => if e = k then zeros s.size else s.cell e r) hm hs
          (by simp [St.setFailed, blankTo]) (fun r hr _ => by rw [if_pos rfl]; exact hcl r (by omega)) (fun e he => ⟨by simp [St.setFailed, he], fun r => by rw [if_neg he]⟩)
          { h.ok with
            len := fun e r he hr hl => by
              show (if e = k then zeros s.size else s.cell e r).length = s.size
              split
              · exact zeros_length _
              · rename_i hne
                refine h.ok.len e r he hr ?_
                simpa [St.lost, St.setFailed, hne] using hl }
        refine ⟨{ s with cell := fun e r => if e = k then zeros s.size else s.cell e r, failed := (s.setFailed k false).failed }, rfl, a1, ?_⟩
        have a2 := a1.turnBuilt (d := k) hk 0 r hm hs (by simp [St.setFailed, blankTo]) (fun r _ hl => by simp [St.lost, St.setBuilt] at hl)
          { a1.ok with
            built := fun d => by
              show (if d = k then 0 else s.built d) ≤ s.rows
              split
              · omega
              · exact h.ok.built d
            len := fun e r he hr hl => by
              show (if e = k then zeros s.size else s.cell e r).length = s.size
              split
              · exact zeros_length _
              · rename_i hne
                refine h.ok.len e r he hr ?_
                simpa [St.lost, St.setFailed, St.setBuilt, hne] using hl }
        exact a2.recell s.cell fun e r hl => by
          by_cases hne : e = k
          · subst hne; simp [St.lost, St.setBuilt] at hl
          · show s.cell e r = if e = k then zeros s.size else s.cell e r
            rw [if_neg hne]
      have klo := (h.klo k hk).1
      have khi := (h.klo k hk).2
      have mlo := (h.mlo k hk).1
      have mhi := (h.mlo k hk).2
      clear hd hx hf hc hm hs
      go_enter Try.func21, Try.ntmps21
      go_wp2_with fail
      refine HR.out.mono ?_
      rintro e w' ⟨rfl, rfl⟩
      go_wp2_with fail
      refine HF.out.mono ?_
      rintro e w' ⟨rfl, ⟨x, r⟩, hg⟩
      obtain ⟨s1, hn1, a1, a2⟩ := HT r hg
      have b1 := a1.cl
      rw [hn1] at b1
      have b2 := a1.cm (d := k) (by omega)
      have b3 := a1.cb (d := k) (by omega)
      have b4 := a1.fb (d := k) (by omega)
      have A2 := Lib.hid a2
      clear a2
      go_wp2_with fail
      go_ret
      rw [HE.out]
      exact ⟨rfl, A2.out, (Keep.of_grown hg klo khi).trans (Keep.setCell _ _ mlo mhi)⟩

/-- A part that a disk has is another one. -/
theorem IsArr.put {w w' : World} {A : Lay} {s : St} (h : IsArr w A s) {d row : Nat} {b : Blk} {D : DS} {x : Int} (hd : d < s.n) (hb : b.length = s.size)
    (hm : D.many = s.rows) (hs : D.size = s.size) (hf : D.failed = s.failed d) (hc : ∀ r, r < s.rows → s.lost d r = false → D.c r = s.cell d r)
    (r : IsDisk w' (A.k d) { { D with c := fun r => if r = row then b else D.c r } with wr := x }) (hg : w.grownBy w' (some (A.k d))) : IsArr w' A (s.setCell d row b) :=
  IsArr.turn h hd r hg s.failed (s.setCell d row b).cell hm hs hf (fun r hr hl => by
      show (if r = row then b else D.c r) = if d = d ∧ r = row then b else s.cell d r
      by_cases e : r = row
      · rw [if_pos e, if_pos ⟨rfl, e⟩]
      · rw [if_neg e, if_neg (fun x => e x.2)]
        exact hc r hr hl)
    (fun e he => ⟨rfl, fun r => by
      show (if e = d ∧ r = row then b else s.cell e r) = s.cell e r
      rw [if_neg (fun x => he x.1)]⟩) (h.ok.setCell d row b hb)

end
end Go.Proofs.Ytmgppnceddnlmaa
