/- Contract of slices.Clone at []string: a new row of the same blocks. -/
import Derived.Test.YtmgppnceddnlmaaMem
namespace Go.Proofs.Ytmgppnceddnlmaa
open Go.RowKit

theorem Try.infoStr : (Try.prog.info? 9).map (fun i => (i.zero, i.size, i.bytes)) = some (some (.string ByteArray.empty), 1, 16) := by kernel_rfl

theorem add_lit (g off j : Nat) : (⟨g, off, none⟩ : Addr).add j = ⟨g, off + j, none⟩ := by
  unfold Addr.add; split
  · rename_i h; subst h; rfl
  · rfl

/-- What a clone is: a row of its own. -/
def CloneOf (w : World) (e n : Nat) (xs : List Value) (r : Ending) (w' : World) : Prop :=
  ∃ g c, r = .returned (.slice (some ⟨g, 0, none⟩) n c) ∧ Pre w' g e xs ∧ n ≤ c ∧ c ≤ maxLen ∧ w.heap.size ≤ g ∧ Ext w w'

theorem clone_post {w w1 w2 : World} {e n : Nat} {v : Value} {xs : List Value} (hown : w2.ownsRow w.heap.size e 1 v n xs) (hn : 0 < n) (h1 : Ext w w1) (hg : w1.grownBy w2 (some w.heap.size)) (hs : w.heap.size < w1.heap.size) :
    CloneOf w e n xs (.returned v) w2 := by
  have ho := hown
  obtain ⟨h2, h3⟩ := hown
  rcases h3 with ⟨_, h0⟩ | ⟨g, c, cur, rfl, hb, hgg, hnc, hm, hcs, ht⟩
  · omega
  · exact ⟨g, c, rfl, Pre.of_owns ho, hnc, hm, hb, h1.grown hg (Nat.le_of_lt hs) (fun k hk => by have := Option.some.inj hk; omega)⟩

set_option maxHeartbeats 400000 in
set_option maxRecDepth 100000 in
theorem clone_str (a : Option Addr) (n cap : Nat) (l : List Blk) (w : World) (h : Sl w Str a n cap l) (hn : 0 < n) (hb : n ≤ 1048576) :
    Calls Try.prog 71 #[.slice a n cap] w (CloneOf w 9 n (l.map Str)) := by
  obtain ⟨g, off, rfl, hc⟩ := h.cells hn
  obtain ⟨i, hi, hz0, hz1, hz2⟩ := info_parts Try.infoStr
  have HC := Lib.hid hc
  have HL := Lib.hid h.len
  have Hi := Lib.hid hi
  have Hz0 := Lib.hid hz0
  have Hz1 := Lib.hid hz1
  have Hz2 := Lib.hid hz2
  clear hc hi hz0 hz1 hz2
  have hq := fun wx => Lib.run_eql_slice_nil (P := Try.prog) wx 22 9 (some ⟨g, off, none⟩) n cap 0 0 Try.underlying22
  go_enter Try.func71, Try.ntmps71
  have hown : (w.alloc (.cells #[] 9)).ownsRow w.heap.size 9 1 (.slice (some ⟨w.heap.size, 0, none⟩) 0 0) 0 [] := World.ownsRow_made w #[] 0 (Nat.le_refl _) (Nat.zero_le _) rfl
  have HO := Lib.hid hown
  clear hown
  go_wp2_with (at_builtin; refine wpList_append_own _ rfl (.tmp 5) (.tmp 6) 22 rfl w.heap.size 9 i _ 1 16 Try.underlying22 Hi.out Hz0.out Hz1.out Hz2.out rfl (by decide) _ 0 [] rfl HO.out ⟨g, off, none⟩ n cap (l.map Str) rfl ?c0 ?c1 ?c2 ?c3 ?c4 ?c5 ?_)
  case c0 => rw [List.length_map, HL.out, Nat.mul_one]
  case c1 =>
    intro j u hj
    rw [List.getElem?_map] at hj
    obtain ⟨x, hx, rfl⟩ := Option.map_eq_some_iff.1 hj
    rw [add_lit]
    exact (World.cell?_alloc_lt w _ _ (World.block_lt_of_cell? w _ (HC.out j x hx))).trans (HC.out j x hx)
  case c2 =>
    intro u hu
    obtain ⟨x, _, rfl⟩ := List.mem_map.1 hu
    rfl
  case c3 => unfold maxLen; omega
  case c4 => omega
  case c5 => simp
  intro v w2 hown hgrow _
  have HO2 := Lib.hid hown
  clear hown
  go_wp2_with fail
  go_ret
  exact clone_post HO2.out hn ((Below.refl _ _).alloc (Nat.le_refl _) _) hgrow (by simp)

end Go.Proofs.Ytmgppnceddnlmaa
