/- Contract of pq.Locate: what XSpec's locateE says. -/
import Derived.Test.YtmgppnceddnlmaaHealE
namespace Go.Proofs.Ytmgppnceddnlmaa
open Go.RowKit

/-- What Locate hands back. -/
def NumRet (w : World) (r : Int × Nat) (e : Ending) (w' : World) : Prop := e = .returned (.tuple #[.int .i64 r.1, errV r.2]) ∧ Ext w w'
theorem NumRet.err {w w' : World} {r : Int × Nat} {n : Nat} (h : r = (0, n)) (hn : 0 < n) (hx : Ext w w') : NumRet w r (.returned (.tuple #[.int .i64 0, .iface 64 (.int .i64 (n : Int))])) w' :=
  ⟨by rw [h, errV_pos n hn], hx⟩

theorem locateE_1 {parts : List Blk} (h : parts.length < 3 ∨ 12 < parts.length) : locateE parts = (0, 1) := if_pos h
theorem locateE_b {parts : List Blk} (h : ¬ (parts.length < 3 ∨ 12 < parts.length)) (h2 : blocksE parts ≠ 0) : locateE parts = (0, blocksE parts) := by
  unfold locateE; rw [if_neg h, if_pos h2]
theorem locateE_0 {parts : List Blk} (h : ¬ (parts.length < 3 ∨ 12 < parts.length)) (h2 : ¬ blocksE parts ≠ 0) : locateE parts = locateS parts := by
  unfold locateE; rw [if_neg h, if_neg h2]

theorem sameBut_snoc (i : Nat) : ∀ (s : Nat) (l m : List Blk) (j : Nat) (a b : Blk), l[j]? = some a → m[j]? = some b →
    sameBut i s (l.take (j + 1)) (m.take (j + 1)) = (sameBut i s (l.take j) (m.take j) && (s + j == i || a == b))
  | _, [], _, _, _, _, h, _ => by simp at h
  | _, _ :: _, [], _, _, _, _, h => by simp at h
  | s, x :: l, y :: m, 0, a, b, h, h' => by
    simp at h h'
    subst h h'
    simp [sameBut]
  | s, x :: l, y :: m, j + 1, a, b, h, h' => by
    simp only [List.take_succ_cons, sameBut]
    rw [sameBut_snoc i (s + 1) l m j a b (by simpa using h) (by simpa using h'), Bool.and_assoc]
    have : s + 1 + j = s + (j + 1) := by omega
    rw [this]

theorem lostAt_length (n i : Nat) : (lostAt n i).length = n := by simp [lostAt]
theorem lostAt_getD (n i j : Nat) (hi : i < n) : (lostAt n i).getD j false = decide (j = i) := by
  rw [lostAt, getD_set _ _ _ _ _ (by simpa using hi)]
  by_cases h : j = i
  · simp [h]
  · simp [h, List.getD_eq_getElem?_getD, List.getElem?_replicate]
    split <;> rfl
theorem lostAt_gone (n i : Nat) (hi : i < n) : (goneOf n (lostAt n i)).length ≤ 2 := by
  have : goneOf n (lostAt n i) = (List.range n).filter (fun j => decide (j = i)) := by
    apply List.filter_congr
    intro j _
    exact lostAt_getD n i j hi
  rw [this]
  have hnd : ((List.range n).filter fun j => decide (j = i)).Nodup := List.Nodup.sublist List.filter_sublist List.nodup_range
  match hl : (List.range n).filter fun j => decide (j = i) with
  | [] => simp
  | [_] => simp
  | a :: b :: r =>
    exfalso
    rw [hl] at hnd
    have ha : a ∈ (List.range n).filter fun j => decide (j = i) := by rw [hl]; simp
    have hb : b ∈ (List.range n).filter fun j => decide (j = i) := by rw [hl]; simp
    simp at ha hb hnd
    exact hnd.1.1 (by omega)

theorem Try.infoBool : (Try.prog.info? 4).map (fun i => (i.zero, i.size, i.bytes)) = some (some (.bool false), 1, 1) := by kernel_rfl
def rowL (l : List Bool) : Array Value := (l.map Boo).toArray
theorem made_bools (n : Nat) : madeCells (Value.bool false).cells (n * 1) = rowL (List.replicate n false) := by
  apply Array.ext
  · simp [madeCells, rowL]
  · intro i h1 h2
    have : i < n := by simpa [madeCells] using h1
    simp [madeCells, rowL, Value.cells, Nat.mod_one]
theorem run_make_bools (w : World) (n : Nat) (h : n ≤ 1099511627776) :
    (Instr.makeSlice 32 (.int .i64 (n : Int)) (.int .i64 (n : Int))).run Try.prog w = .ok (.slice (some ⟨w.heap.size, 0, none⟩) n n) (w.alloc (.cells (rowL (List.replicate n false)) 4)) := by
  obtain ⟨i, hi, hz0, hz1, hz2⟩ := info_parts Try.infoBool
  have hr := run_make (P := Try.prog) w 32 4 i _ Try.underlying32 hi hz0 .i64 .i64 n n (by omega) (by omega) (by rw [hz2]; omega) (by omega)
  rw [hz1] at hr
  simp only [Int.toNat_natCast] at hr
  rw [hr, made_bools]

end Go.Proofs.Ytmgppnceddnlmaa
