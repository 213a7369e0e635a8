/- Law ArrayKeeps: the walk. -/
import Derived.Test.YtmgppnceddnlmaaDoorKeepS
import Derived.Test.YtmgppnceddnlmaaDoorUtil
import Derived.Test.YtmgppnceddnlmaaDoorRebuildW
import Derived.Deep.CutBlock
namespace Go.Proofs.YtmgppnceddnlmaaDoor
open Go.RowKit

/-- paritylaw1.block: a block of that size, or one byte too long. -/
def BlockRet (size : Nat) (n : Int) (w : World) (e : Ending) (w' : World) : Prop := ∃ b : Blk, e = .returned (Str b) ∧ b.length = (if n < 0 then size + 1 else size) ∧ Ext w w'

set_option maxHeartbeats 2000000 in
set_option maxRecDepth 100000 in
theorem block_any (size : Nat) (n : Int) (w : World) (h1 : 1 ≤ size) (h16 : size ≤ 16) :
    Calls Tryd.prog 24 #[.int .i64 (size : Int), .int .i64 n] w (BlockRet size n w) := by
  obtain ⟨ii, hi0, hz0, hz1, hz2⟩ := info_parts Tryd.infoByte
  have Hi := Lib.hid hi0
  have Hz0 := Lib.hid hz0
  have Hz1 := Lib.hid hz1
  have Hz2 := Lib.hid hz2
  clear hi0 hz0 hz1 hz2
  go_enter Tryd.func24, Tryd.ntmps24
  go_wp2_with fail
  go_loopw [5, 6] (fun v i wr => ∃ (k : Nat) (l : Blk), k ≤ size ∧ i = .int .i64 k ∧ Ext w wr ∧ wr.ownsRow w.heap.size 5 1 v k (l.map Byt)) (fun _ i _ => size - (intOf i).toNat)
  case atStart => exact ⟨0, [], by omega, rfl, Ext.refl _, World.ownsRow_nil _ _ _ _⟩
  case round =>
    obtain ⟨k, l, hk, rfl, X, hown⟩ := hrel
    have HO := Lib.hid hown
    have hsz := X.size
    clear hown
    by_cases hlt : (k : Int) < (size : Int)
    · go_wp2_with (at_builtin; refine wpList_append_own _ rfl (.tmp 12) (.tmp 17) 50 rfl w.heap.size 5 ii _ 1 1 Tryd.underlying50 Hi.out Hz0.out Hz1.out Hz2.out rfl (by decide) _ _ _ rfl (HO.out.alloc _) ⟨wr.heap.size, 0, none⟩ 1 1 [.int .u8 (wrap64 (n + (k : Int)) % 256)] rfl rfl ?c1 ?c2 ?c3 ?c4 ?c5 ?_)
      case c1 => exact cell_one_new _ _ _
      case c2 => intro u hu; simp at hu; subst hu; rfl
      case c3 => unfold maxLen; omega
      case c4 => omega
      case c5 => simp; omega
      intro v' w2 hown2 hgrow2 _
      have hex := byte_at_end hown2 (by omega)
      have HX2 : Hid (Ext w w2) := Lib.hid ((X.alloc hsz _).grown hgrow2 (by simp; omega) (fun q hq => (HO.out.lt q hq).1))
      obtain ⟨u, hown3⟩ := hex
      have HO2 := Lib.hid hown3
      clear hown2 hown3
      go_wp2_with fail
      go_roundw
      case rel => exact ⟨k + 1, l ++ [u], by omega, by go_num, HX2.out, HO2.out⟩
      case measure => simp [intOf]; omega
    · have HK := Lib.hid (show k = size by omega)
      by_cases hn : n < 0
      · go_wp2_with (at_builtin; refine wpList_append_own _ rfl (.tmp 21) (.tmp 22) 50 rfl w.heap.size 5 ii _ 1 1 Tryd.underlying50 Hi.out Hz0.out Hz1.out Hz2.out rfl (by decide) _ _ _ rfl (HO.out.alloc _) ⟨wr.heap.size, 0, none⟩ 1 1 [.int .u8 1] rfl rfl ?c1 ?c2 ?c3 ?c4 ?c5 ?_)
        case c2 => rfl
        case c3 => unfold maxLen; omega
        case c4 => omega
        case c5 => omega
        intro v' w2 hown2 hgrow2 _
        have hex := byte_at_end hown2 (by omega)
        have HX2 : Hid (Ext w w2) := Lib.hid ((X.alloc hsz _).grown hgrow2 (by simp; omega) (fun q hq => (HO.out.lt q hq).1))
        obtain ⟨u, hown3⟩ := hex
        obtain ⟨a, cap, rfl, hs⟩ := sl_of_owns hown3
        have hcv := conv_bytes hs
        have HL := Lib.hid (show (l ++ [u]).length = size + 1 by have := hs.len; have := HK.out; omega)
        clear hown2 hown3 hs HK HO
        go_wp2_with fail
        go_ret
        exact ⟨_, rfl, by rw [if_pos hn]; exact HL.out, HX2.out⟩
      · obtain ⟨a, cap, rfl, hs⟩ := sl_of_owns HO.out
        have hcv := conv_bytes hs
        have HL := Lib.hid (show l.length = size by have := hs.len; have := HK.out; omega)
        clear hs HK HO
        go_wp2_with fail
        go_ret
        exact ⟨_, rfl, by rw [if_neg (by omega)]; exact HL.out, X⟩

/-- The state between the rounds. -/
def Keeping (A : Lay) (g cap : Nat) (w wr : World) (n rows size : Nat) : Prop :=
  ∃ (s : St) (cells : List Blk), IsArr wr A s ∧ KS s n rows size cells ∧ Pre wr g 9 (cells.map Str) ∧ Ext w wr ∧ rows * (n - 2) ≤ cap ∧ cap ≤ maxLen ∧ A.hi ≤ g ∧ w.heap.size ≤ g ∧ w.heap.size ≤ A.lo

end Go.Proofs.YtmgppnceddnlmaaDoor
