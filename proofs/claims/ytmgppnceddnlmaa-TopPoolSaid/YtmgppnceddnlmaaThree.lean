/- Law ArrayThree: the plain facts and the walk. -/
import Derived.Test.YtmgppnceddnlmaaTold
import Derived.Test.YtmgppnceddnlmaaScrub
namespace Go.Proofs.Ytmgppnceddnlmaa
open Go.RowKit

theorem lostUpto_mono (s : St) (row a b : Nat) (h : a ≤ b) : lostUpto s row a ≤ lostUpto s row b := by
  induction b with
  | zero => rw [show a = 0 by omega]; exact Nat.le_refl _
  | succ b ih =>
    by_cases e : a = b + 1
    · rw [e]; exact Nat.le_refl _
    · rw [lostUpto_succ]
      have := ih (by omega)
      split <;> omega
theorem lostUpto_hit (s : St) (row a : Nat) (h : s.lost a row = true) : lostUpto s row (a + 1) = lostUpto s row a + 1 := by rw [lostUpto_succ, if_pos h]

/-- Three disks have failed. -/
def three (n rows i k j : Nat) : St := (((St.new n rows 1).setFailed i true).setFailed k true).setFailed j true
theorem three_failed (n rows i k j d : Nat) : (three n rows i k j).failed d = (decide (d = j) || (decide (d = k) || decide (d = i))) := by
  simp only [three, St.setFailed, St.new]
  by_cases e1 : d = j
  · simp [e1]
  · by_cases e2 : d = k
    · simp [e2]
    · by_cases e3 : d = i <;> simp [e1, e2, e3]
theorem three_lost (n rows i k j d row : Nat) (hr : row < rows) : (three n rows i k j).lost d row = (decide (d = j) || (decide (d = k) || decide (d = i))) := by
  rw [St.lost, three_failed]
  have : decide ((three n rows i k j).built d ≤ row) = false := by simp [three, St.setFailed, St.new]; omega
  rw [this, Bool.or_false]
theorem three_lostN (n rows i k j row : Nat) (hr : row < rows) (h1 : i < k) (h2 : k < j) (h3 : j < n) : 2 < (three n rows i k j).lostN row := by
  have e : (three n rows i k j).lostN row = lostUpto (three n rows i k j) row n := rfl
  have a1 := lostUpto_hit (three n rows i k j) row i (by rw [three_lost _ _ _ _ _ _ _ hr]; simp)
  have a2 := lostUpto_hit (three n rows i k j) row k (by rw [three_lost _ _ _ _ _ _ _ hr]; simp)
  have a3 := lostUpto_hit (three n rows i k j) row j (by rw [three_lost _ _ _ _ _ _ _ hr]; simp)
  have b1 := lostUpto_mono (three n rows i k j) row (i + 1) k (by omega)
  have b2 := lostUpto_mono (three n rows i k j) row (k + 1) j (by omega)
  have b3 := lostUpto_mono (three n rows i k j) row (j + 1) n (by omega)
  omega
theorem three_read (n rows i k j b : Nat) (hok : (three n rows i k j).Ok) (hb : b < rows * (n - 2)) (hn : 3 ≤ n) (h1 : i < k) (h2 : k < j) (h3 : j < n) :
    ((three n rows i k j).read b).2 = if lay n (b / (n - 2)) (b % (n - 2)) = i ∨ lay n (b / (n - 2)) (b % (n - 2)) = k ∨ lay n (b / (n - 2)) (b % (n - 2)) = j then 8 else 0 := by
  have hlt : b / (n - 2) < rows := (Nat.div_lt_iff_lt_mul (by omega)).2 hb
  have hnn : (three n rows i k j).n = n := rfl
  have hrr : (three n rows i k j).rows = rows := rfl
  have hneg : ¬ ((b : Int) < 0 ∨ (((three n rows i k j).rows * ((three n rows i k j).n - 2) : Nat) : Int) ≤ (b : Int)) := by rw [hnn, hrr]; omega
  rw [St.read, if_neg hneg]
  simp only [Int.toNat_natCast, hnn]
  rw [three_lost _ _ _ _ _ _ _ hlt]
  by_cases e : lay n (b / (n - 2)) (b % (n - 2)) = i ∨ lay n (b / (n - 2)) (b % (n - 2)) = k ∨ lay n (b / (n - 2)) (b % (n - 2)) = j
  · rw [if_pos e, if_neg, heal_row hok hlt, if_pos (three_lostN _ _ _ _ _ _ hlt h1 h2 h3)]
    · rfl
    · intro q
      simp only [Bool.or_eq_false_iff, decide_eq_false_iff_not] at q
      rcases e with e | e | e
      · exact q.2.2 e
      · exact q.2.1 e
      · exact q.1 e
  · rw [if_neg e, if_pos]
    simp only [Bool.or_eq_false_iff, decide_eq_false_iff_not]
    exact ⟨fun x => e (.inr (.inr x)), fun x => e (.inr (.inl x)), fun x => e (.inl x)⟩

theorem fail_ok_eq (s : St) (d : Nat) (hd : d < s.n) (hf : s.failed d = false) : s.fail d = (s.setFailed d true, 0) := by
  rw [St.fail, if_neg (by omega), Int.toNat_natCast, if_neg (by rw [hf]; decide)]

theorem Fail_ok (A : Lay) (s : St) (w : World) (d : Nat) (h : IsArr w A s) (hd : d < s.n) (hf : s.failed d = false) :
    Calls Try.prog 20 #[Ptr A.p, .int .i64 (d : Int)] w (Moved A (s.setFailed d true) .nilIface w) := by
  have := Fail_any A s w (d : Int) h
  rw [fail_ok_eq s d hd hf] at this
  exact this

end Go.Proofs.Ytmgppnceddnlmaa
