/- Law TopPool: all together. -/
import Derived.Test.YtmgppnceddnlmaaPoolY
namespace Go.Proofs.Ytmgppnceddnlmaa
open Go.RowKit

theorem pool_all (n rows spares : Int) (wa : Option Addr) (wn wc : Nat) (wl : List Int) (fa : Option Addr) (fn fc : Nat) (fl : List Int) (w : World) (hw : IntsIn w wa wn wc wl) (hf : IntsIn w fa fn fc fl) :
    Calls Try.prog 4 #[.int .i64 n, .int .i64 rows, .int .i64 spares, .slice wa wn wc, .slice fa fn fc] w fun e w' => e = .returned (.bool true) ∧ Ext w w' := by
  by_cases h : n < 3 ∨ 10 < n ∨ rows < 1 ∨ 20 < rows
  · exact pool_noarr n rows spares wa fa wn wc fn fc w h
  · obtain ⟨n, rfl⟩ : ∃ m : Nat, n = (m : Int) := ⟨n.toNat, by omega⟩
    obtain ⟨rows, rfl⟩ : ∃ m : Nat, rows = (m : Int) := ⟨rows.toNat, by omega⟩
    by_cases h2 : spares < 0 ∨ 10 < spares
    · exact pool_nopool n rows spares wa fa wn wc fn fc w (by omega) (by omega) (by omega) (by omega) h2
    · obtain ⟨spares, rfl⟩ : ∃ m : Nat, spares = (m : Int) := ⟨spares.toNat, by omega⟩
      exact pool_good n rows spares wn wc fn fc wa fa wl fl w hw hf (by omega) (by omega) (by omega) (by omega) (by omega)

end Go.Proofs.Ytmgppnceddnlmaa
