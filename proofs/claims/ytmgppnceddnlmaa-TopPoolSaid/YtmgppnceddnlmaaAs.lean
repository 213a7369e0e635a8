/- errors.As at the target *api.Errno, by Go's own text, and plain.Told. (Turned from the worked proof ToyasAs.) -/
import Derived.Test.YtmgppnceddnlmaaMem
import Derived.LaidEql
import Derived.Stop.Asserts
namespace Go.Proofs.Ytmgppnceddnlmaa
open Go.RowKit Go.Extern.Stop Go.Stop Go.Extern

/-! ### CLOSED FACTS ON THE MODEL's ENTRIES FOR internal/reflectlite, at this program's types: 25: *p.E · 27: **p.E · 23: error · 45: reflectlite's rtype · 1: how many package-level variables the dump has -/
/-! ### THE ENTRIES THAT READ OR WRITE MEMORY: laws with a premise on the cell (after Derived/Lib/ReflectliteSlice.lean's manner: each unfolding a lemma of its own, by rfl) -/
end Go.Proofs.Ytmgppnceddnlmaa
