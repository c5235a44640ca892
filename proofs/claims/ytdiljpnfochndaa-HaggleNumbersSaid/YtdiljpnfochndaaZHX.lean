/- A part of the walk: what this seat's statements share. -/
import Derived.Test.YtdiljpnfochndaaZV11
set_option linter.unusedVariables false
set_option linter.unusedSimpArgs false
/- Arguments as the walks read them. -/
namespace Go.Proofs.Ytdiljpnfochndaa.VW
open Go Go.RowKit
theorem sl_open {w : World} {x : Addr} {len cap : Nat} {zs : List Int} (hl : len ≤ cap) (hm : cap ≤ maxLen) (hz : zs.length = cap) (hc : ∀ i, i < zs.length → w.cell? (x.add i) = some (.int .i64 (zs.getD i 0))) : SlI w (.slice (some x) len cap) (zs.take len) := by
  have hlen : (zs.take len).length = len := by rw [List.length_take]; omega
  refine ⟨by rw [hlen]; simp only [maxLen] at hm; omega, some x, cap, by rw [hlen], fun _ => ⟨x, rfl, fun j hj => ?_⟩⟩
  rw [hlen] at hj
  rw [hc j (by omega)]
  simp [List.getD_eq_getElem?_getD, List.getElem?_take, hj]
end Go.Proofs.Ytdiljpnfochndaa.VW
