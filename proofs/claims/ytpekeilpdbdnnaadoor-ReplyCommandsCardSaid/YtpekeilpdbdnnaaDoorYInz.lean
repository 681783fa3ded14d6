/- Merged: Slices of texts that came in. -/
import Derived.Test.YtpekeilpdbdnnaaDoorRLawsz
import Derived.Test.YtpekeilpdbdnnaaDoorZYp3
import Derived.SliceStrings
import Derived.OpenShut
set_option linter.all false
namespace Go.Proofs.YtpekeilpdbdnnaaDoor
open Go.RowKit Go.ChangeShapes

theorem cells_str : Tryd.prog.cellsOf 9 = 1 := by kernel_rfl

theorem texts_in {H : Type} {enc : TypeId × Value → H} {W : World} {fuel : Nat} {a0 : Option Addr} {len cap : Nat} {d : DataW H} {p : List MemPlace}
    (h : DataW.trod enc Tryd.prog W 0 (fun _ => true) true fuel 38 [.slice a0 len cap] = some (d, p)) :
    ∃ L : List Bs, RowV W (.slice a0 len cap) (L.map strV) := by
  rcases open_strings Tryd.underlying38 Tryd.underlying9 cells_str h with ⟨hcs, hx⟩ | ⟨a, len', cap', ss, hcs, _, hl, hm, hz, hx, hcell, hws⟩
  · simp at hcs
    obtain ⟨rfl, rfl, rfl⟩ := hcs
    exact ⟨[], RowV.nil W⟩
  · simp at hcs
    obtain ⟨rfl, rfl, rfl⟩ := hcs
    simp only [if_true] at hz
    have hlen : (List.take len ss).length = len := by rw [List.length_take]; omega
    refine ⟨(ss.take len).map fun s => s.data.toList, RowV.mk ⟨by simp only [List.length_map]; exact hlen, fun hn => ⟨a, rfl, fun j v hj => ?_⟩⟩ hl (fun h => by cases h)⟩
    rw [List.getElem?_map, List.getElem?_map, List.getElem?_take] at hj
    split at hj
    · rename_i hjl
      rw [hcell j (by omega)]
      rw [List.getElem?_eq_getElem (by omega)] at hj
      rw [List.getD_eq_getElem?_getD, List.getElem?_eq_getElem (by omega)]
      simpa [strV] using hj
    · simp at hj
end Go.Proofs.YtpekeilpdbdnnaaDoor
