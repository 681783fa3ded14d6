/- The laws of numbers that reach no text but one. -/
import Derived.Test.YtakfheljiobpkaaDoorNum4
namespace Go.Proofs.YtakfheljiobpkaaDoor
open Go.RowKit

theorem itoa17 : Lib.itoa (-17) = [45, 49, 55] := by
  simp [Lib.itoa, Lib.decDigits]
theorem parse17 : parseV [45, 49, 55] = (-17, 0) := by
  refine parseV_ok ?_ (v := -17) (by decide +kernel) itoa17
  intro i c hi hc
  match i, hi with
  | 0, _ => cases hc; decide
  | 1, _ => cases hc; decide
  | 2, _ => cases hc; decide

set_option maxHeartbeats 1600000 in
theorem alive_true (w : World) (hV : Vs w) : Calls Tryd.prog 14 #[] w fun e w' => e = .returned (.bool true) ∧ Below w.heap.size w w' := by
  go_enter Tryd.func14, Tryd.ntmps14
  go_wp2_with fail
  refine (nplace (-1) 3 w ⟨by omega, by omega⟩ ⟨by omega, by omega⟩).mono ?_
  rintro e w1 ⟨x, b, rfl, hp, rfl⟩
  have hx : x = 2 ∧ b = true := hp.same (.inl ⟨rfl, by omega⟩)
  obtain ⟨rfl, rfl⟩ := hx
  clear hp
  go_wp2_with fail
  refine (nparse ⟨#[45, 49, 55]⟩ (by decide) w hV).mono ?_
  rintro e w2 ⟨rfl, hb2⟩
  have e1 : parseV (⟨#[45, 49, 55]⟩ : ByteArray).data.toList = (-17, 0) := parse17
  rw [e1]
  have hV2 := hV.below hb2
  go_wp2_with fail
  refine (ntext (-17) (by omega) (by omega) w2 hV2).mono ?_
  rintro e w3 ⟨rfl, hb3⟩
  rw [itoa17]
  go_wp2_with fail
  go_ret
  exact ⟨rfl, hb2.trans (hb3.mono hb2.size)⟩
end Go.Proofs.YtakfheljiobpkaaDoor
