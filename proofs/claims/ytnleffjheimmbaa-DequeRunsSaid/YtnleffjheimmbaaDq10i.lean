/- The deque of ints: a row made of values. -/
import Derived.Test.YtnleffjheimmbaaDq9i
namespace Go.Proofs.Ytnleffjheimmbaa
open Go.RowKit

set_option maxHeartbeats 800000 in
theorem iof (ap : Option Addr) (n c0 : Nat) (xs : List Int) (w : World) (hX : Holds w ap n (xs.map (.int .i64 ·))) (hl : n ≤ 1000000) :
    Calls Try.prog 30 #[.slice ap n c0] w fun e w' => ∃ g R, e = .returned (.pointer (some ⟨g, 0, none⟩)) ∧ iDq w' g R xs ∧ w.heap.size ≤ g ∧ (∀ r, R = some r → w.heap.size ≤ r) ∧ Kept NoBlock w w' := by
  have hxl : xs.length = n := by simpa using hX.1
  have HX := Lib.hid hX
  go_enter Try.func30, Try.ntmps30
  go_wp2
  go_loopw [10] (fun i wr => ∃ (k : Nat) (R : Option Nat), k ≤ n ∧ i = .int .i64 k ∧ iDq wr w.heap.size R (xs.take k) ∧ (∀ r, R = some r → w.heap.size ≤ r) ∧ Kept NoBlock w wr) (fun i _ => n - (intOf i).toNat)
  case atStart =>
    exact ⟨0, none, Nat.zero_le _, rfl, ⟨none, 0, 0, 0, heap_alloc_new w _, by simp, by omega, by omega, .inl ⟨rfl, rfl⟩⟩, by simp, Kept.allocd _ _⟩
  case round =>
    obtain ⟨k, R, hk, rfl, hD, hR, hK⟩ := hrel
    by_cases hlt : k < n
    · have hlk : (xs.take k).length = k := by rw [List.length_take]; omega
      obtain ⟨ad, rfl, hcs⟩ := hX.2 (by omega)
      have hcell : wr.cell? (ad.add k) = some (.int .i64 xs[k]) := by
        rw [World.cell?_of_block (w := w) (hK.block _ (cell_lt (hcs k _ (List.getElem?_eq_getElem (by simp; omega)))) (fun h => h))]
        exact hcs k _ (by simp)
      clear hX hcs
      go_wp2_with (go_at_call 14; refine (ipush _ R (xs.take k) xs[k] _ hD (by omega)).mono ?_; rintro e w' ⟨rfl, r, hD2, hr, hk2⟩)
      go_roundw
      case rel =>
        refine ⟨k + 1, some r, by omega, by go_num, ?_, ?_, ?_⟩
        · rw [List.take_succ_eq_append_getElem (by omega)]; exact hD2
        · intro r' e
          cases e
          rcases hr with hr | hr
          · exact hR _ hr
          · exact Nat.le_trans hK.size hr
        · refine hK.trans' hk2 ?_
          rintro i hi (rfl | rfl)
          · exact absurd hi (Nat.lt_irrefl _)
          · rcases hr with hr | hr
            · have := hR _ hr; omega
            · have := hK.size; omega
      case measure => simp [intOf]; omega
    · obtain rfl : k = n := by omega
      go_wp2
      go_ret
      rw [List.take_of_length_le (by omega)] at hD
      exact ⟨_, R, rfl, hD, Nat.le_refl _, hR, hK⟩
end Go.Proofs.Ytnleffjheimmbaa
