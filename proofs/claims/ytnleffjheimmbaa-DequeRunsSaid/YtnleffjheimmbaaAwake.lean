/- The law's first question: a row of four. -/
import Derived.Test.YtnleffjheimmbaaDq11i
namespace Go.Proofs.Ytnleffjheimmbaa
open Go.RowKit

theorem holds_new (w : World) (T : TypeId) (xs : List Value) : Holds (w.alloc (.cells xs.toArray T)) (some ⟨w.heap.size, 0, none⟩) xs.length xs := by
  refine ⟨rfl, fun _ => ⟨_, rfl, fun j v hj => ?_⟩⟩
  have : Addr.add ⟨w.heap.size, 0, none⟩ j = ⟨w.heap.size, j, none⟩ := by unfold Addr.add; split <;> simp_all
  rw [this]
  exact cellB (heap_alloc_new w _) (by simpa using hj)

set_option maxHeartbeats 1600000 in
theorem awake_true (w : World) : Calls Try.prog 8 #[] w fun e w' => e = .returned (.bool true) ∧ Kept NoBlock w w' := by
  go_enter Try.func8, Try.ntmps8
  go_wp2_with (go_at_call 30; refine (iof (some ⟨w.heap.size, 0, none⟩) 2 2 [1, 2] _ (holds_new w 3 [.int .i64 1, .int .i64 2]) (by omega)).mono ?_; rintro e w1 ⟨g, R, rfl, hD1, hg1, hR1, hk1⟩)
  go_wp2_with (go_at_call 15; refine (iunshift g R _ 0 _ hD1 (by simp)).mono ?_; rintro e w2 ⟨rfl, r2, hD2, hr2, hk2⟩)
  go_wp2_with (go_at_call 31; refine (iinsert g (some r2) _ 1 9 _ hD2 (by simp) (by simp)).mono ?_; rintro e w3 ⟨rfl, r3, hD3, hr3, hk3⟩; have hD3' : iDq w3 g (some r3) [0, 9, 1, 2] := hD3; clear hD3)
  go_wp2_with (go_at_call 32; refine (ilist_dq g (some r3) [0, 9, 1, 2] _ hD3').mono ?_; rintro e w4 ⟨v, rfl, hrow0, _, hb4⟩; have hrow : w4.ownsRow w3.heap.size 3 1 v 4 [.int .i64 0, .int .i64 9, .int .i64 1, .int .i64 2] := hrow0; clear hrow0; obtain ⟨ap, cap, rfl, h3⟩ := ownsRow_form hrow; obtain ⟨kk, cur, rfl, hkk, _⟩ := h3 (by omega); obtain ⟨ad, had, hc⟩ := (ownsRow_holds hrow).cell (j := 1) (by omega); cases had; clear h3)
  have hg : g < w3.heap.size := hD3'.lt
  have hr : r3 < w3.heap.size := (hD3'.ring rfl).1
  have hD4 : iDq w4 g (some r3) [0, 9, 1, 2] := hD3'.kept (Kept.of_below (S := fun i => w3.heap.size ≤ i) hb4 (fun _ _ h => h)) (by omega) (fun r e => by cases e; omega)
  have hs1 := hk1.size
  have hs2 := hk2.size
  have hs3 := hk3.size
  simp only [World.size_alloc] at hg1 hR1 hs1
  have hK : Kept NoBlock w w4 := by
    refine (((Kept.allocd w _).trans hk1).trans' hk2 ?_).trans' hk3 ?_ |>.trans (Kept.of_below (S := NoBlock) hb4 ?_)
    · rintro i hi (rfl | rfl)
      · omega
      · rcases hr2 with h | h
        · have := hR1 _ h; omega
        · omega
    · rintro i hi (rfl | rfl)
      · omega
      · rcases hr3 with h | h
        · cases h
          rcases hr2 with h | h
          · have := hR1 _ h; omega
          · omega
        · omega
    · intro k h1 h2; omega
  have hc' : w4.cell? ⟨kk, 1, none⟩ = some (.int .i64 9) := hc
  clear hc
  have hl4 : ((([0, 9, 1, 2] : List Int).length : Nat) : Int) = 4 := rfl
  go_wp2_with (go_at_call 18; refine (ilen_dq g (some r3) _ _ hD4).mono ?_; rintro e w' ⟨rfl, rfl⟩)
  go_ret
  exact ⟨rfl, hK⟩
end Go.Proofs.Ytnleffjheimmbaa
