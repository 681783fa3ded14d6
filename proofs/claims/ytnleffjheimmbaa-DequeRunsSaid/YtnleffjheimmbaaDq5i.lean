/- The deque of ints: values put at either end. -/
import Derived.Test.YtnleffjheimmbaaDq4i
namespace Go.Proofs.Ytnleffjheimmbaa
open Go.RowKit

theorem iRoom.lt {w : World} {g r : Nat} {L : List Int} (h : iRoom w g r L) : r < w.heap.size := by
  obtain ⟨m, c, f, o, cs, h0, h1, h2, h3, h4, _⟩ := h; exact lt_of_heap h4

set_option maxHeartbeats 1000000 in
theorem ipush (g : Nat) (R : Option Nat) (L : List Int) (v : Int) (w : World) (h : iDq w g R L) (hl : L.length ≤ 1000000) :
    Calls Try.prog 14 #[.pointer (some ⟨g, 0, none⟩), .int .i64 v] w fun e w' => e = .returned (.int .i64 0) ∧ ∃ r, iDq w' g (some r) (L ++ [v]) ∧ (R = some r ∨ w.heap.size ≤ r) ∧ Kept (fun k => k = g ∨ k = r) w w' := by
  have hgl := h.lt
  go_enter Try.func14, Try.ntmps14
  go_wp2_with fail
  refine (igrow g R L w h hl).mono ?_
  rintro e w1 ⟨rfl, r, hRm, hr, hk1⟩
  have hrl := hRm.lt
  obtain ⟨m, c, f, o, cs, h0, hlt, hm, hrg, hcs, hf, hring⟩ := hRm
  obtain ⟨c0, c1, c2, f0, f1, f2⟩ := blk3 h0
  obtain ⟨j, hj⟩ : ∃ j, (f + L.length) % m = j := ⟨_, rfl⟩
  have hjm : j < m := by rw [← hj]; exact Nat.mod_lt _ (by omega)
  obtain ⟨u, hu⟩ := hring.typed j hjm
  have cu := cellB hcs hu
  have fu := frozenB hcs (o + j)
  have HJ : Hid ((f + L.length) % m = j) := hj
  clear hj
  go_wp2_with fail
  refine wp_plan 0 [1, 2, 3, 4, 5, 6, 7, 8, 9, 10, 11, 12] 13 [] [] (by kernel_rfl) (by kernel_rfl) ?_
  simp only [wpPlan, pick, List.filterMap_cons, List.filterMap_nil, List.getElem?_cons_succ, List.getElem?_cons_zero]
  have hw : IntKind.i64.wrap (L.length : Int) = L.length := IntWalk.i64_in _ (by omega)
  repeat (quiet_step ((go_at_call 37; exact Calls.quiet_of (iplace_cell g f L.length m c j (some ⟨r, o, none⟩) _ _ (by go_simp) (by go_simp) (by omega) (by omega) (by omega) (by omega) (by omega) HJ))))
  refine wpQuiet_nil ?_
  rintro _ ⟨n1, rfl⟩
  go_wp2
  refine Halt.mk ?_
  go_wp2
  go_ret
  have hring2 := hring.push _ cs o m f L v hlt
  rw [HJ.out] at hring2
  refine ⟨rfl, r, ⟨_, m, c, f, ?_, ?_, by omega, by omega, .inr ⟨r, o, _, rfl, rfl, hrg, ?_, hf, hring2⟩⟩, hr, ?_⟩
  · rw [heap_setCell_ne _ _ hrg.symm, heap_drewN]
    have := heap_setCell_same h0 2 (.int .i64 (L.length + 1))
    simpa using this
  · simp; omega
  · refine heap_setCell_same ?_ _ _
    rw [heap_drewN, heap_setCell_ne _ _ hrg]
    exact hcs
  · refine Kept.setCell (Kept.drewN (Kept.setCell (hk1.mono (fun i _ h => .inl h)) ?_ _) _) ?_ _
    · exact fun _ => .inl rfl
    · exact fun _ => .inr rfl
end Go.Proofs.Ytnleffjheimmbaa
