/- The deque of strings: the front; values taken off either end; a place read and written. -/
import Derived.Test.YtnleffjheimmbaaDq5s
namespace Go.Proofs.Ytnleffjheimmbaa
open Go.RowKit

set_option maxHeartbeats 1000000 in
theorem sunshift (g : Nat) (R : Option Nat) (L : List ByteArray) (v : ByteArray) (w : World) (h : sDq w g R L) (hl : L.length ≤ 1000000) :
    Calls Try.prog 26 #[.pointer (some ⟨g, 0, none⟩), .string v] w fun e w' => e = .returned (.int .i64 0) ∧ ∃ r, sDq w' g (some r) (v :: L) ∧ (R = some r ∨ w.heap.size ≤ r) ∧ Kept (fun k => k = g ∨ k = r) w w' := by
  have hgl := h.lt
  go_enter Try.func26, Try.ntmps26
  go_wp2_with fail
  refine (sgrow g R L w h hl).mono ?_
  rintro e w1 ⟨rfl, r, hRm, hr, hk1⟩
  have hrl := hRm.lt
  obtain ⟨m, c, f, o, cs, h0, hlt, hm, hrg, hcs, hf, hring⟩ := hRm
  obtain ⟨c0, c1, c2, f0, f1, f2⟩ := blk3 h0
  obtain ⟨j, hj⟩ : ∃ j, (f + m - 1) % m = j := ⟨_, rfl⟩
  have hjm : j < m := by rw [← hj]; exact Nat.mod_lt _ (by omega)
  obtain ⟨u, hu⟩ := hring.typed j hjm
  have cu := cellB hcs hu
  have fu := frozenB hcs (o + j)
  have HJ : Hid ((f + m - 1) % m = j) := hj
  have hjt : Int.tmod ((f : Int) + m - 1) m = j := by
    rw [show ((f : Int) + m - 1) = ((f + m - 1 : Nat) : Int) by omega, Int.tmod_eq_emod_of_nonneg (by omega), ← Int.natCast_emod, hj]
  clear hj
  have hw1 : IntKind.i64.wrap ((f : Int) + m) = f + m := IntWalk.i64_in _ (by omega)
  have hw2 : IntKind.i64.wrap ((f : Int) + m - 1) = f + m - 1 := IntWalk.i64_in _ (by omega)
  have hw3 : IntKind.i64.wrap (j : Int) = j := IntWalk.i64_in _ (by omega)
  have hmz : ((m : Int) == 0) = false := by simp; omega
  have hmz' : ¬ m = 0 := by omega
  go_wp2_with fail
  refine wp_plan 0 [1, 2, 3, 4, 5, 6, 7, 8, 9, 10, 11, 12, 13, 14, 15, 16, 17, 18, 19] 20 [] [] (by kernel_rfl) (by kernel_rfl) ?_
  simp only [wpPlan, pick, List.filterMap_cons, List.filterMap_nil, List.getElem?_cons_succ, List.getElem?_cons_zero]
  repeat (quiet_step (fail))
  refine wpQuiet_nil ?_
  rintro _ ⟨n1, rfl⟩
  go_wp2
  refine Halt.mk ?_
  go_wp2
  refine wp_plan 0 [1, 2, 3, 4, 5, 6, 7, 8, 9] 10 [] [] (by kernel_rfl) (by kernel_rfl) ?_
  simp only [wpPlan, pick, List.filterMap_cons, List.filterMap_nil, List.getElem?_cons_succ, List.getElem?_cons_zero]
  repeat (quiet_step (fail))
  refine wpQuiet_nil ?_
  rintro _ ⟨n2, rfl⟩
  go_wp2
  refine Halt.mk ?_
  go_wp2
  go_ret
  have hring2 := hring.unshift _ cs o m f L v hlt hf
  rw [HJ.out] at hring2
  refine ⟨rfl, r, ⟨_, m, c, j, ?_, ?_, by omega, by omega, .inr ⟨r, o, _, rfl, rfl, hrg, ?_, hjm, hring2⟩⟩, hr, ?_⟩
  · rw [heap_setCell_ne _ _ hrg.symm, heap_drewN]
    have s1 := heap_setCell_same (w := w1.drewN n1) h0 1 (.int .i64 j)
    have s2 := heap_setCell_same s1 2 (.int .i64 (L.length + 1))
    simpa using s2
  · simp; omega
  · refine heap_setCell_same ?_ _ _
    rw [heap_drewN, heap_setCell_ne _ _ hrg, heap_setCell_ne _ _ hrg, heap_drewN]
    exact hcs
  · refine Kept.setCell (Kept.drewN (Kept.setCell (Kept.setCell ((hk1.mono (fun i _ h => .inl h)).drewN _) ?_ _) ?_ _) _) ?_ _
    · exact fun _ => .inl rfl
    · exact fun _ => .inl rfl
    · exact fun _ => .inr rfl
end Go.Proofs.Ytnleffjheimmbaa
