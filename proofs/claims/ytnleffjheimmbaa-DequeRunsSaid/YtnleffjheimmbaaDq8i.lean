/- The deque of ints: Pop and Shift. -/
import Derived.Test.YtnleffjheimmbaaDq7i
namespace Go.Proofs.Ytnleffjheimmbaa
open Go.RowKit

set_option maxHeartbeats 800000 in
theorem ipop_none (d : Option Addr) (w : World) (hlen : ∀ w1, Kept NoBlock w w1 → Calls Try.prog 18 #[.pointer d] w1 fun e w' => e = .returned (.int .i64 0) ∧ w1 = w') :
    Calls Try.prog 17 #[.pointer d] w fun e w' => e = .returned (.tuple #[.int .i64 0, .bool false]) ∧ Kept NoBlock w w' := by
  have HL := Lib.hid hlen
  clear hlen
  go_enter Try.func17, Try.ntmps17
  go_wp2_with fail
  have hw : IntKind.i64.wrap ((0 : Int) - 1) = -1 := IntWalk.i64_in _ (by omega)
  refine wp_plan 0 [1, 2, 3, 4] 5 [] [6, 7, 8, 9] (by kernel_rfl) (by kernel_rfl) ?_
  simp only [wpPlan, pick, List.filterMap_cons, List.filterMap_nil, List.getElem?_cons_succ, List.getElem?_cons_zero]
  repeat (quiet_step ((go_at_call 18; exact Calls.quiet_of_same ((HL.out _ ((Kept.allocd _ _).drewN _)).mono (fun e w' h => ⟨h.1, h.2.symm⟩)))))
  refine wpQuiet_nil ?_
  rintro _ ⟨n1, rfl⟩
  go_wp2_with (go_at_call 38; refine (itake_none d _ _ _ (HL.out _ ((Kept.allocd _ _).drewN _))).mono ?_; rintro e w' ⟨rfl, rfl⟩)
  refine Halt.mk ?_
  repeat (quiet_step (fail))
  refine wpQuiet_nil ?_
  rintro _ ⟨n2, rfl⟩
  go_wp2
  go_ret2
  exact ⟨rfl, ((Kept.allocd _ _).drewN _).drewN _⟩

theorem ipop_nil (g : Nat) (R : Option Nat) (w : World) (hD : iDq w g R []) :
    Calls Try.prog 17 #[.pointer (some ⟨g, 0, none⟩)] w fun e w' => e = .returned (.tuple #[.int .i64 0, .bool false]) ∧ Kept NoBlock w w' :=
  ipop_none _ w (fun w1 hk => ilen_dq g R [] w1 (hD.kept hk (fun h => h) (fun _ _ h => h)))

theorem ipop_nobody (w : World) :
    Calls Try.prog 17 #[.pointer none] w fun e w' => e = .returned (.tuple #[.int .i64 0, .bool false]) ∧ Kept NoBlock w w' :=
  ipop_none _ w (fun w1 _ => ilen_nil w1)

set_option maxHeartbeats 800000 in
theorem ipop (g : Nat) (R : Option Nat) (L : List Int) (v : Int) (w : World) (hD : iDq w g R (L ++ [v])) :
    Calls Try.prog 17 #[.pointer (some ⟨g, 0, none⟩)] w
      fun e w' => e = .returned (.tuple #[.int .i64 v, .bool true]) ∧ iDq w' g R L ∧ Kept (fun k => k = g ∨ R = some k) w w' := by
  have hlen := hD.len
  simp only [List.length_append, List.length_cons, List.length_nil] at hlen
  have hgl := hD.lt
  have hE : (((L ++ [v]).length : Nat) : Int) = L.length + 1 := by simp
  go_enter Try.func17, Try.ntmps17
  go_wp2_with fail
  have hw : IntKind.i64.wrap ((L.length : Int) + 1 - 1) = L.length := (IntWalk.i64_in _ (by omega)).trans (by omega)
  refine wp_plan 0 [1, 2, 3, 4] 5 [] [6, 7, 8, 9] (by kernel_rfl) (by kernel_rfl) ?_
  simp only [wpPlan, pick, List.filterMap_cons, List.filterMap_nil, List.getElem?_cons_succ, List.getElem?_cons_zero]
  repeat (quiet_step ((go_at_call 18; exact Calls.quiet_of_same ((ilen_dq g R (L ++ [v]) _ ((hD.alloc _).drewN _)).mono (fun e w' h => ⟨h.1.trans (by rw [hE]), h.2.symm⟩)))))
  refine wpQuiet_nil ?_
  rintro _ ⟨n1, rfl⟩
  have hbox : ((w.alloc (.cells #[.pointer (some ⟨g, 0, none⟩)] 58 (0, 0))).drewN n1).heap[w.heap.size]? = some (.cells #[.pointer (some ⟨g, 0, none⟩)] 58 (0, 0)) := heap_alloc_new w _
  go_wp2_with (go_at_call 38; refine (itake_pop w.heap.size g R L v _ hbox ((hD.alloc _).drewN _)).mono ?_; rintro e w' ⟨rfl, hd, hk⟩)
  refine Halt.mk ?_
  repeat (quiet_step (fail))
  refine wpQuiet_nil ?_
  rintro _ ⟨n2, rfl⟩
  go_wp2
  go_ret2
  exact ⟨rfl, hd.drewN _, (Kept.trans (((Kept.allocd _ _).drewN n1).mono (fun _ _ h => h.elim)) hk).drewN _⟩

set_option maxHeartbeats 800000 in
theorem ishift_none (d : Option Addr) (w : World) (hlen : ∀ w1, Kept NoBlock w w1 → Calls Try.prog 18 #[.pointer d] w1 fun e w' => e = .returned (.int .i64 0) ∧ w1 = w') :
    Calls Try.prog 16 #[.pointer d] w fun e w' => e = .returned (.tuple #[.int .i64 0, .bool false]) ∧ Kept NoBlock w w' := by
  have HL := Lib.hid hlen
  clear hlen
  go_enter Try.func16, Try.ntmps16
  go_wp2_with (go_at_call 38; refine (itake_none d _ _ _ (HL.out _ (Kept.allocd _ _))).mono ?_; rintro e w' ⟨rfl, rfl⟩)
  go_ret2
  exact ⟨rfl, Kept.allocd _ _⟩

theorem ishift_nil (g : Nat) (R : Option Nat) (w : World) (hD : iDq w g R []) :
    Calls Try.prog 16 #[.pointer (some ⟨g, 0, none⟩)] w fun e w' => e = .returned (.tuple #[.int .i64 0, .bool false]) ∧ Kept NoBlock w w' :=
  ishift_none _ w (fun w1 hk => ilen_dq g R [] w1 (hD.kept hk (fun h => h) (fun _ _ h => h)))

theorem ishift_nobody (w : World) :
    Calls Try.prog 16 #[.pointer none] w fun e w' => e = .returned (.tuple #[.int .i64 0, .bool false]) ∧ Kept NoBlock w w' :=
  ishift_none _ w (fun w1 _ => ilen_nil w1)

set_option maxHeartbeats 800000 in
theorem ishift (g : Nat) (R : Option Nat) (L : List Int) (v : Int) (w : World) (hD : iDq w g R (v :: L)) :
    Calls Try.prog 16 #[.pointer (some ⟨g, 0, none⟩)] w
      fun e w' => e = .returned (.tuple #[.int .i64 v, .bool true]) ∧ iDq w' g R L ∧ Kept (fun k => k = g ∨ R = some k) w w' := by
  have hbox : (w.alloc (.cells #[.pointer (some ⟨g, 0, none⟩)] 58 (0, 0))).heap[w.heap.size]? = some (.cells #[.pointer (some ⟨g, 0, none⟩)] 58 (0, 0)) := heap_alloc_new w _
  go_enter Try.func16, Try.ntmps16
  go_wp2_with (go_at_call 38; refine (itake_shift w.heap.size g R L v _ hbox (hD.alloc _)).mono ?_; rintro e w' ⟨rfl, hd, hk⟩)
  go_ret2
  exact ⟨rfl, hd, Kept.trans ((Kept.allocd _ _).mono (fun _ _ h => h.elim)) hk⟩
end Go.Proofs.Ytnleffjheimmbaa
