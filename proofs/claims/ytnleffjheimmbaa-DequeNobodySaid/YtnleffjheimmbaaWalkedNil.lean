/- What is ranged over of a deque that is nil: nothing. -/
import Derived.Test.YtnleffjheimmbaaWalked
namespace Go.Proofs.Ytnleffjheimmbaa
open Go.RowKit Go.Shelf
attribute [local go_sem] eqlFn

set_option maxHeartbeats 800000 in
theorem all1w_nil (W : World) (b Bd : Nat) (M : Int) (hW : Wk W b Bd false M 0 [] none) :
    Calls Try.prog 52 #[.func (.func 35) #[] #[.pointer (some ⟨b + 3, 0, none⟩), .pointer (some ⟨b + 4, 0, none⟩), .pointer (some ⟨b + 2, 0, none⟩), .pointer (some ⟨b, 0, none⟩), .pointer (some ⟨b + 1, 0, none⟩)], .pointer (some ⟨Bd, 0, none⟩)] W
      fun e W' => e = .returned (.tuple #[]) ∧ W = W' := by
  have hBd := hW.bd.cell
  clear hW
  go_enter Try.func52, Try.ntmps52
  go_wp2
  go_loopw [3] (fun i wr => i = .int .i64 0 ∧ wr = W) (fun _ _ => 0)
  case atStart => exact ⟨rfl, rfl⟩
  case round =>
    obtain ⟨rfl, rfl⟩ := hrel
    go_wp2_with fail
    refine (slen_nil _).mono ?_
    rintro e w' ⟨rfl, rfl⟩
    go_wp2
    go_end0
    exact ⟨rfl, rfl⟩

set_option maxHeartbeats 800000 in
theorem back1w_nil (W : World) (b Bd : Nat) (M : Int) (hW : Wk W b Bd true M (-1) [] none) :
    Calls Try.prog 53 #[.func (.func 35) #[] #[.pointer (some ⟨b + 3, 0, none⟩), .pointer (some ⟨b + 4, 0, none⟩), .pointer (some ⟨b + 2, 0, none⟩), .pointer (some ⟨b, 0, none⟩), .pointer (some ⟨b + 1, 0, none⟩)], .pointer (some ⟨Bd, 0, none⟩)] W
      fun e W' => e = .returned (.tuple #[]) ∧ W = W' := by
  have hBd := hW.bd.cell
  clear hW
  have hw : IntKind.i64.wrap ((0 : Int) - 1) = -1 := IntWalk.i64_in _ (by omega)
  go_enter Try.func53, Try.ntmps53
  go_wp2_with fail
  refine (slen_nil _).mono ?_
  rintro e w' ⟨rfl, rfl⟩
  go_wp2_with fail
  go_loopw [3] (fun i wr => i = .int .i64 (-1) ∧ wr = W) (fun _ _ => 0)
  case atStart => exact ⟨rfl, rfl⟩
  case round =>
    obtain ⟨rfl, rfl⟩ := hrel
    go_wp2
    go_end0
    exact ⟨rfl, rfl⟩

set_option maxHeartbeats 800000 in
theorem walkedUp_nil (M : Int) (w : World) :
    Calls Try.prog 10 #[.pointer none, .bool false, .int .i64 M] w
      fun e w' => e = .returned (.tuple #[.slice none 0 0, .bool true]) ∧ Below w.heap.size w w' := by
  go_enter Try.func10, Try.ntmps10
  go_wp2_with (go_at_call 33; refine (sall _ _).mono ?_; rintro e w' ⟨rfl, rfl⟩)
  have hW : Wk ((((((w.alloc (.cells #[.bool false] 4)).alloc (.cells #[.int .i64 M] 3)).alloc (.cells #[.slice none 0 0] 22)).alloc (.cells #[.bool true] 4)).alloc (.cells #[.int .i64 0] 3)).alloc (.cells #[.pointer none] 24)) w.heap.size (w.heap.size + 5) false M 0 [] none := by
    refine ⟨(((((Boxed.new w _ _).alloc _).alloc _).alloc _).alloc _).alloc _, ?_, ⟨.slice none 0 0, ?_, World.ownsRow_nil _ _ _ _⟩, ?_, ?_, ?_, by omega⟩
    · simpa using ((((Boxed.new (w.alloc (.cells #[.bool false] 4)) _ _).alloc _).alloc _).alloc _).alloc _
    · simpa using (((Boxed.new ((w.alloc (.cells #[.bool false] 4)).alloc (.cells #[.int .i64 M] 3)) _ _).alloc _).alloc _).alloc _
    · simpa using ((Boxed.new (((w.alloc (.cells #[.bool false] 4)).alloc (.cells #[.int .i64 M] 3)).alloc (.cells #[.slice none 0 0] 22)) _ _).alloc _).alloc _
    · simpa using (Boxed.new ((((w.alloc (.cells #[.bool false] 4)).alloc (.cells #[.int .i64 M] 3)).alloc (.cells #[.slice none 0 0] 22)).alloc (.cells #[.bool true] 4)) _ _).alloc _
    · simpa using Boxed.new (((((w.alloc (.cells #[.bool false] 4)).alloc (.cells #[.int .i64 M] 3)).alloc (.cells #[.slice none 0 0] 22)).alloc (.cells #[.bool true] 4)).alloc (.cells #[.int .i64 0] 3)) _ _
  have hB : Below w.heap.size w ((((((w.alloc (.cells #[.bool false] 4)).alloc (.cells #[.int .i64 M] 3)).alloc (.cells #[.slice none 0 0] 22)).alloc (.cells #[.bool true] 4)).alloc (.cells #[.int .i64 0] 3)).alloc (.cells #[.pointer none] 24)) :=
    ((((((Below.refl _ w).alloc (Nat.le_refl _) _).alloc (by simp) _).alloc (by simp; omega) _).alloc (by simp; omega) _).alloc (by simp; omega) _).alloc (by simp; omega) _
  go_wp2_with (go_at_call 52; refine (all1w_nil _ w.heap.size (w.heap.size + 5) M hW).mono ?_; rintro e w2 ⟨rfl, rfl⟩)
  go_wp2
  go_quiet (fail)
  go_wp2
  go_ret2
  exact ⟨rfl, Below.drewN' hB _⟩
set_option maxHeartbeats 800000 in
theorem walkedBack_nil (M : Int) (w : World) :
    Calls Try.prog 10 #[.pointer none, .bool true, .int .i64 M] w
      fun e w' => e = .returned (.tuple #[.slice none 0 0, .bool true]) ∧ Below w.heap.size w w' := by
  go_enter Try.func10, Try.ntmps10
  have hwl : IntKind.i64.wrap ((0 : Int) - 1) = -1 := IntWalk.i64_in _ (by omega)
  go_wp2_with (first
    | (go_at_call 20; refine (slen_nil _).mono ?_; rintro e w' ⟨rfl, rfl⟩)
    | (go_at_call 33; refine (sall _ _).mono ?_; rintro e w' ⟨rfl, rfl⟩)
    | (go_at_call 34; refine (sback _ _).mono ?_; rintro e w' ⟨rfl, rfl⟩))
  have hW : Wk (((((((w.alloc (.cells #[.bool true] 4)).alloc (.cells #[.int .i64 M] 3)).alloc (.cells #[.slice none 0 0] 22)).alloc (.cells #[.bool true] 4)).alloc (.cells #[.int .i64 (-1)] 3)).alloc (.cells #[.pointer none] 24)).alloc (.cells #[.pointer none] 24)) w.heap.size (w.heap.size + 6) true M (-1) [] none := by
    refine ⟨?_, ?_, ⟨.slice none 0 0, ?_, World.ownsRow_nil _ _ _ _⟩, ?_, ?_, ?_, by omega⟩
    · simpa using ((((((Boxed.new w _ _).alloc _).alloc _).alloc _).alloc _).alloc _).alloc _
    · simpa using (((((Boxed.new (w.alloc (.cells #[.bool true] 4)) _ _).alloc _).alloc _).alloc _).alloc _).alloc _
    · simpa using ((((Boxed.new ((w.alloc (.cells #[.bool true] 4)).alloc (.cells #[.int .i64 M] 3)) _ _).alloc _).alloc _).alloc _).alloc _
    · simpa using (((Boxed.new (((w.alloc (.cells #[.bool true] 4)).alloc (.cells #[.int .i64 M] 3)).alloc (.cells #[.slice none 0 0] 22)) _ _).alloc _).alloc _).alloc _
    · simpa using ((Boxed.new ((((w.alloc (.cells #[.bool true] 4)).alloc (.cells #[.int .i64 M] 3)).alloc (.cells #[.slice none 0 0] 22)).alloc (.cells #[.bool true] 4)) _ _).alloc _).alloc _
    · simpa using Boxed.new ((((((w.alloc (.cells #[.bool true] 4)).alloc (.cells #[.int .i64 M] 3)).alloc (.cells #[.slice none 0 0] 22)).alloc (.cells #[.bool true] 4)).alloc (.cells #[.int .i64 (-1)] 3)).alloc (.cells #[.pointer none] 24)) _ _
  have hB : Below w.heap.size w (((((((w.alloc (.cells #[.bool true] 4)).alloc (.cells #[.int .i64 M] 3)).alloc (.cells #[.slice none 0 0] 22)).alloc (.cells #[.bool true] 4)).alloc (.cells #[.int .i64 (-1)] 3)).alloc (.cells #[.pointer none] 24)).alloc (.cells #[.pointer none] 24)) := (((((((Below.refl _ w).alloc (Nat.le_refl _) _).alloc (by simp) _).alloc (by simp; omega) _).alloc (by simp; omega) _).alloc (by simp; omega) _).alloc (by simp; omega) _).alloc (by simp; omega) _
  go_wp2_with (go_at_call 53; refine (back1w_nil _ w.heap.size (w.heap.size + 6) M hW).mono ?_; rintro e w2 ⟨rfl, rfl⟩)
  go_wp2
  go_quiet (fail)
  go_wp2
  go_ret2
  exact ⟨rfl, Below.drewN' hB _⟩
end Go.Proofs.Ytnleffjheimmbaa
