/- 'walked': what is ranged over, rising or falling. -/
import Derived.Test.YtnleffjheimmbaaWalk
namespace Go.Proofs.Ytnleffjheimmbaa
open Go.RowKit Go.Shelf

theorem sback (d : Option Addr) (w : World) : Calls Try.prog 34 #[.pointer d] w fun e w' =>
    e = .returned (.func (.func 53) #[] #[.pointer (some ⟨w.heap.size, 0, none⟩)]) ∧ w.alloc (.cells #[.pointer d] 24) = w' := by
  go_enter Try.func34, Try.ntmps34
  go_wp2
  go_ret
  exact ⟨rfl, rfl⟩

theorem eqlFn (f : Fn) (lb : Array Value) (w : World) : Sem.run Try.prog (binOp .eql 63 (.func f #[] lb) .nilFunc) w = .ok (.bool false) w := by
  rfl

attribute [local go_sem] eqlFn

set_option maxHeartbeats 800000 in
theorem walkedUp (g : Nat) (R : Option Nat) (L : List ByteArray) (M : Nat) (hM : 1 ≤ M) (w : World) (hD : sDq w g R L) (hL : L.length ≤ 1000000) :
    Calls Try.prog 10 #[.pointer (some ⟨g, 0, none⟩), .bool false, .int .i64 M] w
      fun e w' => ∃ v, e = .returned (.tuple #[v, .bool true]) ∧ w'.ownsRow w.heap.size 9 1 v (L.take M).length ((L.take M).map .string) ∧ Below w.heap.size w w' := by
  have hgl := hD.lt
  have hRl := hD.grown
  go_enter Try.func10, Try.ntmps10
  go_wp2_with (go_at_call 33; refine (sall _ _).mono ?_; rintro e w' ⟨rfl, rfl⟩)
  have hW : Wk ((((((w.alloc (.cells #[.bool false] 4)).alloc (.cells #[.int .i64 M] 3)).alloc (.cells #[.slice none 0 0] 22)).alloc (.cells #[.bool true] 4)).alloc (.cells #[.int .i64 0] 3)).alloc (.cells #[.pointer (some ⟨g, 0, none⟩)] 24)) w.heap.size (w.heap.size + 5) false M 0 [] (some ⟨g, 0, none⟩) := by
    refine ⟨(((((Boxed.new w _ _).alloc _).alloc _).alloc _).alloc _).alloc _, ?_, ⟨.slice none 0 0, ?_, World.ownsRow_nil _ _ _ _⟩, ?_, ?_, ?_, by omega⟩
    · simpa using ((((Boxed.new (w.alloc (.cells #[.bool false] 4)) _ _).alloc _).alloc _).alloc _).alloc _
    · simpa using (((Boxed.new ((w.alloc (.cells #[.bool false] 4)).alloc (.cells #[.int .i64 M] 3)) _ _).alloc _).alloc _).alloc _
    · simpa using ((Boxed.new (((w.alloc (.cells #[.bool false] 4)).alloc (.cells #[.int .i64 M] 3)).alloc (.cells #[.slice none 0 0] 22)) _ _).alloc _).alloc _
    · simpa using (Boxed.new ((((w.alloc (.cells #[.bool false] 4)).alloc (.cells #[.int .i64 M] 3)).alloc (.cells #[.slice none 0 0] 22)).alloc (.cells #[.bool true] 4)) _ _).alloc _
    · simpa using Boxed.new (((((w.alloc (.cells #[.bool false] 4)).alloc (.cells #[.int .i64 M] 3)).alloc (.cells #[.slice none 0 0] 22)).alloc (.cells #[.bool true] 4)).alloc (.cells #[.int .i64 0] 3)) _ _
  have hB : Below w.heap.size w ((((((w.alloc (.cells #[.bool false] 4)).alloc (.cells #[.int .i64 M] 3)).alloc (.cells #[.slice none 0 0] 22)).alloc (.cells #[.bool true] 4)).alloc (.cells #[.int .i64 0] 3)).alloc (.cells #[.pointer (some ⟨g, 0, none⟩)] 24)) :=
    ((((((Below.refl _ w).alloc (Nat.le_refl _) _).alloc (by simp) _).alloc (by simp; omega) _).alloc (by simp; omega) _).alloc (by simp; omega) _).alloc (by simp; omega) _
  go_wp2_with (go_at_call 52; refine (all1w _ w.heap.size (w.heap.size + 5) g R L M hM hW (below_dq hB hD hgl hRl) hgl hRl hL).mono ?_; rintro e w2 ⟨rfl, ⟨a', hW2⟩, hB2⟩)
  obtain ⟨b0, b1, ⟨v, b2, hrow⟩, b3, b4, bd, hd⟩ := hW2
  have k2 := b2.cell
  have k3 := b3.cell
  go_wp2
  go_quiet (fail)
  go_wp2
  go_ret2
  exact ⟨v, rfl, hrow, Below.drewN' (hB.trans hB2) _⟩
set_option maxHeartbeats 800000 in
theorem walkedBack (g : Nat) (R : Option Nat) (L : List ByteArray) (M : Nat) (hM : 1 ≤ M) (w : World) (hD : sDq w g R L) (hL : L.length ≤ 1000000) :
    Calls Try.prog 10 #[.pointer (some ⟨g, 0, none⟩), .bool true, .int .i64 M] w
      fun e w' => ∃ v, e = .returned (.tuple #[v, .bool true]) ∧ w'.ownsRow w.heap.size 9 1 v (L.reverse.take M).length ((L.reverse.take M).map .string) ∧ Below w.heap.size w w' := by
  have hgl := hD.lt
  have hRl := hD.grown
  go_enter Try.func10, Try.ntmps10
  have hwl : IntKind.i64.wrap ((L.length : Int) - 1) = L.length - 1 := IntWalk.i64_in _ (by omega)
  have hD4 : ∀ x : Int, sDq (((((w.alloc (.cells #[.bool true] 4)).alloc (.cells #[.int .i64 M] 3)).alloc (.cells #[.slice none 0 0] 22)).alloc (.cells #[.bool true] 4)).alloc (.cells #[.int .i64 x] 3)) g R L := fun x => ((((hD.alloc _).alloc _).alloc _).alloc _).alloc _
  go_wp2_with (first
    | (go_at_call 20; refine (slen_dq g R L _ (hD4 _)).mono ?_; rintro e w' ⟨rfl, rfl⟩)
    | (go_at_call 33; refine (sall _ _).mono ?_; rintro e w' ⟨rfl, rfl⟩)
    | (go_at_call 34; refine (sback _ _).mono ?_; rintro e w' ⟨rfl, rfl⟩))
  have hW : Wk (((((((w.alloc (.cells #[.bool true] 4)).alloc (.cells #[.int .i64 M] 3)).alloc (.cells #[.slice none 0 0] 22)).alloc (.cells #[.bool true] 4)).alloc (.cells #[.int .i64 ((L.length : Int) - 1)] 3)).alloc (.cells #[.pointer (some ⟨g, 0, none⟩)] 24)).alloc (.cells #[.pointer (some ⟨g, 0, none⟩)] 24)) w.heap.size (w.heap.size + 6) true M ((L.length : Int) - 1) [] (some ⟨g, 0, none⟩) := by
    refine ⟨?_, ?_, ⟨.slice none 0 0, ?_, World.ownsRow_nil _ _ _ _⟩, ?_, ?_, ?_, by omega⟩
    · simpa using ((((((Boxed.new w _ _).alloc _).alloc _).alloc _).alloc _).alloc _).alloc _
    · simpa using (((((Boxed.new (w.alloc (.cells #[.bool true] 4)) _ _).alloc _).alloc _).alloc _).alloc _).alloc _
    · simpa using ((((Boxed.new ((w.alloc (.cells #[.bool true] 4)).alloc (.cells #[.int .i64 M] 3)) _ _).alloc _).alloc _).alloc _).alloc _
    · simpa using (((Boxed.new (((w.alloc (.cells #[.bool true] 4)).alloc (.cells #[.int .i64 M] 3)).alloc (.cells #[.slice none 0 0] 22)) _ _).alloc _).alloc _).alloc _
    · simpa using ((Boxed.new ((((w.alloc (.cells #[.bool true] 4)).alloc (.cells #[.int .i64 M] 3)).alloc (.cells #[.slice none 0 0] 22)).alloc (.cells #[.bool true] 4)) _ _).alloc _).alloc _
    · simpa using Boxed.new ((((((w.alloc (.cells #[.bool true] 4)).alloc (.cells #[.int .i64 M] 3)).alloc (.cells #[.slice none 0 0] 22)).alloc (.cells #[.bool true] 4)).alloc (.cells #[.int .i64 ((L.length : Int) - 1)] 3)).alloc (.cells #[.pointer (some ⟨g, 0, none⟩)] 24)) _ _
  have hB : Below w.heap.size w (((((((w.alloc (.cells #[.bool true] 4)).alloc (.cells #[.int .i64 M] 3)).alloc (.cells #[.slice none 0 0] 22)).alloc (.cells #[.bool true] 4)).alloc (.cells #[.int .i64 ((L.length : Int) - 1)] 3)).alloc (.cells #[.pointer (some ⟨g, 0, none⟩)] 24)).alloc (.cells #[.pointer (some ⟨g, 0, none⟩)] 24)) := (((((((Below.refl _ w).alloc (Nat.le_refl _) _).alloc (by simp) _).alloc (by simp; omega) _).alloc (by simp; omega) _).alloc (by simp; omega) _).alloc (by simp; omega) _).alloc (by simp; omega) _
  go_wp2_with (go_at_call 53; refine (back1w _ w.heap.size (w.heap.size + 6) g R L M hM hW (below_dq hB hD hgl hRl) hgl hRl hL).mono ?_; rintro e w2 ⟨rfl, ⟨a', hW2⟩, hB2⟩)
  obtain ⟨b0, b1, ⟨v, b2, hrow⟩, b3, b4, bd, hd⟩ := hW2
  have k2 := b2.cell
  have k3 := b3.cell
  go_wp2
  go_quiet (fail)
  go_wp2
  go_ret2
  exact ⟨v, rfl, hrow, Below.drewN' (hB.trans hB2) _⟩
end Go.Proofs.Ytnleffjheimmbaa
