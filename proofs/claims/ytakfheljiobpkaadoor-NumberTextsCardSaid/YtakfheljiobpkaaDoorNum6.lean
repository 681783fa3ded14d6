/- The five laws, walked. -/
import Derived.Test.YtakfheljiobpkaaDoorNum5
namespace Go.Proofs.YtakfheljiobpkaaDoor
open Go.RowKit

def True1 (w : World) (e : Ending) (w' : World) : Prop := e = .returned (.bool true) ∧ Below w.heap.size w w'

set_option maxHeartbeats 1600000 in
theorem law_times (a b : Int) (w : World) (hV : Vs w) (ha : In64 a) (hb : In64 b) : Calls Tryd.prog 6 #[.int .i64 a, .int .i64 b] w (True1 w) := by
  go_enter Tryd.func6, Tryd.ntmps6
  go_wp2_with fail
  refine (ntimes a b w ha hb).mono ?_
  rintro e w1 ⟨x, y, rfl, h1, rfl⟩
  go_wp2_with fail
  refine (nrtimes a b w ha hb).mono ?_
  rintro e w1 ⟨x', y', rfl, h2, rfl⟩
  obtain ⟨rfl, rfl⟩ := h1.same h2
  clear h1 h2 ha hb
  go_wp2_with fail
  refine (alive_true w hV).mono ?_
  rintro e w1 ⟨rfl, hb⟩
  go_wp2
  go_ret
  exact ⟨rfl, hb⟩

set_option maxHeartbeats 1600000 in
theorem law_timesOf (a b : Int) (s : Bool) (w : World) (hV : Vs w) (ha : In64 a) (hb : In64 b) : Calls Tryd.prog 7 #[.int .i64 a, .int .i64 b, .bool s] w (True1 w) := by
  go_enter Tryd.func7, Tryd.ntmps7
  go_wp2_with fail
  refine (nmilli a b s w ha hb).mono ?_
  rintro e w1 ⟨x, y, rfl, h1, rfl⟩
  go_wp2_with fail
  refine (nrmilli a b s w ha hb).mono ?_
  rintro e w1 ⟨x', y', rfl, h2, rfl⟩
  obtain ⟨rfl, rfl⟩ := h1.same h2
  clear h1 h2 ha hb
  go_wp2_with fail
  refine (alive_true w hV).mono ?_
  rintro e w1 ⟨rfl, hb⟩
  go_wp2
  go_ret
  exact ⟨rfl, hb⟩

set_option maxHeartbeats 1600000 in
theorem law_places (i k n : Int) (w : World) (hV : Vs w) (hi : In64 i) (hk : In64 k) (hn : In64 n) : Calls Tryd.prog 8 #[.int .i64 i, .int .i64 k, .int .i64 n] w (True1 w) := by
  go_enter Tryd.func8, Tryd.ntmps8
  go_wp2_with fail
  refine (nplace i n w hi hn).mono ?_
  rintro e w1 ⟨x, y, rfl, h1, rfl⟩
  go_wp2_with fail
  refine (nrplace i n w hi hn).mono ?_
  rintro e w1 ⟨x', y', rfl, h2, rfl⟩
  obtain ⟨rfl, rfl⟩ := h1.same h2
  clear h1 h2
  go_wp2_with fail
  refine (nrange i k n w hi hk hn).mono ?_
  rintro e w1 ⟨u, v, rfl, h1, rfl⟩
  go_wp2_with fail
  refine (nrrange i k n w hi hk hn).mono ?_
  rintro e w1 ⟨u', v', rfl, h2, rfl⟩
  obtain ⟨rfl, rfl⟩ := h1.same h2
  clear h1 h2 hi hk hn
  go_wp2_with fail
  refine (alive_true w hV).mono ?_
  rintro e w1 ⟨rfl, hb⟩
  go_wp2
  go_ret
  exact ⟨rfl, hb⟩

set_option maxHeartbeats 1600000 in
theorem law_ends (i n : Int) (w : World) (hV : Vs w) (hi : In64 i) (hn : In64 n) : Calls Tryd.prog 9 #[.int .i64 i, .int .i64 n] w (True1 w) := by
  by_cases c1 : n < 1
  · go_enter Tryd.func9, Tryd.ntmps9
    go_wp2_with fail
    refine (alive_true w hV).mono ?_
    rintro e w1 ⟨rfl, hb⟩
    go_wp2
    go_ret
    exact ⟨rfl, hb⟩
  by_cases c2 : i < 0
  · go_enter Tryd.func9, Tryd.ntmps9
    go_wp2_with fail
    refine (alive_true w hV).mono ?_
    rintro e w1 ⟨rfl, hb⟩
    go_wp2
    go_ret
    exact ⟨rfl, hb⟩
  by_cases c3 : n ≤ i
  · go_enter Tryd.func9, Tryd.ntmps9
    go_wp2_with fail
    refine (alive_true w hV).mono ?_
    rintro e w1 ⟨rfl, hb⟩
    go_wp2
    go_ret
    exact ⟨rfl, hb⟩
  obtain ⟨n1, n2⟩ := hn
  obtain ⟨i1, i2⟩ := hi
  go_enter Tryd.func9, Tryd.ntmps9
  go_wp2_with fail
  refine (nplace i n w ⟨i1, i2⟩ ⟨n1, n2⟩).mono ?_
  rintro e w1 ⟨x, y, rfl, h1, rfl⟩
  obtain ⟨rfl, rfl⟩ := h1.same (y := i) (c := true) (.inl ⟨rfl, by omega⟩)
  clear h1
  go_wp2_with fail
  refine (nplace (x - n) n w ⟨by omega, by omega⟩ ⟨n1, n2⟩).mono ?_
  rintro e w1 ⟨x2, y2, rfl, h1, rfl⟩
  obtain ⟨rfl, rfl⟩ := h1.same (y := x) (c := true) (.inl ⟨rfl, by omega⟩)
  clear h1
  go_wp2_with fail
  refine (nrange (-n) (-1) n w ⟨by omega, by omega⟩ ⟨by omega, by omega⟩ ⟨n1, n2⟩).mono ?_
  rintro e w1 ⟨u, v, rfl, h1, rfl⟩
  have hu : u = 0 ∧ v = n := h1.same (by unfold RangeR; omega)
  obtain ⟨rfl, rfl⟩ := hu
  clear h1
  go_wp2_with fail
  refine (alive_true w hV).mono ?_
  rintro e w1 ⟨rfl, hb⟩
  go_wp2
  go_ret
  exact ⟨rfl, hb⟩

set_option maxHeartbeats 1600000 in
theorem law_sums (a : Option Addr) (n c : Nat) (xs : List Int) (w : World) (hV : Vs w) (hX : Holds w a (min n 100) (xs.map (.int .i64 ·))) (hin : ∀ x ∈ xs, In64 x) (hc : n ≤ c) (hz : a = none → c = 0) :
    Calls Tryd.prog 5 #[.slice a n c] w (True1 w) := by
  by_cases h : 100 < n
  · obtain ⟨ad, rfl⟩ : ∃ ad, a = some ad := by
      cases a with
      | none => have := hz rfl; omega
      | some ad => exact ⟨ad, rfl⟩
    rw [show min n 100 = 100 by omega] at hX
    go_enter Tryd.func5, Tryd.ntmps5
    go_wp2_with fail
    refine (nsum (some ad) 100 c xs w hX (by omega) hin).mono ?_
    rintro e w1 ⟨rfl, rfl⟩
    go_wp2_with fail
    refine (nrsum (some ad) 100 c xs w hX (by omega) hin).mono ?_
    rintro e w1 ⟨rfl, rfl⟩
    go_wp2_with fail
    refine (alive_true w hV).mono ?_
    rintro e w1 ⟨rfl, hb⟩
    go_wp2
    go_ret
    exact ⟨rfl, hb⟩
  · rw [show min n 100 = n by omega] at hX
    go_enter Tryd.func5, Tryd.ntmps5
    go_wp2_with fail
    refine (nsum a n c xs w hX (by omega) hin).mono ?_
    rintro e w1 ⟨rfl, rfl⟩
    go_wp2_with fail
    refine (nrsum a n c xs w hX (by omega) hin).mono ?_
    rintro e w1 ⟨rfl, rfl⟩
    go_wp2_with fail
    refine (alive_true w hV).mono ?_
    rintro e w1 ⟨rfl, hb⟩
    go_wp2
    go_ret
    exact ⟨rfl, hb⟩
end Go.Proofs.YtakfheljiobpkaaDoor
