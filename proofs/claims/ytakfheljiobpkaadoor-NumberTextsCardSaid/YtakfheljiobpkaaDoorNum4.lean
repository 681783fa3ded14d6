/- Sums. -/
import Derived.Test.YtakfheljiobpkaaDoorNum3
import Derived.Test.YtakfheljiobpkaaDoorBase
import Derived.LoopNIn
namespace Go.Proofs.YtakfheljiobpkaaDoor
open Go.RowKit

def addV (n k : Int) : Option Int := if (0 < k ∧ 9223372036854775807 - k < n) ∨ (k < 0 ∧ n < -9223372036854775808 - k) then none else some (n + k)
def sumV : Int → List Int → Option Int
  | n, [] => some n
  | n, k :: l => (addV n k).bind fun m => sumV m l
def sumR : Option Int → Int × Int
  | some v => (v, 0)
  | none => (0, 11)
def SumEnd (xs : List Int) (w : World) (e : Ending) (w' : World) : Prop := e = .returned (.tuple #[.int .i64 (sumR (sumV 0 xs)).1, .int .i64 (sumR (sumV 0 xs)).2]) ∧ w = w'

theorem sumV_step {xs : List Int} {acc : Int} {j : Nat} (h : sumV 0 xs = sumV acc (xs.drop j)) (hj : j < xs.length) : sumV 0 xs = (addV acc xs[j]).bind fun m => sumV m (xs.drop (j + 1)) := by
  rw [h, List.drop_eq_getElem_cons hj]; rfl
theorem sumV_end {xs : List Int} {acc : Int} {j : Nat} (h : sumV 0 xs = sumV acc (xs.drop j)) (hj : j = xs.length) : sumR (sumV 0 xs) = (acc, 0) := by
  rw [h, hj, List.drop_length]; rfl

def AddEnd (n k : Int) (w : World) (e : Ending) (w' : World) : Prop := e = .returned (.tuple #[.int .i64 (sumR (addV n k)).1, .int .i64 (sumR (addV n k)).2]) ∧ w = w'

set_option maxHeartbeats 1600000 in
theorem nradd (n k : Int) (w : World) (hn : In64 n) (hk : In64 k) : Calls Tryd.prog 28 #[.int .i64 n, .int .i64 k] w (AddEnd n k w) := by
  obtain ⟨h1, h2⟩ := hn
  obtain ⟨h3, h4⟩ := hk
  unfold AddEnd
  by_cases c : (0 < k ∧ 9223372036854775807 - k < n) ∨ (k < 0 ∧ n < -9223372036854775808 - k)
  · have e : addV n k = none := if_pos c
    rw [e]
    rcases c with ⟨c1, c2⟩ | ⟨c1, c2⟩
    all_goals
      clear e
      go_enter Tryd.func28, Tryd.ntmps28
      go_wp2
      go_ret2
      exact ⟨rfl, rfl⟩
  · have e : addV n k = some (n + k) := if_neg c
    rw [e]
    have c1 : 0 < k → n ≤ 9223372036854775807 - k := by omega
    have c2 : k < 0 → -9223372036854775808 - k ≤ n := by omega
    clear c e
    rcases Int.lt_trichotomy k 0 with d | d | d
    · have c3 : ¬ (n < -9223372036854775808 - k) := by omega
      have d2 : ¬ (0 < k) := by omega
      clear c1 c2
      go_enter Tryd.func28, Tryd.ntmps28
      go_wp2
      go_ret2
      exact ⟨rfl, rfl⟩
    · subst d
      clear c1 c2
      go_enter Tryd.func28, Tryd.ntmps28
      go_wp2
      go_ret2
      exact ⟨by simp [sumR], rfl⟩
    · have c3 : ¬ (9223372036854775807 - k < n) := by omega
      have d2 : ¬ (k < 0) := by omega
      clear c1 c2
      go_enter Tryd.func28, Tryd.ntmps28
      go_wp2
      go_ret2
      exact ⟨rfl, rfl⟩

theorem cell_at {w : World} {a : Option Addr} {n : Nat} {xs : List Int} (h : Holds w a n (xs.map (.int .i64 ·))) {j : Nat} (hj : j < n) : ∃ ad, a = some ad ∧ ∃ hl : j < xs.length, w.cell? (ad.add j) = some (.int .i64 xs[j]) := by
  obtain ⟨ad, rfl, hc⟩ := h.cell hj
  have hl : j < xs.length := by have := h.1; rw [List.length_map] at this; omega
  exact ⟨ad, rfl, hl, by rw [hc]; simp⟩

set_option maxHeartbeats 1600000 in
theorem nrsum (a : Option Addr) (n c : Nat) (xs : List Int) (w : World) (hX : Holds w a n (xs.map (.int .i64 ·))) (hn : n ≤ 1000) (hin : ∀ x ∈ xs, In64 x) :
    Calls Tryd.prog 16 #[.slice a n c] w (SumEnd xs w) := by
  have hl : xs.length = n := by have := hX.1; rw [List.length_map] at this; exact this
  go_enter Tryd.func16, Tryd.ntmps16
  go_wp2
  go_loopw [4, 5] (fun v i wr => ∃ (j : Nat) (acc : Int), j ≤ n ∧ v = .int .i64 acc ∧ i = .int .i64 j ∧ In64 acc ∧ sumV 0 xs = sumV acc (xs.drop j) ∧ w = wr) (fun _ i _ => n - (intOf i).toNat)
  case atStart => exact ⟨0, 0, Nat.zero_le _, rfl, rfl, ⟨by omega, by omega⟩, rfl, rfl⟩
  case round =>
    obtain ⟨j, acc, hj, rfl, rfl, hacc, hs, rfl⟩ := hrel
    by_cases hlt : j < n
    · obtain ⟨ad, rfl, hjl, hc⟩ := cell_at hX hlt
      have hs1 := sumV_step hs hjl
      have hxi := hin xs[j] (List.getElem_mem _)
      have HA := nradd acc xs[j] w hacc hxi
      obtain ⟨x, hx⟩ : ∃ x, x = xs[j] := ⟨_, rfl⟩
      rw [← hx] at hc hs1 HA hxi
      have HS := Lib.hid hs1
      unfold AddEnd at HA
      clear hs hs1 hx
      cases ha : addV acc x with
      | none =>
        rw [ha] at HA
        have hfin : sumV 0 xs = none := by rw [HS.out, ha]; rfl
        have HF := Lib.hid hfin
        clear hfin
        go_wp2_with (go_at_call 28; refine HA.mono ?_; rintro e w' ⟨rfl, rfl⟩)
        go_ret2
        exact ⟨(by rw [HF.out]; rfl), rfl⟩
      | some m =>
        rw [ha] at HA
        have hm : m = acc + x ∧ In64 m := by
          unfold addV at ha
          split at ha
          · cases ha
          · rename_i hno
            cases ha
            refine ⟨rfl, ?_⟩
            unfold In64 at *
            omega
        have hst : sumV 0 xs = sumV m (xs.drop (j + 1)) := by rw [HS.out, ha]; rfl
        have HF := Lib.hid hst
        have HM := Lib.hid hm.2
        clear hst hm ha HS
        go_wp2_with (go_at_call 28; refine HA.mono ?_; rintro e w' ⟨rfl, rfl⟩)
        go_roundw
        case rel => exact ⟨j + 1, m, by omega, rfl, by go_num, HM.out, HF.out, trivial⟩
        case measure => simp [intOf]; omega
    · have hfin := sumV_end hs (by omega)
      have HF := Lib.hid hfin
      obtain rfl : n = j := by omega
      clear hfin hs
      go_wp2
      go_ret2
      exact ⟨(by rw [HF.out]; rfl), rfl⟩

set_option maxHeartbeats 3200000 in
theorem nsum (a : Option Addr) (n c : Nat) (xs : List Int) (w : World) (hX : Holds w a n (xs.map (.int .i64 ·))) (hn : n ≤ 1000) (hin : ∀ x ∈ xs, In64 x) :
    Calls Tryd.prog 15 #[.slice a n c] w (SumEnd xs w) := by
  have hl : xs.length = n := by have := hX.1; rw [List.length_map] at this; exact this
  go_enter Tryd.func15, Tryd.ntmps15
  go_wp2
  go_loopw [4, 9] (fun v i wr => ∃ (j : Nat) (acc : Int), j ≤ n ∧ v = .int .i64 acc ∧ i = .int .i64 j ∧ In64 acc ∧ sumV 0 xs = sumV acc (xs.drop j) ∧ w = wr) (fun _ i _ => n - (intOf i).toNat)
  case atStart => exact ⟨0, 0, Nat.zero_le _, rfl, rfl, ⟨by omega, by omega⟩, rfl, rfl⟩
  case round =>
    obtain ⟨j, acc, hj, rfl, rfl, hacc, hs, rfl⟩ := hrel
    by_cases hlt : j < n
    · obtain ⟨ad, rfl, hjl, hc⟩ := cell_at hX hlt
      have hs1 := sumV_step hs hjl
      have hxi := hin xs[j] (List.getElem_mem _)
      obtain ⟨x, hx⟩ : ∃ x, x = xs[j] := ⟨_, rfl⟩
      rw [← hx] at hc hs1 hxi
      have HS := Lib.hid hs1
      obtain ⟨g1, g2⟩ := hacc
      obtain ⟨g3, g4⟩ := hxi
      clear hs hs1 hx
      by_cases cc : (0 < x ∧ 9223372036854775807 - x < acc) ∨ (x < 0 ∧ acc < -9223372036854775808 - x)
      · have ha : addV acc x = none := if_pos cc
        have hfin : sumV 0 xs = none := by rw [HS.out, ha]; rfl
        have HF := Lib.hid hfin
        clear hfin ha HS
        rcases cc with ⟨c1, c2⟩ | ⟨c1, c2⟩
        all_goals
          go_wp2
          go_ret2
          exact ⟨(by rw [HF.out]; rfl), rfl⟩
      · have ha : addV acc x = some (acc + x) := if_neg cc
        have hst : sumV 0 xs = sumV (acc + x) (xs.drop (j + 1)) := by rw [HS.out, ha]; rfl
        have HF := Lib.hid hst
        have hm : In64 (acc + x) := by unfold In64; omega
        have HM := Lib.hid hm
        clear hst hm ha HS
        rcases Int.lt_trichotomy x 0 with d | d | d
        · have c3 : ¬ (acc < -9223372036854775808 - x) := by omega
          have d2 : ¬ (0 < x) := by omega
          clear cc
          go_wp2
          go_roundw
          case rel => exact ⟨j + 1, acc + x, by omega, rfl, by go_num, HM.out, HF.out, trivial⟩
          case measure => simp [intOf]; omega
        · subst d
          clear cc
          go_wp2
          go_roundw
          case rel => exact ⟨j + 1, acc + 0, by omega, by simp, by go_num, HM.out, HF.out, trivial⟩
          case measure => simp [intOf]; omega
        · have c3 : ¬ (9223372036854775807 - x < acc) := by omega
          have d2 : ¬ (x < 0) := by omega
          clear cc
          go_wp2
          go_roundw
          case rel => exact ⟨j + 1, acc + x, by omega, rfl, by go_num, HM.out, HF.out, trivial⟩
          case measure => simp [intOf]; omega
    · have hfin := sumV_end hs (by omega)
      have HF := Lib.hid hfin
      obtain rfl : n = j := by omega
      clear hfin hs
      go_wp2
      go_ret2
      exact ⟨(by rw [HF.out]; rfl), rfl⟩
end Go.Proofs.YtakfheljiobpkaaDoor
