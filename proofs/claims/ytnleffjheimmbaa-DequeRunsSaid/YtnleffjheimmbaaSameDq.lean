/- 'same': a deque and a list with the same values. -/
import Derived.Test.YtnleffjheimmbaaWalked
import Derived.Test.YtnleffjheimmbaaSame
namespace Go.Proofs.Ytnleffjheimmbaa
open Go.RowKit Go.Shelf

theorem below_drewN {w w' : World} {B : Nat} (h : Below B w w') (n : Nat) : Below B w (w'.drewN n) := ⟨h.os, h.tape, h.output, h.size, h.block⟩

set_option maxRecDepth 8000 in
set_option maxHeartbeats 400000 in
theorem same_dq (g : Nat) (R : Option Nat) (L : List ByteArray) (ap : Option Addr) (n c : Nat) (w : World) (hD : sDq w g R L) (hX : Holds w ap n (L.map .string)) (hn : n ≤ 600) :
    Calls Try.prog 13 #[.pointer (some ⟨g, 0, none⟩), .slice ap n c] w fun e w' => e = .returned (.bool true) ∧ Below w.heap.size w w' := by
  have hLn : L.length = n := by simpa using hX.1
  go_enter Try.func13, Try.ntmps13
  go_wp2_with fail
  refine (walkedUp g R L 600 (by omega) w hD (by omega)).mono ?_
  rintro e w1 ⟨v1, rfl, hrow1, hB1⟩
  rw [List.take_of_length_le (by omega), hLn] at hrow1
  obtain ⟨ap1, cap1, rfl, _⟩ := ownsRow_form hrow1
  have hA := ownsRow_holds hrow1
  have hD1 := below_dq hB1 hD hD.lt hD.grown
  clear hrow1
  go_wp2_with fail
  refine (walkedBack g R L 600 (by omega) w1 hD1 (by omega)).mono ?_
  rintro e w2 ⟨v2, rfl, hrow2, hB2⟩
  rw [List.take_of_length_le (by rw [List.length_reverse]; omega), List.length_reverse, hLn] at hrow2
  obtain ⟨ap2, cap2, rfl, _⟩ := ownsRow_form hrow2
  have hA2 := ownsRow_holds hrow2
  clear hrow2
  have hS1 := hB1.size
  have hS2 := hB2.size
  have hB12 : Below w.heap.size w w2 := hB1.trans (hB2.mono hS1)
  have hD2 := below_dq hB12 hD hD.lt hD.grown
  have hX2 := hX.below hB12
  have hA12 := hA.below hB2
  have key : ∀ q v w3, w3.ownsRow (w2.drewN q).heap.size 9 1 v L.length (L.map .string) → Below (w2.drewN q).heap.size (w2.drewN q) w3 →
      ∃ ap3 cap3, v = .slice ap3 n cap3 ∧ Holds w3 ap3 n (L.map .string) ∧ Holds w3 ap n (L.map .string) ∧ sDq w3 g R L ∧ Below w.heap.size w w3 ∧ Holds w3 ap2 n (L.reverse.map .string) := by
    intro q v w3 hr hb
    rw [hLn] at hr
    obtain ⟨ap3, cap3, rfl, _⟩ := ownsRow_form hr
    have hb' : Below w2.heap.size w2 w3 := (below_drewN (Below.refl _ _) q).trans hb
    exact ⟨ap3, cap3, rfl, ownsRow_holds hr, hX2.below hb', below_dq hb' hD2 hD2.lt hD2.grown, hB12.trans (hb'.mono (by omega)), hA2.below hb'⟩
  have KEY := Lib.hid key
  have HL := Lib.hid hLn
  clear key hLn
  go_wp2_with fail
  refine (same_eq _ _ _ _ _ _ _ hA12 hX2 (by omega)).mono ?_
  rintro e w5 ⟨rfl, q1, rfl⟩
  go_wp2_with fail
  refine (slist_dq g R L _ (hD2.drewN _)).mono ?_
  rintro e w3 ⟨v, rfl, hr, _, hb⟩
  obtain ⟨ap3, cap3, rfl, k1, k2, k3, k4, k5⟩ := KEY.out _ _ _ hr hb
  clear hr hb
  go_wp2_with fail
  refine (same_eq _ _ _ _ _ _ _ k1 k2 (by omega)).mono ?_
  rintro e w5 ⟨rfl, q2, rfl⟩
  have hc3 : (w3.drewN q2).cell? ⟨g, 2, none⟩ = some (.int .i64 n) := by obtain ⟨ad, m, c', f, h0, _⟩ := k3; rw [HL.out] at h0; exact (blk3 h0).2.2.1
  go_wp2_with fail
  refine (slen_cell g n _ hc3).mono ?_
  rintro e w5 ⟨rfl, rfl⟩
  have hrev : ∀ i, (h : i < n) → ∃ ad bd s, ap2 = some ad ∧ ap = some bd ∧ w3.cell? (ad.add i) = some (.string s) ∧ w3.cell? (bd.add (n - 1 - i)) = some (.string s) := by
    intro i hi
    have hLn := HL.out
    obtain ⟨ad, e1, c1⟩ := k5.cell hi
    obtain ⟨bd, e2, c2⟩ := k2.cell (j := n - 1 - i) (by omega)
    refine ⟨ad, bd, L[n - 1 - i]'(by omega), e1, e2, ?_, ?_⟩
    · rw [c1]; simp [hLn]
    · rw [c2]; simp
  have HR := Lib.hid hrev
  clear hrev
  go_wp2
  go_loopw [9] (fun i wr => ∃ j q : Nat, j ≤ n ∧ i = .int .i64 j ∧ wr = w3.drewN q) (fun i _ => n - (intOf i).toNat)
  case atStart => exact ⟨0, q2, Nat.zero_le _, rfl, rfl⟩
  case round =>
    obtain ⟨j, q, hj, rfl, rfl⟩ := hrel
    by_cases hlt : j < n
    · obtain ⟨ad, bd, s, rfl, rfl, ca, cb⟩ := HR.out j hlt
      obtain ⟨p, hp⟩ : ∃ p, p = n - 1 - j := ⟨_, rfl⟩
      simp only [← hp] at ca cb
      have hw1 : IntKind.i64.wrap ((n : Int) - 1) = (n : Int) - 1 := IntWalk.i64_in _ (by omega)
      have hw2 : IntKind.i64.wrap ((n : Int) - 1 - (j : Int)) = p := (IntWalk.i64_in _ (by omega)).trans (by omega)
      have hpn : p < n := by omega
      clear hp
      go_wp2_with fail
      go_quiet (fail)
      go_wp2
      go_roundw
      case rel => exact ⟨j + 1, _, by omega, by go_num, rfl⟩
      case measure => simp [intOf]; omega
    · obtain rfl : j = n := by omega
      go_wp2
      go_ret
      exact ⟨rfl, below_drewN k4 _⟩
end Go.Proofs.Ytnleffjheimmbaa
