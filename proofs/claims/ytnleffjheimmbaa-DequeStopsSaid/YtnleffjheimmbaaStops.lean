/- 'DequeStops' returns true, where its list is cut and where it is not. -/
import Derived.Test.YtnleffjheimmbaaWalked
import Derived.Test.YtnleffjheimmbaaAwake
import Derived.Test.YtnleffjheimmbaaSame
namespace Go.Proofs.Ytnleffjheimmbaa
open Go.RowKit Go.Shelf

set_option maxRecDepth 8000 in
set_option maxHeartbeats 1600000 in
theorem stops_long (ap : Option Addr) (n c : Nat) (ys : List ByteArray) (k : Int) (hk : 0 ≤ k) (hk' : k ≤ 255) (w : World) (hY : Holds w ap 300 (ys.map .string)) (hc : n ≤ c) (hn : 300 < n) :
    Calls Try.prog 3 #[.slice ap n c, .int .u8 k] w fun e w' => e = .returned (.bool true) ∧ Below w.heap.size w w' := by
  have hyl : ys.length = 300 := by simpa using hY.1
  obtain ⟨M, hM⟩ : ∃ M : Nat, M = 1 + k.toNat := ⟨_, rfl⟩
  have hM1 : 1 ≤ M := by omega
  have hwk : IntKind.i64.wrap k = k := IntWalk.i64_in _ (by omega)
  have hwM : IntKind.i64.wrap (1 + k) = M := (IntWalk.i64_in _ (by omega)).trans (by omega)
  clear hM
  have hlen300 : ¬ (300 < 300) := by omega
  go_enter Try.func3, Try.ntmps3
  go_wp2_with (first
    | (go_at_call 8; refine (awake_true _).mono ?_; rintro e w1 ⟨rfl, hk1⟩)
    | (go_at_call 9; refine (sof ap 300 c ys _ (hY.below (hk1.below (Nat.le_refl _) (fun _ h => h.elim))) (by omega)).mono ?_; rintro e w2 ⟨g, R, rfl, hD, hg, hR, hk2⟩))
  refine (walkedUp g R ys M hM1 _ hD (by omega)).mono ?_
  rintro e w3 ⟨v1, rfl, hrow1, hB3⟩
  obtain ⟨K, hK⟩ : ∃ K, K = (ys.take M).length := ⟨_, rfl⟩
  rw [← hK] at hrow1
  obtain ⟨ap1, cap1, rfl, _⟩ := ownsRow_form hrow1
  have hA := ownsRow_holds hrow1
  have HK := Lib.hid hK
  clear hK hrow1
  have hT : Holds w ap K ((ys.take M).map .string) := by
    have := hY.take M
    rw [← List.map_take, List.length_map] at this
    rw [HK.out]; exact this
  have hKv : (M ≤ 300 ∧ K = M) ∨ (300 < M ∧ K = 300) := by have := HK.out; rw [List.length_take] at this; omega
  go_wp2_with fail
  refine (walkedBack g R ys M hM1 _ (below_dq hB3 hD hD.lt hD.grown) (by omega)).mono ?_
  rintro e w4 ⟨v2, rfl, hrow2, hB4⟩
  rw [show (ys.reverse.take M).length = K by rw [HK.out]; simp] at hrow2
  obtain ⟨ap2, cap2, rfl, _⟩ := ownsRow_form hrow2
  have hA2 := ownsRow_holds hrow2
  clear hrow2
  have hS1 := hk1.size
  have hS2 := hk2.size
  have hB0 : Below w.heap.size w w4 := (((hk1.trans hk2).below (B := w.heap.size) (Nat.le_refl _) (fun _ h => h.elim)).trans (hB3.mono (by omega))).trans (hB4.mono (by have := hB3.size; omega))
  have hT4 := hT.below hB0
  have hA4 := hA.below hB4
  have hY4 := hY.below hB0
  have hrev : ∀ i, (h : i < K) → ∃ ad bd s, ap2 = some ad ∧ ap = some bd ∧ w4.cell? (ad.add i) = some (.string s) ∧ w4.cell? (bd.add (300 - 1 - i)) = some (.string s) := by
    intro i hi
    obtain ⟨ad, e1, c1⟩ := hA2.cell hi
    obtain ⟨bd, e2, c2⟩ := hY4.cell (j := 300 - 1 - i) (by omega)
    refine ⟨ad, bd, ys[300 - 1 - i]'(by omega), e1, e2, ?_, ?_⟩
    · rw [c1]; simp [hyl]
    · rw [c2]; simp
  have HR := Lib.hid hrev
  clear hrev
  rcases hKv with ⟨h1, h2⟩ | ⟨h1, h2⟩
  all_goals subst h2
  all_goals go_wp2_with (go_at_call 11; refine (same_eq _ _ _ _ _ _ _ hA4 hT4 (by omega)).mono ?_; rintro e w5 ⟨rfl, q0, rfl⟩)
  · go_loopw [12] (fun i wr => ∃ j q : Nat, j ≤ K ∧ i = .int .i64 j ∧ wr = w4.drewN q) (fun i _ => K - (intOf i).toNat)
    case atStart => exact ⟨0, q0, Nat.zero_le _, rfl, rfl⟩
    case round =>
      obtain ⟨j, q, hj, rfl, rfl⟩ := hrel
      by_cases hlt : j < K
      · obtain ⟨ad, bd, s, rfl, rfl, ca, cb⟩ := HR.out j hlt
        obtain ⟨p, hp⟩ : ∃ p, p = 300 - 1 - j := ⟨_, rfl⟩
        simp only [← hp] at ca cb
        have hw1 : IntKind.i64.wrap ((300 : Int) - 1) = (299 : Int) := IntWalk.i64_in _ (by omega)
        have hw2 : IntKind.i64.wrap ((299 : Int) - (j : Int)) = p := (IntWalk.i64_in _ (by omega)).trans (by omega)
        have hpn : p < 300 := by omega
        have HP := Lib.hid hp
        clear hp
        go_wp2_with fail
        go_quiet (fail)
        go_wp2
        go_roundw
        case rel => exact ⟨j + 1, _, by omega, by go_num, rfl⟩
        case measure => simp [intOf]; omega
      · obtain rfl : j = K := by omega
        go_wp2
        go_ret
        exact ⟨rfl, Below.drewN' hB0 _⟩
  · go_loopw [12] (fun i wr => ∃ j q : Nat, j ≤ 300 ∧ i = .int .i64 j ∧ wr = w4.drewN q) (fun i _ => 300 - (intOf i).toNat)
    case atStart => exact ⟨0, q0, Nat.zero_le _, rfl, rfl⟩
    case round =>
      obtain ⟨j, q, hj, rfl, rfl⟩ := hrel
      by_cases hlt : j < 300
      · obtain ⟨ad, bd, s, rfl, rfl, ca, cb⟩ := HR.out j hlt
        obtain ⟨p, hp⟩ : ∃ p, p = 300 - 1 - j := ⟨_, rfl⟩
        simp only [← hp] at ca cb
        have hw1 : IntKind.i64.wrap ((300 : Int) - 1) = (299 : Int) := IntWalk.i64_in _ (by omega)
        have hw2 : IntKind.i64.wrap ((299 : Int) - (j : Int)) = p := (IntWalk.i64_in _ (by omega)).trans (by omega)
        have hpn : p < 300 := by omega
        have HP := Lib.hid hp
        clear hp
        go_wp2_with fail
        go_quiet (fail)
        go_wp2
        go_roundw
        case rel => exact ⟨j + 1, _, by omega, by go_num, rfl⟩
        case measure => simp [intOf]; omega
      · obtain rfl : j = 300 := by omega
        go_wp2
        go_ret
        exact ⟨rfl, Below.drewN' hB0 _⟩

set_option maxRecDepth 8000 in
set_option maxHeartbeats 1600000 in
theorem stops_short (ap : Option Addr) (n c : Nat) (ys : List ByteArray) (k : Int) (hk : 0 ≤ k) (hk' : k ≤ 255) (w : World) (hY : Holds w ap n (ys.map .string)) (hc : n ≤ c) (hn : n ≤ 300) :
    Calls Try.prog 3 #[.slice ap n c, .int .u8 k] w fun e w' => e = .returned (.bool true) ∧ Below w.heap.size w w' := by
  have hyl : ys.length = n := by simpa using hY.1
  obtain ⟨M, hM⟩ : ∃ M : Nat, M = 1 + k.toNat := ⟨_, rfl⟩
  have hM1 : 1 ≤ M := by omega
  have hwk : IntKind.i64.wrap k = k := IntWalk.i64_in _ (by omega)
  have hwM : IntKind.i64.wrap (1 + k) = M := (IntWalk.i64_in _ (by omega)).trans (by omega)
  clear hM
  have hlen300 : ¬ (300 < n) := by omega
  go_enter Try.func3, Try.ntmps3
  go_wp2_with (first
    | (go_at_call 8; refine (awake_true _).mono ?_; rintro e w1 ⟨rfl, hk1⟩)
    | (go_at_call 9; refine (sof ap n c ys _ (hY.below (hk1.below (Nat.le_refl _) (fun _ h => h.elim))) (by omega)).mono ?_; rintro e w2 ⟨g, R, rfl, hD, hg, hR, hk2⟩))
  refine (walkedUp g R ys M hM1 _ hD (by omega)).mono ?_
  rintro e w3 ⟨v1, rfl, hrow1, hB3⟩
  obtain ⟨K, hK⟩ : ∃ K, K = (ys.take M).length := ⟨_, rfl⟩
  rw [← hK] at hrow1
  obtain ⟨ap1, cap1, rfl, _⟩ := ownsRow_form hrow1
  have hA := ownsRow_holds hrow1
  have HK := Lib.hid hK
  clear hK hrow1
  have hT : Holds w ap K ((ys.take M).map .string) := by
    have := hY.take M
    rw [← List.map_take, List.length_map] at this
    rw [HK.out]; exact this
  have hKv : (M ≤ n ∧ K = M) ∨ (n < M ∧ K = n) := by have := HK.out; rw [List.length_take] at this; omega
  go_wp2_with fail
  refine (walkedBack g R ys M hM1 _ (below_dq hB3 hD hD.lt hD.grown) (by omega)).mono ?_
  rintro e w4 ⟨v2, rfl, hrow2, hB4⟩
  rw [show (ys.reverse.take M).length = K by rw [HK.out]; simp] at hrow2
  obtain ⟨ap2, cap2, rfl, _⟩ := ownsRow_form hrow2
  have hA2 := ownsRow_holds hrow2
  clear hrow2
  have hS1 := hk1.size
  have hS2 := hk2.size
  have hB0 : Below w.heap.size w w4 := (((hk1.trans hk2).below (B := w.heap.size) (Nat.le_refl _) (fun _ h => h.elim)).trans (hB3.mono (by omega))).trans (hB4.mono (by have := hB3.size; omega))
  have hT4 := hT.below hB0
  have hA4 := hA.below hB4
  have hY4 := hY.below hB0
  have hrev : ∀ i, (h : i < K) → ∃ ad bd s, ap2 = some ad ∧ ap = some bd ∧ w4.cell? (ad.add i) = some (.string s) ∧ w4.cell? (bd.add (n - 1 - i)) = some (.string s) := by
    intro i hi
    obtain ⟨ad, e1, c1⟩ := hA2.cell hi
    obtain ⟨bd, e2, c2⟩ := hY4.cell (j := n - 1 - i) (by omega)
    refine ⟨ad, bd, ys[n - 1 - i]'(by omega), e1, e2, ?_, ?_⟩
    · rw [c1]; simp [hyl]
    · rw [c2]; simp
  have HR := Lib.hid hrev
  clear hrev
  rcases hKv with ⟨h1, h2⟩ | ⟨h1, h2⟩
  all_goals subst h2
  all_goals go_wp2_with (go_at_call 11; refine (same_eq _ _ _ _ _ _ _ hA4 hT4 (by omega)).mono ?_; rintro e w5 ⟨rfl, q0, rfl⟩)
  · go_loopw [12] (fun i wr => ∃ j q : Nat, j ≤ K ∧ i = .int .i64 j ∧ wr = w4.drewN q) (fun i _ => K - (intOf i).toNat)
    case atStart => exact ⟨0, q0, Nat.zero_le _, rfl, rfl⟩
    case round =>
      obtain ⟨j, q, hj, rfl, rfl⟩ := hrel
      by_cases hlt : j < K
      · obtain ⟨ad, bd, s, rfl, rfl, ca, cb⟩ := HR.out j hlt
        obtain ⟨p, hp⟩ : ∃ p, p = n - 1 - j := ⟨_, rfl⟩
        simp only [← hp] at ca cb
        have hw1 : IntKind.i64.wrap ((n : Int) - 1) = ((n : Int) - 1) := IntWalk.i64_in _ (by omega)
        have hw2 : IntKind.i64.wrap (((n : Int) - 1) - (j : Int)) = p := (IntWalk.i64_in _ (by omega)).trans (by omega)
        have hpn : p < n := by omega
        have HP := Lib.hid hp
        clear hp
        go_wp2_with fail
        go_quiet (fail)
        go_wp2
        go_roundw
        case rel => exact ⟨j + 1, _, by omega, by go_num, rfl⟩
        case measure => simp [intOf]; omega
      · obtain rfl : j = K := by omega
        go_wp2
        go_ret
        exact ⟨rfl, Below.drewN' hB0 _⟩
  · go_loopw [12] (fun i wr => ∃ j q : Nat, j ≤ K ∧ i = .int .i64 j ∧ wr = w4.drewN q) (fun i _ => K - (intOf i).toNat)
    case atStart => exact ⟨0, q0, Nat.zero_le _, rfl, rfl⟩
    case round =>
      obtain ⟨j, q, hj, rfl, rfl⟩ := hrel
      by_cases hlt : j < K
      · obtain ⟨ad, bd, s, rfl, rfl, ca, cb⟩ := HR.out j hlt
        obtain ⟨p, hp⟩ : ∃ p, p = K - 1 - j := ⟨_, rfl⟩
        simp only [← hp] at ca cb
        have hw1 : IntKind.i64.wrap ((K : Int) - 1) = ((K : Int) - 1) := IntWalk.i64_in _ (by omega)
        have hw2 : IntKind.i64.wrap (((K : Int) - 1) - (j : Int)) = p := (IntWalk.i64_in _ (by omega)).trans (by omega)
        have hpn : p < K := by omega
        have HP := Lib.hid hp
        clear hp
        go_wp2_with fail
        go_quiet (fail)
        go_wp2
        go_roundw
        case rel => exact ⟨j + 1, _, by omega, by go_num, rfl⟩
        case measure => simp [intOf]; omega
      · obtain rfl : j = K := by omega
        go_wp2
        go_ret
        exact ⟨rfl, Below.drewN' hB0 _⟩

end Go.Proofs.Ytnleffjheimmbaa
