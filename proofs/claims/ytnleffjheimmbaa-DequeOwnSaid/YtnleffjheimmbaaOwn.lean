/- 'DequeOwn' returns true, where its list is cut and where it is not. -/
import Derived.Test.YtnleffjheimmbaaSameDq
import Derived.Test.YtnleffjheimmbaaAwake
import Derived.Test.YtnleffjheimmbaaAppend
namespace Go.Proofs.Ytnleffjheimmbaa
open Go.RowKit Go.Shelf

set_option maxRecDepth 8000 in
set_option maxHeartbeats 1600000 in
theorem own_long (ap : Option Addr) (n c : Nat) (ys : List ByteArray) (w : World) (hY : Holds w ap 300 (ys.map .string)) (hc : n ≤ c) (hz : ap = none → c = 0) (hn : 300 < n) :
    Calls Try.prog 4 #[.slice ap n c] w fun e w' => e = .returned (.bool true) ∧ Below w.heap.size w w' := by
  have hyl : ys.length = 300 := by simpa using hY.1
  have hlen300 : ¬ (300 < 300) := by omega
  go_enter Try.func4, Try.ntmps4
  go_wp2_with fail
  refine (awake_true _).mono ?_
  rintro e w1 ⟨rfl, hk1⟩
  have hB1 := hk1.below (Nat.le_refl _) (fun _ h => h.elim)
  have hY1 := hY.below hB1
  have hmade := World.ownsRow_made (e := 9) (size := 1) w1 #[] 0 (Nat.le_refl _) (by unfold maxLen; omega) rfl
  have hS1 := hk1.size
  obtain ⟨i0, hi, hz0, hz1, hz2⟩ := info_parts wkInfo
  have key : ∀ w2, (w1.alloc (.cells #[] 9)).grownBy w2 (some w1.heap.size) → Below w.heap.size w1 w2 ∧ w1.heap.size + 1 ≤ w2.heap.size := by
    intro w2 hg
    refine ⟨((Below.refl w.heap.size w1).alloc hS1 _).grown hg (by simp; omega) (fun k e => by cases e; exact hS1), ?_⟩
    have := hg.size
    simpa using this
  have KEY := Lib.hid key
  clear key
  go_wp2_with (at_builtin; refine wpList_append_holds rfl _ _ 22 rfl w1.heap.size 9 i0 (.string ⟨#[]⟩) 16 Try.underlying22 hi hz0 hz1 hz2 rfl _ 0 [] rfl hmade ap 300 c (ys.map .string) rfl (hY1.below ((Below.refl _ _).alloc (Nat.le_refl _) _)) hz (by simp [Value.oneCell']) (by unfold maxLen; omega) (by omega) (by simp) ?_; intro v' w2 hrow2 hgrow2; rw [Nat.zero_add, List.nil_append] at hrow2; obtain ⟨ap2, cap2, rfl, hf2⟩ := ownsRow_form hrow2; have hA2 := ownsRow_holds hrow2; have hA2l := ownsRow_lt hrow2; clear hrow2; obtain ⟨hB2, hS2⟩ := KEY.out _ hgrow2; clear hgrow2)
  refine (sof ap2 300 cap2 ys _ hA2 (by omega)).mono ?_
  rintro e w3 ⟨g, R, rfl, hD, hg, hR, hk3⟩
  have hS3 := hk3.size
  have hf3 : 0 < 300 → ∃ k cur, ap2 = some ⟨k, 0, none⟩ ∧ w3.heap[k]? = some (.cells cur 9 (0, 0)) ∧ 300 ≤ cur.size := by
    intro h
    obtain ⟨k, cur, e1, _, e2, e3, e4, _⟩ := hf2 h
    exact ⟨k, cur, e1, hk3.heap e2 (fun h => h), by omega⟩
  have HF := Lib.hid hf3
  clear hf3 hf2
  go_wp2
  go_loopw [5] (fun i wr => ∃ j : Nat, j ≤ 300 ∧ i = .int .i64 j ∧ Kept (fun b => ap2 = some ⟨b, 0, none⟩) w3 wr ∧ Hid (0 < 300 → ∃ k cur, ap2 = some ⟨k, 0, none⟩ ∧ wr.heap[k]? = some (.cells cur 9 (0, 0)) ∧ 300 ≤ cur.size)) (fun i _ => 300 - (intOf i).toNat)
  case atStart => exact ⟨0, Nat.zero_le _, rfl, Kept.refl _ _, HF⟩
  case round =>
    obtain ⟨j, hj, rfl, hK, hfr⟩ := hrel
    by_cases hlt : j < 300
    · obtain ⟨k, cur, e1, e2, e3⟩ := hfr.out (by omega)
      have cu := cellB e2 (Array.getElem?_eq_getElem (by omega : j < cur.size))
      have fu := frozenB e2 j
      have HK := Lib.hid hK
      subst e1
      clear hfr hK
      go_wp2
      go_roundw
      case rel => exact ⟨j + 1, by omega, by go_num, HK.out.setCell (p := ⟨k, j, none⟩) (fun _ => rfl) _, fun _ => ⟨k, _, rfl, heap_setCell_same e2 _ _, by simpa using e3⟩⟩
      case measure => simp [intOf]; omega
    · obtain rfl : 300 = j := by omega
      have hDr : sDq wr g R ys := hD.kept hK (fun h => by have := hA2l _ h; simp only at this; omega) (fun r e h => by have := hA2l _ h; have h3 := hR r e; simp only at this; omega)
      have hBr : Below w.heap.size w wr := ((hB1.trans hB2).trans (hk3.below (by omega) (fun _ h => h.elim))).trans (hK.below (by omega) (fun i h => by have := hA2l _ h; simp only at this; omega))
      have HB := Lib.hid hBr
      clear hfr HF
      go_wp2_with fail
      refine (slist_dq g R ys wr hDr).mono ?_
      rintro e w5 ⟨v, rfl, hrow5, _, hb5⟩
      rw [hyl] at hrow5
      obtain ⟨ap5, cap5, rfl, hf5⟩ := ownsRow_form hrow5
      have hA5l := ownsRow_lt hrow5
      have hS5 := hb5.size
      have hS4 := hBr.size
      have HF : Hid (0 < 300 → ∃ k cur, ap5 = some ⟨k, 0, none⟩ ∧ w5.heap[k]? = some (.cells cur 9 (0, 0)) ∧ 300 ≤ cur.size) := by
        intro h
        obtain ⟨k, cur, e1, _, e2, e3, e4, _⟩ := hf5 h
        exact ⟨k, cur, e1, e2, by omega⟩
      have hD5 := below_dq hb5 hDr hDr.lt hDr.grown
      have hgl := hDr.lt
      have hRl := hDr.grown
      have hB5 : Below w.heap.size w w5 := hBr.trans (hb5.mono (by omega))
      have hS6 := hB5.size
      have hA6 : ∀ b, ap5 = some ⟨b, 0, none⟩ → w.heap.size ≤ b ∧ b ≠ g ∧ R ≠ some b := by
        intro b h
        have h1 := hA5l _ h
        simp only at h1
        refine ⟨by omega, by omega, fun h2 => ?_⟩
        have := hRl _ h2
        omega
      have H6 := Lib.hid hA6
      clear hf5 hrow5 hA6 hA5l
      go_wp2
      go_loopw [7] (fun i wq => ∃ j : Nat, j ≤ 300 ∧ i = .int .i64 j ∧ Kept (fun b => ap5 = some ⟨b, 0, none⟩) w5 wq ∧ Hid (0 < 300 → ∃ k cur, ap5 = some ⟨k, 0, none⟩ ∧ wq.heap[k]? = some (.cells cur 9 (0, 0)) ∧ 300 ≤ cur.size)) (fun i _ => 300 - (intOf i).toNat)
      case atStart => exact ⟨0, Nat.zero_le _, rfl, Kept.refl _ _, HF⟩
      case round =>
        obtain ⟨j, hj, rfl, hK5, hfr⟩ := hrel
        by_cases hlt : j < 300
        · obtain ⟨k, cur, e1, e2, e3⟩ := hfr.out (by omega)
          have cu := cellB e2 (Array.getElem?_eq_getElem (by omega : j < cur.size))
          have fu := frozenB e2 j
          have HK := Lib.hid hK5
          subst e1
          clear hfr hK5
          go_wp2
          go_roundw
          case rel => exact ⟨j + 1, by omega, by go_num, HK.out.setCell (p := ⟨k, j, none⟩) (fun _ => rfl) _, fun _ => ⟨k, _, rfl, heap_setCell_same e2 _ _, by simpa using e3⟩⟩
          case measure => simp [intOf]; omega
        · obtain rfl : 300 = j := by omega
          have hDq : sDq wr g R ys := hD5.kept hK5 (fun h => (H6.out _ h).2.1 rfl) (fun r e h => (H6.out _ h).2.2 e)
          have hBq : Below w.heap.size w wr := hB5.trans (hK5.below (by omega) (fun i h => (H6.out _ h).1))
          have hYq := hY.below hBq
          have hSq := hBq.size
          clear hfr HF hK5 hK
          go_wp2_with fail
          refine (same_dq g R ys ap 300 c wr hDq hYq (by omega)).mono ?_
          rintro e w7 ⟨rfl, hb7⟩
          go_wp2
          go_ret
          exact ⟨rfl, hBq.trans (hb7.mono hSq)⟩

set_option maxRecDepth 8000 in
set_option maxHeartbeats 1600000 in
theorem own_short (ap : Option Addr) (n c : Nat) (ys : List ByteArray) (w : World) (hY : Holds w ap n (ys.map .string)) (hc : n ≤ c) (hz : ap = none → c = 0) (hn : n ≤ 300) :
    Calls Try.prog 4 #[.slice ap n c] w fun e w' => e = .returned (.bool true) ∧ Below w.heap.size w w' := by
  have hyl : ys.length = n := by simpa using hY.1
  have hlen300 : ¬ (300 < n) := by omega
  go_enter Try.func4, Try.ntmps4
  go_wp2_with fail
  refine (awake_true _).mono ?_
  rintro e w1 ⟨rfl, hk1⟩
  have hB1 := hk1.below (Nat.le_refl _) (fun _ h => h.elim)
  have hY1 := hY.below hB1
  have hmade := World.ownsRow_made (e := 9) (size := 1) w1 #[] 0 (Nat.le_refl _) (by unfold maxLen; omega) rfl
  have hS1 := hk1.size
  obtain ⟨i0, hi, hz0, hz1, hz2⟩ := info_parts wkInfo
  have key : ∀ w2, (w1.alloc (.cells #[] 9)).grownBy w2 (some w1.heap.size) → Below w.heap.size w1 w2 ∧ w1.heap.size + 1 ≤ w2.heap.size := by
    intro w2 hg
    refine ⟨((Below.refl w.heap.size w1).alloc hS1 _).grown hg (by simp; omega) (fun k e => by cases e; exact hS1), ?_⟩
    have := hg.size
    simpa using this
  have KEY := Lib.hid key
  clear key
  go_wp2_with (at_builtin; refine wpList_append_holds rfl _ _ 22 rfl w1.heap.size 9 i0 (.string ⟨#[]⟩) 16 Try.underlying22 hi hz0 hz1 hz2 rfl _ 0 [] rfl hmade ap n c (ys.map .string) rfl (hY1.below ((Below.refl _ _).alloc (Nat.le_refl _) _)) hz (by simp [Value.oneCell']) (by unfold maxLen; omega) (by omega) (by simp) ?_; intro v' w2 hrow2 hgrow2; rw [Nat.zero_add, List.nil_append] at hrow2; obtain ⟨ap2, cap2, rfl, hf2⟩ := ownsRow_form hrow2; have hA2 := ownsRow_holds hrow2; have hA2l := ownsRow_lt hrow2; clear hrow2; obtain ⟨hB2, hS2⟩ := KEY.out _ hgrow2; clear hgrow2)
  refine (sof ap2 n cap2 ys _ hA2 (by omega)).mono ?_
  rintro e w3 ⟨g, R, rfl, hD, hg, hR, hk3⟩
  have hS3 := hk3.size
  have hf3 : 0 < n → ∃ k cur, ap2 = some ⟨k, 0, none⟩ ∧ w3.heap[k]? = some (.cells cur 9 (0, 0)) ∧ n ≤ cur.size := by
    intro h
    obtain ⟨k, cur, e1, _, e2, e3, e4, _⟩ := hf2 h
    exact ⟨k, cur, e1, hk3.heap e2 (fun h => h), by omega⟩
  have HF := Lib.hid hf3
  clear hf3 hf2
  go_wp2
  go_loopw [5] (fun i wr => ∃ j : Nat, j ≤ n ∧ i = .int .i64 j ∧ Kept (fun b => ap2 = some ⟨b, 0, none⟩) w3 wr ∧ Hid (0 < n → ∃ k cur, ap2 = some ⟨k, 0, none⟩ ∧ wr.heap[k]? = some (.cells cur 9 (0, 0)) ∧ n ≤ cur.size)) (fun i _ => n - (intOf i).toNat)
  case atStart => exact ⟨0, Nat.zero_le _, rfl, Kept.refl _ _, HF⟩
  case round =>
    obtain ⟨j, hj, rfl, hK, hfr⟩ := hrel
    by_cases hlt : j < n
    · obtain ⟨k, cur, e1, e2, e3⟩ := hfr.out (by omega)
      have cu := cellB e2 (Array.getElem?_eq_getElem (by omega : j < cur.size))
      have fu := frozenB e2 j
      have HK := Lib.hid hK
      subst e1
      clear hfr hK
      go_wp2
      go_roundw
      case rel => exact ⟨j + 1, by omega, by go_num, HK.out.setCell (p := ⟨k, j, none⟩) (fun _ => rfl) _, fun _ => ⟨k, _, rfl, heap_setCell_same e2 _ _, by simpa using e3⟩⟩
      case measure => simp [intOf]; omega
    · obtain rfl : n = j := by omega
      have hDr : sDq wr g R ys := hD.kept hK (fun h => by have := hA2l _ h; simp only at this; omega) (fun r e h => by have := hA2l _ h; have h3 := hR r e; simp only at this; omega)
      have hBr : Below w.heap.size w wr := ((hB1.trans hB2).trans (hk3.below (by omega) (fun _ h => h.elim))).trans (hK.below (by omega) (fun i h => by have := hA2l _ h; simp only at this; omega))
      have HB := Lib.hid hBr
      clear hfr HF
      go_wp2_with fail
      refine (slist_dq g R ys wr hDr).mono ?_
      rintro e w5 ⟨v, rfl, hrow5, _, hb5⟩
      rw [hyl] at hrow5
      obtain ⟨ap5, cap5, rfl, hf5⟩ := ownsRow_form hrow5
      have hA5l := ownsRow_lt hrow5
      have hS5 := hb5.size
      have hS4 := hBr.size
      have HF : Hid (0 < n → ∃ k cur, ap5 = some ⟨k, 0, none⟩ ∧ w5.heap[k]? = some (.cells cur 9 (0, 0)) ∧ n ≤ cur.size) := by
        intro h
        obtain ⟨k, cur, e1, _, e2, e3, e4, _⟩ := hf5 h
        exact ⟨k, cur, e1, e2, by omega⟩
      have hD5 := below_dq hb5 hDr hDr.lt hDr.grown
      have hgl := hDr.lt
      have hRl := hDr.grown
      have hB5 : Below w.heap.size w w5 := hBr.trans (hb5.mono (by omega))
      have hS6 := hB5.size
      have hA6 : ∀ b, ap5 = some ⟨b, 0, none⟩ → w.heap.size ≤ b ∧ b ≠ g ∧ R ≠ some b := by
        intro b h
        have h1 := hA5l _ h
        simp only at h1
        refine ⟨by omega, by omega, fun h2 => ?_⟩
        have := hRl _ h2
        omega
      have H6 := Lib.hid hA6
      clear hf5 hrow5 hA6 hA5l
      go_wp2
      go_loopw [7] (fun i wq => ∃ j : Nat, j ≤ n ∧ i = .int .i64 j ∧ Kept (fun b => ap5 = some ⟨b, 0, none⟩) w5 wq ∧ Hid (0 < n → ∃ k cur, ap5 = some ⟨k, 0, none⟩ ∧ wq.heap[k]? = some (.cells cur 9 (0, 0)) ∧ n ≤ cur.size)) (fun i _ => n - (intOf i).toNat)
      case atStart => exact ⟨0, Nat.zero_le _, rfl, Kept.refl _ _, HF⟩
      case round =>
        obtain ⟨j, hj, rfl, hK5, hfr⟩ := hrel
        by_cases hlt : j < n
        · obtain ⟨k, cur, e1, e2, e3⟩ := hfr.out (by omega)
          have cu := cellB e2 (Array.getElem?_eq_getElem (by omega : j < cur.size))
          have fu := frozenB e2 j
          have HK := Lib.hid hK5
          subst e1
          clear hfr hK5
          go_wp2
          go_roundw
          case rel => exact ⟨j + 1, by omega, by go_num, HK.out.setCell (p := ⟨k, j, none⟩) (fun _ => rfl) _, fun _ => ⟨k, _, rfl, heap_setCell_same e2 _ _, by simpa using e3⟩⟩
          case measure => simp [intOf]; omega
        · obtain rfl : n = j := by omega
          have hDq : sDq wr g R ys := hD5.kept hK5 (fun h => (H6.out _ h).2.1 rfl) (fun r e h => (H6.out _ h).2.2 e)
          have hBq : Below w.heap.size w wr := hB5.trans (hK5.below (by omega) (fun i h => (H6.out _ h).1))
          have hYq := hY.below hBq
          have hSq := hBq.size
          clear hfr HF hK5 hK
          go_wp2_with fail
          refine (same_dq g R ys ap n c wr hDq hYq (by omega)).mono ?_
          rintro e w7 ⟨rfl, hb7⟩
          go_wp2
          go_ret
          exact ⟨rfl, hBq.trans (hb7.mono hSq)⟩

end Go.Proofs.Ytnleffjheimmbaa
