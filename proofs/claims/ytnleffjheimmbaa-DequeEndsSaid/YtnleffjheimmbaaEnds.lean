/- 'DequeEnds' returns true, where its list is cut and where it is not. -/
import Derived.Test.YtnleffjheimmbaaDq11i
import Derived.Test.YtnleffjheimmbaaAwake
namespace Go.Proofs.Ytnleffjheimmbaa
open Go.RowKit

/-- Two deques of ints, made one behind the other from w1 on; their rings are new and not one. -/
structure Two (w1 wr : World) (Ra Rb : Option Nat) (La Lb : List Int) : Prop where
  da : iDq wr w1.heap.size Ra La
  db : iDq wr (w1.heap.size + 1) Rb Lb
  ra : ∀ r, Ra = some r → w1.heap.size + 2 ≤ r
  rb : ∀ r, Rb = some r → w1.heap.size + 2 ≤ r
  ab : ∀ r, Ra = some r → Rb ≠ some r
  bl : Below w1.heap.size w1 wr

theorem Two.start (w1 : World) : Two w1 ((w1.alloc (.cells #[.slice none 0 0, .int .i64 0, .int .i64 0] 35)).alloc (.cells #[.slice none 0 0, .int .i64 0, .int .i64 0] 35)) none none [] [] := by
  refine ⟨⟨none, 0, 0, 0, ?_, by simp, by omega, by omega, .inl ⟨rfl, rfl⟩⟩, ⟨none, 0, 0, 0, ?_, by simp, by omega, by omega, .inl ⟨rfl, rfl⟩⟩, by simp, by simp, by simp, ?_⟩
  · rw [Below.heap_alloc _ _ _ (by simp)]; exact heap_alloc_new w1 _
  · have := heap_alloc_new (w1.alloc (.cells #[.slice none 0 0, .int .i64 0, .int .i64 0] 35)) (.cells #[.slice none 0 0, .int .i64 0, .int .i64 0] 35)
    rw [World.size_alloc] at this
    exact this
  · exact ((Below.refl _ w1).alloc (Nat.le_refl _) _).alloc (by simp) _

section
variable {w1 wr w2 : World} {Ra Rb : Option Nat} {La Lb L' : List Int}

theorem Two.pushA {r : Nat} (h : Two w1 wr Ra Rb La Lb) (hD : iDq w2 w1.heap.size (some r) L') (hr : Ra = some r ∨ wr.heap.size ≤ r) (hk : Kept (fun k => k = w1.heap.size ∨ k = r) wr w2) : Two w1 w2 (some r) Rb L' Lb := by
  have hb := h.db.lt
  have hr2 : w1.heap.size + 2 ≤ r := by
    rcases hr with hr | hr
    · exact h.ra r hr
    · omega
  have hrb : Rb ≠ some r := by
    rcases hr with hr | hr
    · exact h.ab r hr
    · intro e; have := (h.db.ring e).1; omega
  refine ⟨hD, h.db.kept hk ?_ ?_, ?_, h.rb, ?_, h.bl.trans (hk.below (by have := h.bl.size; omega) ?_)⟩
  · intro e; omega
  · rintro q e (e' | e')
    · have := h.rb q e; omega
    · subst e'; exact hrb e
  · intro q e; cases e; exact hr2
  · intro q e; cases e; exact hrb
  · rintro i (e | e) <;> omega

theorem Two.pushB {r : Nat} (h : Two w1 wr Ra Rb La Lb) (hD : iDq w2 (w1.heap.size + 1) (some r) L') (hr : Rb = some r ∨ wr.heap.size ≤ r) (hk : Kept (fun k => k = w1.heap.size + 1 ∨ k = r) wr w2) : Two w1 w2 Ra (some r) La L' := by
  have ha := h.db.lt
  have hr2 : w1.heap.size + 2 ≤ r := by
    rcases hr with hr | hr
    · exact h.rb r hr
    · omega
  have hra : Ra ≠ some r := by
    rcases hr with hr | hr
    · intro e; exact h.ab r e hr
    · intro e; have := (h.da.ring e).1; omega
  refine ⟨h.da.kept hk ?_ ?_, hD, h.ra, ?_, ?_, h.bl.trans (hk.below (by have := h.bl.size; omega) ?_)⟩
  · intro e; omega
  · rintro q e (e' | e')
    · have := h.ra q e; omega
    · subst e'; exact hra e
  · intro q e; cases e; exact hr2
  · intro q e e'; cases e'; exact hra e
  · rintro i (e | e) <;> omega

theorem Two.popA (h : Two w1 wr Ra Rb La Lb) (hD : iDq w2 w1.heap.size Ra L') (hk : Kept (fun k => k = w1.heap.size ∨ Ra = some k) wr w2) : Two w1 w2 Ra Rb L' Lb := by
  refine ⟨hD, h.db.kept hk ?_ ?_, h.ra, h.rb, h.ab, h.bl.trans (hk.below (by have := h.bl.size; omega) ?_)⟩
  · rintro (e | e)
    · omega
    · have := h.ra _ e; omega
  · rintro q e (e' | e')
    · have := h.rb q e; omega
    · exact h.ab q e' e
  · rintro i (e | e)
    · omega
    · have := h.ra _ e; omega

theorem Two.popB (h : Two w1 wr Ra Rb La Lb) (hD : iDq w2 (w1.heap.size + 1) Rb L') (hk : Kept (fun k => k = w1.heap.size + 1 ∨ Rb = some k) wr w2) : Two w1 w2 Ra Rb La L' := by
  refine ⟨h.da.kept hk ?_ ?_, hD, h.ra, h.rb, h.ab, h.bl.trans (hk.below (by have := h.bl.size; omega) ?_)⟩
  · rintro (e | e)
    · omega
    · have := h.rb _ e; omega
  · rintro q e (e' | e')
    · have := h.ra q e; omega
    · exact h.ab q e e'
  · rintro i (e | e)
    · omega
    · have := h.rb _ e; omega

theorem Two.kept (h : Two w1 wr Ra Rb La Lb) (hk : Kept NoBlock wr w2) : Two w1 w2 Ra Rb La Lb :=
  ⟨h.da.kept hk (fun h => h) (fun _ _ h => h), h.db.kept hk (fun h => h) (fun _ _ h => h), h.ra, h.rb, h.ab, h.bl.trans (hk.below (by have := h.bl.size; omega) (fun _ h => h.elim))⟩
end

set_option maxRecDepth 8000 in
set_option maxHeartbeats 1600000 in
theorem ends_long (ap : Option Addr) (n c : Nat) (ys : List Int) (w : World) (hY : Holds w ap 300 (ys.map (.int .i64 ·))) (hc : n ≤ c) (hn : 300 < n) :
    Calls Try.prog 5 #[.slice ap n c] w fun e w' => e = .returned (.bool true) ∧ Below w.heap.size w w' := by
  have hyl : ys.length = 300 := by simpa using hY.1
  have hlen300 : (300 : Int) < n := by omega
  go_enter Try.func5, Try.ntmps5
  go_wp2_with fail
  refine (awake_true _).mono ?_
  rintro e w1 ⟨rfl, hk1⟩
  have hB1 := hk1.below (Nat.le_refl _) (fun _ h => h.elim)
  have hS1 := hk1.size
  have hT0 := Two.start w1
  have HYL := Lib.hid hyl
  clear hyl
  go_wp2_with fail
  go_loopw [5] (fun i wr => ∃ (j : Nat) (Ra Rb : Option Nat), j ≤ 300 ∧ i = .int .i64 j ∧ Two w1 wr Ra Rb (ys.take j) (ys.take j).reverse) (fun i _ => 300 - (intOf i).toNat)
  case atStart => exact ⟨0, none, none, Nat.zero_le _, rfl, by simpa using hT0⟩
  case round =>
    obtain ⟨j, Ra, Rb, hj, rfl, hT⟩ := hrel
    by_cases hlt : j < 300
    · have hjy : j < ys.length := by rw [HYL.out]; exact hlt
      obtain ⟨ad, rfl, ca⟩ := (hY.below (hB1.trans (hT.bl.mono hS1))).cell hlt
      rw [List.getElem_map] at ca
      have ht : ys.take (j + 1) = ys.take j ++ [ys[j]] := List.take_succ_eq_append_getElem hjy
      have hlj : (ys.take j).length = j := by rw [List.length_take]; omega
      have hHT := Lib.hid ht
      clear ht
      go_wp2_with fail
      refine (ipush _ Ra (ys.take j) ys[j] wr hT.da (by rw [hlj]; omega)).mono ?_
      rintro e w2 ⟨rfl, r, hD2, hr2, hk2⟩
      have hT2 := hT.pushA hD2 hr2 hk2
      obtain ⟨ad', e', cb⟩ := (hY.below (hB1.trans (hT2.bl.mono hS1))).cell hlt
      cases e'
      rw [List.getElem_map] at cb
      go_wp2_with fail
      refine (iunshift _ Rb (ys.take j).reverse ys[j] w2 hT2.db (by rw [List.length_reverse, hlj]; omega)).mono ?_
      rintro e w3 ⟨rfl, r3, hD3, hr3, hk3⟩
      have hT3 := hT2.pushB hD3 hr3 hk3
      have H3 := Lib.hid hT3
      go_wp2
      go_roundw
      case rel => exact ⟨j + 1, some r, some r3, by omega, by go_num, by rw [hHT.out, List.reverse_append]; exact H3.out⟩
      case measure => simp [intOf]; omega
    · have hjn : ys.length ≤ j := by rw [HYL.out]; omega
      rw [List.take_of_length_le hjn] at hT
      have H4 := Lib.hid hT
      clear hT
      go_wp2_with fail
      go_loopw [6] (fun i wq => ∃ (j : Nat), j ≤ 300 ∧ i = .int .i64 j ∧ Two w1 wq Ra Rb (ys.drop j) (ys.drop j).reverse) (fun i _ => 300 - (intOf i).toNat)
      case atStart => exact ⟨0, Nat.zero_le _, rfl, by simpa using H4.out⟩
      case round =>
        clear H4
        obtain ⟨j, hj, rfl, hT⟩ := hrel
        by_cases hlt : j < 300
        · have hjy : j < ys.length := by rw [HYL.out]; exact hlt
          have ht : ys.drop j = ys[j] :: ys.drop (j + 1) := List.drop_eq_getElem_cons hjy
          rw [ht, List.reverse_cons] at hT
          clear ht
          go_wp2_with fail
          refine (ishift _ Ra _ _ wr hT.da).mono ?_
          rintro e w2 ⟨rfl, hD2, hk2⟩
          have hT2 := hT.popA hD2 hk2
          go_wp2_with fail
          refine (ipop _ Rb _ _ w2 hT2.db).mono ?_
          rintro e w3 ⟨rfl, hD3, hk3⟩
          have hT3 := hT2.popB hD3 hk3
          obtain ⟨ad, rfl, ca⟩ := (hY.below (hB1.trans (hT3.bl.mono hS1))).cell hlt
          rw [List.getElem_map] at ca
          have H3 := Lib.hid hT3
          go_wp2
          go_roundw
          case rel => exact ⟨j + 1, by omega, by go_num, H3.out⟩
          case measure => simp [intOf]; omega
        · have hjn : ys.length ≤ j := by rw [HYL.out]; omega
          rw [List.drop_of_length_le hjn] at hT
          go_wp2_with fail
          refine (ipop_nil _ Ra _ hT.da).mono ?_
          rintro e w2 ⟨rfl, hk2⟩
          have hT2 := hT.kept hk2
          go_wp2_with fail
          refine (ishift_nil _ Rb _ hT2.db).mono ?_
          rintro e w3 ⟨rfl, hk3⟩
          have hT3 := hT2.kept hk3
          go_wp2_with fail
          refine (ilen_dq _ Ra _ _ hT3.da).mono ?_
          rintro e w4 ⟨rfl, rfl⟩
          go_wp2_with fail
          refine (ilen_dq _ Rb _ _ hT3.db).mono ?_
          rintro e w4 ⟨rfl, rfl⟩
          have hB3 : Below w.heap.size w w3 := hB1.trans (hT3.bl.mono hS1)
          go_wp2
          go_ret
          exact ⟨rfl, hB3⟩

set_option maxRecDepth 8000 in
set_option maxHeartbeats 1600000 in
theorem ends_short (ap : Option Addr) (n c : Nat) (ys : List Int) (w : World) (hY : Holds w ap n (ys.map (.int .i64 ·))) (hc : n ≤ c) (hn : n ≤ 300) :
    Calls Try.prog 5 #[.slice ap n c] w fun e w' => e = .returned (.bool true) ∧ Below w.heap.size w w' := by
  have hyl : ys.length = n := by simpa using hY.1
  have hlen300 : ¬ ((300 : Int) < n) := by omega
  go_enter Try.func5, Try.ntmps5
  go_wp2_with fail
  refine (awake_true _).mono ?_
  rintro e w1 ⟨rfl, hk1⟩
  have hB1 := hk1.below (Nat.le_refl _) (fun _ h => h.elim)
  have hS1 := hk1.size
  have hT0 := Two.start w1
  have HYL := Lib.hid hyl
  clear hyl
  go_wp2_with fail
  go_loopw [5] (fun i wr => ∃ (j : Nat) (Ra Rb : Option Nat), j ≤ n ∧ i = .int .i64 j ∧ Two w1 wr Ra Rb (ys.take j) (ys.take j).reverse) (fun i _ => n - (intOf i).toNat)
  case atStart => exact ⟨0, none, none, Nat.zero_le _, rfl, by simpa using hT0⟩
  case round =>
    obtain ⟨j, Ra, Rb, hj, rfl, hT⟩ := hrel
    by_cases hlt : j < n
    · have hjy : j < ys.length := by rw [HYL.out]; exact hlt
      obtain ⟨ad, rfl, ca⟩ := (hY.below (hB1.trans (hT.bl.mono hS1))).cell hlt
      rw [List.getElem_map] at ca
      have ht : ys.take (j + 1) = ys.take j ++ [ys[j]] := List.take_succ_eq_append_getElem hjy
      have hlj : (ys.take j).length = j := by rw [List.length_take]; omega
      have hHT := Lib.hid ht
      clear ht
      go_wp2_with fail
      refine (ipush _ Ra (ys.take j) ys[j] wr hT.da (by rw [hlj]; omega)).mono ?_
      rintro e w2 ⟨rfl, r, hD2, hr2, hk2⟩
      have hT2 := hT.pushA hD2 hr2 hk2
      obtain ⟨ad', e', cb⟩ := (hY.below (hB1.trans (hT2.bl.mono hS1))).cell hlt
      cases e'
      rw [List.getElem_map] at cb
      go_wp2_with fail
      refine (iunshift _ Rb (ys.take j).reverse ys[j] w2 hT2.db (by rw [List.length_reverse, hlj]; omega)).mono ?_
      rintro e w3 ⟨rfl, r3, hD3, hr3, hk3⟩
      have hT3 := hT2.pushB hD3 hr3 hk3
      have H3 := Lib.hid hT3
      go_wp2
      go_roundw
      case rel => exact ⟨j + 1, some r, some r3, by omega, by go_num, by rw [hHT.out, List.reverse_append]; exact H3.out⟩
      case measure => simp [intOf]; omega
    · have hjn : ys.length ≤ j := by rw [HYL.out]; omega
      rw [List.take_of_length_le hjn] at hT
      have H4 := Lib.hid hT
      clear hT
      go_wp2_with fail
      go_loopw [6] (fun i wq => ∃ (j : Nat), j ≤ n ∧ i = .int .i64 j ∧ Two w1 wq Ra Rb (ys.drop j) (ys.drop j).reverse) (fun i _ => n - (intOf i).toNat)
      case atStart => exact ⟨0, Nat.zero_le _, rfl, by simpa using H4.out⟩
      case round =>
        clear H4
        obtain ⟨j, hj, rfl, hT⟩ := hrel
        by_cases hlt : j < n
        · have hjy : j < ys.length := by rw [HYL.out]; exact hlt
          have ht : ys.drop j = ys[j] :: ys.drop (j + 1) := List.drop_eq_getElem_cons hjy
          rw [ht, List.reverse_cons] at hT
          clear ht
          go_wp2_with fail
          refine (ishift _ Ra _ _ wr hT.da).mono ?_
          rintro e w2 ⟨rfl, hD2, hk2⟩
          have hT2 := hT.popA hD2 hk2
          go_wp2_with fail
          refine (ipop _ Rb _ _ w2 hT2.db).mono ?_
          rintro e w3 ⟨rfl, hD3, hk3⟩
          have hT3 := hT2.popB hD3 hk3
          obtain ⟨ad, rfl, ca⟩ := (hY.below (hB1.trans (hT3.bl.mono hS1))).cell hlt
          rw [List.getElem_map] at ca
          have H3 := Lib.hid hT3
          go_wp2
          go_roundw
          case rel => exact ⟨j + 1, by omega, by go_num, H3.out⟩
          case measure => simp [intOf]; omega
        · have hjn : ys.length ≤ j := by rw [HYL.out]; omega
          rw [List.drop_of_length_le hjn] at hT
          go_wp2_with fail
          refine (ipop_nil _ Ra _ hT.da).mono ?_
          rintro e w2 ⟨rfl, hk2⟩
          have hT2 := hT.kept hk2
          go_wp2_with fail
          refine (ishift_nil _ Rb _ hT2.db).mono ?_
          rintro e w3 ⟨rfl, hk3⟩
          have hT3 := hT2.kept hk3
          go_wp2_with fail
          refine (ilen_dq _ Ra _ _ hT3.da).mono ?_
          rintro e w4 ⟨rfl, rfl⟩
          go_wp2_with fail
          refine (ilen_dq _ Rb _ _ hT3.db).mono ?_
          rintro e w4 ⟨rfl, rfl⟩
          have hB3 : Below w.heap.size w w3 := hB1.trans (hT3.bl.mono hS1)
          go_wp2
          go_ret
          exact ⟨rfl, hB3⟩

end Go.Proofs.Ytnleffjheimmbaa
