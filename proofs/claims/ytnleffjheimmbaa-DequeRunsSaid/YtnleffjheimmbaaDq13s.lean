/- The deque of strings: a part left. -/
import Derived.Test.YtnleffjheimmbaaDq12s
namespace Go.Proofs.Ytnleffjheimmbaa
open Go.RowKit

theorem strim_nil (i k : Int) (w : World) :
    Calls Try.prog 29 #[.pointer none, .int .i64 i, .int .i64 k] w fun e w' => e = .returned (.int .i64 4) ∧ w = w' := by
  go_enter Try.func29, Try.ntmps29
  go_wp2
  go_ret
  exact ⟨rfl, rfl⟩

theorem strim_out (g : Nat) (R : Option Nat) (L : List ByteArray) (i k : Int) (w : World) (hD : sDq w g R L) (h : i < 0 ∨ k < i ∨ L.length < k) :
    Calls Try.prog 29 #[.pointer (some ⟨g, 0, none⟩), .int .i64 i, .int .i64 k] w fun e w' => e = .returned (.int .i64 5) ∧ w = w' := by
  have hc2 := hD.n
  go_enter Try.func29, Try.ntmps29
  by_cases hi : i < 0
  · go_wp2
    go_ret
    exact ⟨rfl, rfl⟩
  · by_cases hk : k < i
    · go_wp2
      go_ret
      exact ⟨rfl, rfl⟩
    · have h1 : (L.length : Int) < k := by omega
      go_wp2
      go_ret
      exact ⟨rfl, rfl⟩

set_option maxHeartbeats 1600000 in
theorem strim (g : Nat) (R : Option Nat) (L : List ByteArray) (i k : Nat) (w : World) (hD : sDq w g R L) (hik : i ≤ k) (hk : k ≤ L.length) :
    Calls Try.prog 29 #[.pointer (some ⟨g, 0, none⟩), .int .i64 i, .int .i64 k] w fun e w' => e = .returned (.int .i64 0) ∧ ∃ R', sDq w' g R' ((L.take k).drop i) ∧ (∀ r, R' = some r → w.heap.size ≤ r) ∧ Kept (fun k => k = g) w w' := by
  have hc2 := hD.n
  have hlen := hD.len
  have hgl := hD.lt
  go_enter Try.func29, Try.ntmps29
  go_wp2_with fail
  refine (slist_dq g R L w hD).mono ?_
  rintro e w1 ⟨v, rfl, hrow, _, hb⟩
  obtain ⟨ap, cap, rfl, hf⟩ := ownsRow_form hrow
  obtain ⟨ad, m, c, f, h0, _⟩ := hD
  have h1 : w1.heap[g]? = _ := (hb.block g hgl).trans h0
  obtain ⟨c0, c1, c2, f0, f1, f2⟩ := blk3 h1
  have hw : IntKind.i64.wrap ((k : Int) - i) = (k - i : Nat) := (IntWalk.i64_in _ (by omega)).trans (by omega)
  by_cases hlt : i < k
  · obtain ⟨r, cur, rfl, hr, hh, hc, hs, ht⟩ := hf (by omega)
    clear hf hrow
    go_wp2
    go_ret
    refine ⟨rfl, some r, ⟨_, k - i, cap - i, 0, ?_, ?_, by omega, by omega, .inr ⟨r, i, cur, rfl, rfl, by omega, ?_, by omega, ring_of_row _ _ _ ht rfl hik hk (by omega)⟩⟩, fun r' e => by cases e; exact hr, ?_⟩
    · have s1 := heap_setCell_same h1 0 (.slice (some ⟨r, i, none⟩) (k - i) (cap - i))
      have s2 := heap_setCell_same s1 1 (.int .i64 0)
      have s3 := heap_setCell_same s2 2 (.int .i64 ((k - i : Nat) : Int))
      rw [List.length_drop, List.length_take, Nat.min_eq_left hk]
      simpa using s3
    · rw [List.length_drop, List.length_take]; omega
    · rw [heap_setCell_ne _ _ (by simp only; omega), heap_setCell_ne _ _ (by simp only; omega), heap_setCell_ne _ _ (by simp only; omega)]
      exact hh
    · refine Kept.setCell (Kept.setCell (Kept.setCell (Kept.of_below hb (fun i h1 h2 => by omega)) ?_ _) ?_ _) ?_ _
      all_goals exact fun _ => rfl
  · obtain rfl : i = k := by omega
    have hcap : L.length ≤ cap := by
      rcases hrow.2 with ⟨h, _⟩ | ⟨g', cap', cur, he, _, _, hle, _⟩
      · injection h with h1 h2 h3; omega
      · injection he with h1 h2 h3; omega
    have hcn : ap = none → cap = 0 := by
      intro e
      subst e
      rcases hrow.2 with ⟨h, _⟩ | ⟨g', cap', cur, he, _⟩
      · injection h with h1 h2 h3
      · injection he with h1 h2 h3; cases h1
    have hl0 : ap = none → i = 0 := fun e => by have := hcn e; omega
    have hdn : (L.take i).drop i = [] := List.drop_of_length_le (by rw [List.length_take]; omega)
    have HD := Lib.hid hdn
    have fin : ∀ (sv : Option Addr) (cc : Nat), (((w1.setCell ⟨g, 0, none⟩ (.slice sv 0 cc)).setCell ⟨g, 1, none⟩ (.int .i64 0)).setCell ⟨g, 2, none⟩ (.int .i64 0)).heap[g]? = some (.cells #[.slice sv 0 cc, .int .i64 0, .int .i64 0] 62 (0, 0)) ∧
        Kept (fun k => k = g) w (((w1.setCell ⟨g, 0, none⟩ (.slice sv 0 cc)).setCell ⟨g, 1, none⟩ (.int .i64 0)).setCell ⟨g, 2, none⟩ (.int .i64 0)) := by
      intro sv cc
      constructor
      · have s1 := heap_setCell_same h1 0 (.slice sv 0 cc)
        have s2 := heap_setCell_same s1 1 (.int .i64 0)
        have s3 := heap_setCell_same s2 2 (.int .i64 0)
        simpa using s3
      · refine Kept.setCell (Kept.setCell (Kept.setCell (Kept.of_below hb (fun i h1 h2 => by omega)) ?_ _) ?_ _) ?_ _
        all_goals exact fun _ => rfl
    have HF := Lib.hid fin
    clear hdn fin hf hrow
    cases ap with
    | none =>
      obtain rfl := hl0 rfl
      obtain rfl := hcn rfl
      clear hcn hl0
      go_wp2
      go_ret
      rw [HD.out]
      obtain ⟨k1, k2⟩ := HF.out none 0
      exact ⟨rfl, none, ⟨_, 0, _, 0, k1, by simp, by omega, by omega, .inl ⟨rfl, rfl⟩⟩, by simp, k2⟩
    | some ad =>
      clear hcn hl0
      by_cases hci : cap = i
      all_goals go_wp2
      all_goals go_ret
      all_goals (try rw [HD.out])
      all_goals exact ⟨rfl, none, ⟨_, 0, _, 0, (HF.out _ _).1, by simp, by omega, by omega, .inl ⟨rfl, rfl⟩⟩, by simp, (HF.out _ _).2⟩
end Go.Proofs.Ytnleffjheimmbaa
