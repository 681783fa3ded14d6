/- 'step': any call, of both. -/
import Derived.Test.YtnleffjheimmbaaStep7
namespace Go.Proofs.Ytnleffjheimmbaa
open Go.RowKit Go.Shelf

theorem ends_any (w0 w : World) (g b : Nat) (R : Option Nat) (v : Value) (B : Nat) (L : List ByteArray) (kd i k : Int) (s : ByteArray) (h : Rn w0 w g b R v B L L) (hl : L.length ≤ 1000) :
    Calls Try.prog 45 #[.pointer (some ⟨g, 0, none⟩), .pointer (some ⟨b, 0, none⟩), .agg #[.int .i64 kd, .int .i64 i, .int .i64 k, .string s]] w
      fun e w' => e = .returned (.bool true) ∧ ∃ R' v' L', Rn w0 w' g b R' v' B L' L' ∧ L'.length ≤ L.length + 1 := by
  by_cases h1 : kd = 1
  · subst h1
    exact (ends_1 w0 w g b R v B L i k s h hl).mono fun e w' ⟨he, R', v', hr⟩ => ⟨he, R', v', _, hr, by simp⟩
  by_cases h2 : kd = 2
  · subst h2; exact ends_2 w0 w g b R v B L i k s h hl
  by_cases h3 : kd = 3
  · subst h3
    rcases List.eq_nil_or_concat L with rfl | ⟨L', x, rfl⟩
    · exact ends_3_nil w0 w g b R v B i k s h
    · rw [List.concat_eq_append] at *
      exact ends_3 w0 w g b R v B L' x i k s h (by simp at hl; omega)
  by_cases h4 : kd = 4
  · subst h4
    cases L with
    | nil => exact ends_4_nil w0 w g b R v B i k s h
    | cons x L' => exact ends_4 w0 w g b R v B L' x i k s h (by simp at hl; omega)
  exact ends_else w0 w g b R v B L kd i k s h h1 h2 h3 h4

set_option maxRecDepth 8000 in
set_option maxHeartbeats 1600000 in
theorem step_else (w0 w : World) (g b : Nat) (R : Option Nat) (v : Value) (B : Nat) (L : List ByteArray) (kd i k : Int) (s : ByteArray) (h : Rn w0 w g b R v B L L) (hl : L.length ≤ 1000) (h5 : kd ≠ 5) (h6 : kd ≠ 6) (h7 : kd ≠ 7) (h8 : kd ≠ 8) (h9 : kd ≠ 9) :
    Calls Try.prog 19 #[.pointer (some ⟨g, 0, none⟩), .pointer (some ⟨b, 0, none⟩), .agg #[.int .i64 kd, .int .i64 i, .int .i64 k, .string s]] w
      fun e w' => e = .returned (.bool true) ∧ ∃ R' v' L', Rn w0 w' g b R' v' B L' L' ∧ L'.length ≤ L.length + 1 := by
  have hwa := h.kept (Kept.allocd w (.cells #[.int .i64 kd, .int .i64 i, .int .i64 k, .string s] 48))
  have hop := heap_alloc_new w (.cells #[.int .i64 kd, .int .i64 i, .int .i64 k, .string s] 48)
  obtain ⟨ap, cap, rfl, hc, _⟩ := rw_len hwa.rw
  have e5 : (kd == 5) = false := beq_eq_false_iff_ne.2 h5
  have e6 : (kd == 6) = false := beq_eq_false_iff_ne.2 h6
  have e7 : (kd == 7) = false := beq_eq_false_iff_ne.2 h7
  have e8 : (kd == 8) = false := beq_eq_false_iff_ne.2 h8
  have e9 : (kd == 9) = false := beq_eq_false_iff_ne.2 h9
  clear h h5 h6 h7 h8 h9
  go_enter Try.func19, Try.ntmps19
  go_wp2_with fail
  generalize w.alloc (.cells #[.int .i64 kd, .int .i64 i, .int .i64 k, .string s] 48) = wa at *
  generalize w.heap.size = p at *
  have a0 : wa.cell? ⟨p, 0, none⟩ = some (.int .i64 kd) := cellB hop rfl
  have a1 : wa.cell? ⟨p, 1, none⟩ = some (.int .i64 i) := cellB hop rfl
  have a2 : wa.cell? ⟨p, 2, none⟩ = some (.int .i64 k) := cellB hop rfl
  have a3 : wa.cell? ⟨p, 3, none⟩ = some (.string s) := cellB hop rfl
  go_quiet ((go_at_call 41; exact Calls.quiet_of_same ((in_row i L.length _).mono (fun e w' h => ⟨h.1, h.2.symm⟩))))
  rename_i nq
  have hwq := hwa.kept ((Kept.refl NoBlock wa).drewN nq)
  generalize decide (0 ≤ i ∧ i < (L.length : Int)) = dd
  go_wp2_with fail
  refine (ends_any w0 _ g b R _ B L kd i k s hwq hl).mono ?_
  rintro e w4 ⟨rfl, R', v', L', hR4, hl4⟩
  go_wp2
  go_ret
  exact ⟨rfl, _, _, _, hR4, hl4⟩

theorem step_any (w0 w : World) (g b : Nat) (R : Option Nat) (v : Value) (B : Nat) (L : List ByteArray) (kd i k : Int) (s : ByteArray) (h : Rn w0 w g b R v B L L) (hl : L.length ≤ 1000) :
    Calls Try.prog 19 #[.pointer (some ⟨g, 0, none⟩), .pointer (some ⟨b, 0, none⟩), .agg #[.int .i64 kd, .int .i64 i, .int .i64 k, .string s]] w
      fun e w' => e = .returned (.bool true) ∧ ∃ R' v' L', Rn w0 w' g b R' v' B L' L' ∧ L'.length ≤ L.length + 1 := by
  by_cases h5 : kd = 5
  · subst h5
    by_cases hi : i < 0 ∨ (L.length : Int) ≤ i
    · exact step_5_out w0 w g b R v B L i k s h hl hi
    · obtain ⟨n, rfl⟩ := Int.eq_ofNat_of_zero_le (show 0 ≤ i by omega)
      exact step_5_in w0 w g b R v B L n k s h hl (by omega)
  by_cases h6 : kd = 6
  · subst h6
    by_cases hi : i < 0 ∨ (L.length : Int) ≤ i
    · exact step_6_out w0 w g b R v B L i k s h hl hi
    · obtain ⟨n, rfl⟩ := Int.eq_ofNat_of_zero_le (show 0 ≤ i by omega)
      exact step_6_in w0 w g b R v B L n k s h hl (by omega)
  by_cases h7 : kd = 7
  · subst h7
    by_cases hi : i < 0 ∨ (L.length : Int) < i
    · exact step_7_out w0 w g b R v B L i k s h hl hi
    · obtain ⟨n, rfl⟩ := Int.eq_ofNat_of_zero_le (show 0 ≤ i by omega)
      exact step_7_in w0 w g b R v B L n k s h hl (by omega)
  by_cases h8 : kd = 8
  · subst h8
    by_cases hi : i < 0 ∨ (L.length : Int) ≤ i
    · exact step_8_out w0 w g b R v B L i k s h hl hi
    · obtain ⟨n, rfl⟩ := Int.eq_ofNat_of_zero_le (show 0 ≤ i by omega)
      exact step_8_in w0 w g b R v B L n k s h hl (by omega)
  by_cases h9 : kd = 9
  · subst h9
    by_cases hi : i < 0 ∨ k < i ∨ (L.length : Int) < k
    · exact step_9_out w0 w g b R v B L i k s h hl hi
    · obtain ⟨n, rfl⟩ := Int.eq_ofNat_of_zero_le (show 0 ≤ i by omega)
      obtain ⟨m, rfl⟩ := Int.eq_ofNat_of_zero_le (show 0 ≤ k by omega)
      exact step_9_in w0 w g b R v B L n m s h hl (by omega) (by omega)
  exact step_else w0 w g b R v B L kd i k s h hl h5 h6 h7 h8 h9
end Go.Proofs.Ytnleffjheimmbaa
