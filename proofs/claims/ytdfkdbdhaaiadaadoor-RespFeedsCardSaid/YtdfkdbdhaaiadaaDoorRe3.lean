/- A reader of requests: small functions on bytes. -/
import Derived.Test.YtdfkdbdhaaiadaaDoorRe2
namespace Go.Proofs.YtdfkdbdhaaiadaaDoor
open Go.RowKit
attribute [local go_sem] fold_part fold_some fold_some' partAt_zero

theorem shown_string (c : UInt8) (h1 : 32 ≤ c.toNat) (h2 : c.toNat ≤ 126) (w : World) : (convert 21 9 (.int .i32 c.toNat)).run Tryd.prog w = .ok (.string ⟨#[c]⟩) w := by
  rw [run_convert_int_string w _ _ _ _ (by kernel_rfl) Tryd.underlying9]
  have hv : Utf8.valid (c.toNat : Int) = true := by unfold Utf8.valid; simp; omega
  unfold Utf8.encode
  simp only [hv, if_true, Int.toNat_natCast]
  rw [if_pos (by omega)]
  simp

theorem pshown (c : UInt8) (w : World) : Calls Tryd.prog 53 #[.int .u8 c.toNat] w fun e w' => e = .returned (.string ⟨(shown c).toArray⟩) ∧ w = w' := by
  by_cases h1 : c.toNat < 32
  · have hs : shown c = [46] := by unfold shown; rw [if_pos (.inl h1)]
    rw [hs]
    have h1' : (c.toNat : Int) < 32 := by omega
    go_enter Tryd.func53, Tryd.ntmps53
    go_wp2
    go_ret
    exact ⟨rfl, rfl⟩
  · by_cases h2 : 126 < c.toNat
    · have hs : shown c = [46] := by unfold shown; rw [if_pos (.inr h2)]
      rw [hs]
      have h1' : ¬ (c.toNat : Int) < 32 := by omega
      have h2' : (126 : Int) < (c.toNat : Int) := by omega
      go_enter Tryd.func53, Tryd.ntmps53
      go_wp2
      go_ret
      exact ⟨rfl, rfl⟩
    · have hs : shown c = [c] := by unfold shown; rw [if_neg (by omega)]
      rw [hs]
      have h1' : ¬ (c.toNat : Int) < 32 := by omega
      have h2' : ¬ (126 : Int) < (c.toNat : Int) := by omega
      have hc := fun w => shown_string c (by omega) (by omega) w
      go_enter Tryd.func53, Tryd.ntmps53
      go_wp2
      go_ret
      exact ⟨rfl, rfl⟩

theorem pblank (c : UInt8) (w : World) : Calls Tryd.prog 55 #[.int .u8 c.toNat] w fun e w' => e = .returned (.bool (blank c)) ∧ w = w' := by
  have hb : c.toNat < 256 := c.toNat_lt
  by_cases h1 : 9 ≤ c.toNat
  · by_cases h2 : c.toNat ≤ 13
    · have hs : blank c = true := by unfold blank; simp [h1, h2]
      rw [hs]
      have h1' : (9 : Int) ≤ (c.toNat : Int) := by omega
      have h2' : (c.toNat : Int) ≤ 13 := by omega
      go_enter Tryd.func55, Tryd.ntmps55
      go_wp2
      go_ret
      exact ⟨by simp, rfl⟩
    · have hs : blank c = ((c.toNat : Int) == 32) := by unfold blank; rw [Bool.eq_iff_iff]; simp [h2]; omega
      rw [hs]
      have h1' : (9 : Int) ≤ (c.toNat : Int) := by omega
      have h2' : ¬ (c.toNat : Int) ≤ 13 := by omega
      go_enter Tryd.func55, Tryd.ntmps55
      go_wp2
      go_ret
      exact ⟨rfl, rfl⟩
  · have hs : blank c = false := by unfold blank; simp [h1]; omega
    rw [hs]
    have h1' : ¬ (9 : Int) ≤ (c.toNat : Int) := by omega
    have h2' : ¬ (c.toNat : Int) = 32 := by omega
    go_enter Tryd.func55, Tryd.ntmps55
    go_wp2
    go_ret
    exact ⟨by simp; omega, rfl⟩
end Go.Proofs.YtdfkdbdhaaiadaaDoor
