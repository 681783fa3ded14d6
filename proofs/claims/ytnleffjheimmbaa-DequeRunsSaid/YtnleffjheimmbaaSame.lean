/- 'Same' of two lists that are one. -/
import Derived.Test.YtnleffjheimmbaaProg
import Derived.Test.YtnleffjheimmbaaBase
import Derived.KernelRfl
import Derived.Deep.QuietTactic
import Derived.BigQuiet
import Derived.WalkSpells
namespace Go.Proofs.Ytnleffjheimmbaa
open Go.RowKit

set_option maxHeartbeats 800000 in
theorem same_eq (ap bp : Option Addr) (n c c' : Nat) (xs : List ByteArray) (w : World) (hA : Holds w ap n (xs.map .string)) (hB : Holds w bp n (xs.map .string)) (hn : n ≤ 4000000) :
    Calls Try.prog 11 #[.slice ap n c, .slice bp n c'] w fun e w' => e = .returned (.bool true) ∧ ∃ k, w' = w.drewN k := by
  go_enter Try.func11, Try.ntmps11
  go_wp2
  go_loopw [5] (fun i wr => ∃ k q : Nat, k ≤ n ∧ i = .int .i64 k ∧ wr = w.drewN q) (fun i _ => n - (intOf i).toNat)
  case atStart => exact ⟨0, 0, Nat.zero_le _, rfl, rfl⟩
  case round =>
    obtain ⟨k, q, hk, rfl, rfl⟩ := hrel
    by_cases hlt : k < n
    · obtain ⟨ad, rfl, ca⟩ := hA.cell hlt
      obtain ⟨bd, rfl, cb⟩ := hB.cell hlt
      rw [List.getElem_map] at ca cb
      go_wp2_with fail
      go_quiet (fail)
      go_wp2
      go_roundw
      case rel => exact ⟨k + 1, _, by omega, by go_num, rfl⟩
      case measure => simp [intOf]; omega
    · obtain rfl : k = n := by omega
      go_wp2
      go_ret
      exact ⟨rfl, _, rfl⟩
end Go.Proofs.Ytnleffjheimmbaa
