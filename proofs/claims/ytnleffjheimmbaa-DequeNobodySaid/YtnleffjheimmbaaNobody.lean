/- 'DequeNobody' returns true: a deque that is nil. -/
import Derived.Test.YtnleffjheimmbaaWalkedNil
import Derived.Test.YtnleffjheimmbaaDq13s
import Derived.Test.YtnleffjheimmbaaAwake
namespace Go.Proofs.Ytnleffjheimmbaa
open Go.RowKit Go.Shelf

set_option maxRecDepth 8000 in
set_option maxHeartbeats 1600000 in
theorem nobody_true (i k : Int) (s : ByteArray) (w : World) :
    Calls Try.prog 7 #[.int .i64 i, .int .i64 k, .string s] w fun e w' => e = .returned (.bool true) ∧ Below w.heap.size w w' := by
  have hi : i < 0 ∨ (0 : Int) ≤ i := by omega
  have HI := Lib.hid hi
  clear hi
  have hemp : (⟨#[]⟩ : ByteArray) ++ ⟨#[]⟩ = ⟨#[]⟩ := by rfl
  go_enter Try.func7, Try.ntmps7
  go_wp2_with fail
  refine (spop_nobody _).mono ?_
  rintro e w1 ⟨rfl, hk1⟩
  go_wp2_with fail
  refine (sshift_nobody _).mono ?_
  rintro e w2 ⟨rfl, hk2⟩
  go_wp2_with fail
  refine (sat_out none 0 i _ (slen_nil _) HI.out).mono ?_
  rintro e w' ⟨rfl, rfl⟩
  go_wp2_with fail
  refine (sremove_nil i _).mono ?_
  rintro e w' ⟨rfl, rfl⟩
  go_wp2_with fail
  refine (walkedUp_nil 9 _).mono ?_
  rintro e w3 ⟨rfl, hb3⟩
  go_wp2_with fail
  refine (walkedBack_nil 9 _).mono ?_
  rintro e w4 ⟨rfl, hb4⟩
  go_wp2_with fail
  refine (slist_nil _).mono ?_
  rintro e w5 ⟨rfl, hb5⟩
  go_wp2_with fail
  refine (slen_nil _).mono ?_
  rintro e w' ⟨rfl, rfl⟩
  go_wp2_with fail
  refine (spush_nil s _).mono ?_
  rintro e w' ⟨rfl, rfl⟩
  go_wp2_with fail
  refine (sunshift_nil s _).mono ?_
  rintro e w' ⟨rfl, rfl⟩
  go_wp2_with fail
  refine (sset_nil i s _).mono ?_
  rintro e w' ⟨rfl, rfl⟩
  go_wp2_with fail
  refine (sinsert_nil i s _).mono ?_
  rintro e w' ⟨rfl, rfl⟩
  go_wp2_with fail
  refine (strim_nil i k _).mono ?_
  rintro e w' ⟨rfl, rfl⟩
  go_wp2_with fail
  refine (awake_true _).mono ?_
  rintro e w6 ⟨rfl, hk6⟩
  have hB : Below w.heap.size w w6 := by
    have h2 := (hk1.trans hk2).below (B := w.heap.size) (Nat.le_refl _) (fun _ h => h.elim)
    have s2 := h2.size
    have h3 := h2.trans (hb3.mono s2)
    have s3 := h3.size
    have h4 := h3.trans (hb4.mono s3)
    have s4 := h4.size
    have h5 := h4.trans (hb5.mono s4)
    exact h5.trans (hk6.below h5.size (fun _ h => h.elim))
  go_wp2
  go_ret
  exact ⟨rfl, hB⟩
end Go.Proofs.Ytnleffjheimmbaa
