/- 'All' and 'Back' with the function that 'walked' hands them: as far as is wanted. -/
import Derived.Test.YtnleffjheimmbaaWk
namespace Go.Proofs.Ytnleffjheimmbaa
open Go.RowKit Go.Shelf

theorem below_dq {w w' : World} {b g : Nat} {R : Option Nat} {L : List ByteArray} (hB : Below b w w') (h : sDq w g R L) (hg : g < b) (hR : ∀ r, R = some r → r < b) : sDq w' g R L :=
  h.kept (Kept.of_below (S := fun i => b ≤ i) hB (fun _ _ h => h)) (by omega) (fun r hr => by have := hR r hr; omega)

theorem Below.drewN' {b : Nat} {W W' : World} (h : Below b W W') (n : Nat) : Below b W (W'.drewN n) := ⟨h.os, h.tape, h.output, h.size, h.block⟩

set_option maxHeartbeats 800000 in
theorem all1w (W : World) (b Bd g : Nat) (R : Option Nat) (L : List ByteArray) (M : Nat) (hM : 1 ≤ M) (hW : Wk W b Bd false M 0 [] (some ⟨g, 0, none⟩)) (hD : sDq W g R L) (hg : g < b) (hR : ∀ r, R = some r → r < b) (hL : L.length ≤ 1000000) :
    Calls Try.prog 52 #[.func (.func 35) #[] #[.pointer (some ⟨b + 3, 0, none⟩), .pointer (some ⟨b + 4, 0, none⟩), .pointer (some ⟨b + 2, 0, none⟩), .pointer (some ⟨b, 0, none⟩), .pointer (some ⟨b + 1, 0, none⟩)], .pointer (some ⟨Bd, 0, none⟩)] W
      fun e W' => e = .returned (.tuple #[]) ∧ (∃ a', Wk W' b Bd false M a' (L.take M) (some ⟨g, 0, none⟩)) ∧ Below b W W' := by
  go_enter Try.func52, Try.ntmps52
  go_wp2
  go_loopw [3] (fun i wr => ∃ k : Nat, k ≤ L.length ∧ i = .int .i64 k ∧ (k < M ∨ k = L.length) ∧ k ≤ M ∧ Wk wr b Bd false M k (L.take k) (some ⟨g, 0, none⟩) ∧ Below b W wr) (fun i _ => L.length - (intOf i).toNat)
  case atStart => exact ⟨0, Nat.zero_le _, rfl, .inl (by omega), by omega, hW, Below.refl _ _⟩
  case round =>
    obtain ⟨k, hk, rfl, hkM, hkM', hWk, hB⟩ := hrel
    have hDr := below_dq hB hD hg hR
    have hBd := hWk.bd.cell
    by_cases hlt : k < L.length
    · obtain ⟨m, c, f, r, o, j, c0, c1, c2, hm, hm', hf, hj, hjm, cr⟩ := hDr.at hlt
      have hlk : (L.take k).length = k := by rw [List.length_take]; omega
      have HW := Lib.hid hWk
      clear hWk
      go_wp2_with (go_at_call 20; refine (slen_dq g R L _ hDr).mono ?_; rintro e w' ⟨rfl, rfl⟩)
      refine wp_plan 0 [1, 2, 3, 4, 5, 6, 7, 8, 9, 10] 11 [] [12] (by kernel_rfl) (by kernel_rfl) ?_
      simp only [wpPlan, pick, List.filterMap_cons, List.filterMap_nil, List.getElem?_cons_succ, List.getElem?_cons_zero]
      repeat (quiet_step ((go_at_call 49; exact Calls.quiet_of (splace_cell g f k m c j _ k _ (by exact c0) (by exact c1) hm hm' hf (by omega) rfl hj))))
      refine wpQuiet_nil ?_
      rintro _ ⟨n1, rfl⟩
      go_wp2_with (go_at_call 35; refine (wk1 _ b Bd false M k (L.take k) _ L[k] (HW.out.drewN n1) (by omega) (by omega) (by omega)).mono ?_; rintro e W' ⟨rfl, hW2, hB2⟩)
      refine Halt.mk ?_
      have HW2 := Lib.hid hW2
      clear hW2
      by_cases hgo : k + 1 < M
      · have hgo' : decide ((k : Int) + 1 < M) = true := by simp; omega
        rw [hgo']
        repeat (quiet_step (fail))
        refine wpQuiet_nil ?_
        rintro _ ⟨n2, rfl⟩
        go_wp2
        go_roundw
        case rel =>
          refine ⟨k + 1, by omega, by go_num, by omega, by omega, ?_, ?_⟩
          · have := HW2.out.drewN n2
            rw [List.take_succ_eq_append_getElem hlt]
            simpa using this
          · exact (hB.trans (Below.drewN' (Below.refl _ _) n1)).trans (Below.drewN' hB2 n2)
        case measure => simp [intOf]; omega
      · have hgo' : decide ((k : Int) + 1 < M) = false := by simp; omega
        rw [hgo']
        repeat (quiet_step (fail))
        refine wpQuiet_nil ?_
        rintro _ ⟨n2, rfl⟩
        go_wp2
        refine bodyPost_ret (results_none rfl _ _ _) rfl ?_
        obtain rfl : M = k + 1 := by omega
        refine ⟨rfl, ⟨(k : Int) + 1, ?_⟩, (hB.trans (Below.drewN' (Below.refl _ _) n1)).trans (Below.drewN' hB2 n2)⟩
        rw [List.take_succ_eq_append_getElem hlt]
        exact HW2.out.drewN n2
    · obtain rfl : k = L.length := by omega
      go_wp2_with (go_at_call 20; refine (slen_dq g R L _ hDr).mono ?_; rintro e w' ⟨rfl, rfl⟩)
      go_end0
      rw [List.take_length] at hWk
      rw [List.take_of_length_le (by omega)]
      exact ⟨rfl, ⟨_, hWk⟩, hB⟩

theorem rev_take_succ (L : List ByteArray) (k : Nat) (h : k < L.length) : L.reverse.take (k + 1) = L.reverse.take k ++ [L[L.length - 1 - k]] := by
  rw [List.take_succ_eq_append_getElem (by simpa using h)]
  simp

set_option maxHeartbeats 800000 in
theorem back1w (W : World) (b Bd g : Nat) (R : Option Nat) (L : List ByteArray) (M : Nat) (hM : 1 ≤ M) (hW : Wk W b Bd true M (L.length - 1) [] (some ⟨g, 0, none⟩)) (hD : sDq W g R L) (hg : g < b) (hR : ∀ r, R = some r → r < b) (hL : L.length ≤ 1000000) :
    Calls Try.prog 53 #[.func (.func 35) #[] #[.pointer (some ⟨b + 3, 0, none⟩), .pointer (some ⟨b + 4, 0, none⟩), .pointer (some ⟨b + 2, 0, none⟩), .pointer (some ⟨b, 0, none⟩), .pointer (some ⟨b + 1, 0, none⟩)], .pointer (some ⟨Bd, 0, none⟩)] W
      fun e W' => e = .returned (.tuple #[]) ∧ (∃ a', Wk W' b Bd true M a' (L.reverse.take M) (some ⟨g, 0, none⟩)) ∧ Below b W W' := by
  have hBd0 := hW.bd.cell
  have hw0 : IntKind.i64.wrap ((L.length : Int) - 1) = L.length - 1 := IntWalk.i64_in _ (by omega)
  go_enter Try.func53, Try.ntmps53
  go_wp2_with (go_at_call 20; refine (slen_dq g R L _ hD).mono ?_; rintro e w' ⟨rfl, rfl⟩)
  go_loopw [3] (fun i wr => ∃ k : Nat, k ≤ L.length ∧ i = .int .i64 ((L.length : Int) - 1 - k) ∧ (k < M ∨ k = L.length) ∧ k ≤ M ∧ Wk wr b Bd true M ((L.length : Int) - 1 - k) (L.reverse.take k) (some ⟨g, 0, none⟩) ∧ Below b W wr) (fun i _ => (intOf i + 1).toNat)
  case atStart => exact ⟨0, Nat.zero_le _, by simp, .inl (by omega), by omega, by simpa using hW, Below.refl _ _⟩
  case round =>
    obtain ⟨k, hk, rfl, hkM, hkM', hWk, hB⟩ := hrel
    have hDr := below_dq hB hD hg hR
    have hBd := hWk.bd.cell
    by_cases hlt : k < L.length
    · obtain ⟨q, hq⟩ : ∃ q, q = L.length - 1 - k := ⟨_, rfl⟩
      have hqi : ((L.length : Int) - 1 - k) = q := by omega
      have hql : q < L.length := by omega
      have hs : L.reverse.take (k + 1) = L.reverse.take k ++ [L[q]] := by
        have := rev_take_succ L k hlt
        simp only [← hq] at this
        exact this
      rw [hqi] at hWk
      obtain ⟨m, c, f, r, o, j, c0, c1, c2, hm, hm', hf, hj, hjm, cr⟩ := hDr.at hql
      have hlk : (L.reverse.take k).length = k := by rw [List.length_take, List.length_reverse]; omega
      have HW := Lib.hid hWk
      clear hWk
      rw [hqi]
      have HS := Lib.hid hs
      have HQ := Lib.hid hqi
      clear hs hqi hq
      go_wp2_with fail
      refine wp_plan 0 [1, 2, 3, 4, 5, 6, 7, 8, 9, 10] 11 [] [12] (by kernel_rfl) (by kernel_rfl) ?_
      simp only [wpPlan, pick, List.filterMap_cons, List.filterMap_nil, List.getElem?_cons_succ, List.getElem?_cons_zero]
      repeat (quiet_step ((go_at_call 49; exact Calls.quiet_of (splace_cell g f q m c j _ q _ (by exact c0) (by exact c1) hm hm' hf (by omega) rfl hj))))
      refine wpQuiet_nil ?_
      rintro _ ⟨n1, rfl⟩
      go_wp2_with (go_at_call 35; refine (wk1 _ b Bd true M q (L.reverse.take k) _ L[q] (HW.out.drewN n1) (by omega) (by omega) (by omega)).mono ?_; rintro e W' ⟨rfl, hW2, hB2⟩)
      refine Halt.mk ?_
      have HW2 := Lib.hid hW2
      clear hW2
      by_cases hgo : k + 1 < M
      · have hgo' : decide ((k : Int) + 1 < M) = true := by simp; omega
        rw [hgo']
        repeat (quiet_step (fail))
        refine wpQuiet_nil ?_
        rintro _ ⟨n2, rfl⟩
        have hwq : IntKind.i64.wrap ((q : Int) - 1) = q - 1 := IntWalk.i64_in _ (by omega)
        go_wp2
        go_roundw
        case rel =>
          have hqi := HQ.out
          refine ⟨k + 1, by omega, ?_, by omega, by omega, ?_, ?_⟩
          · congr 1; omega
          · have := HW2.out.drewN n2
            rw [HS.out, show ((L.length : Int) - 1 - ((k + 1 : Nat) : Int)) = q - 1 by omega]
            simpa using this
          · exact (hB.trans (Below.drewN' (Below.refl _ _) n1)).trans (Below.drewN' hB2 n2)
        case measure => simp [intOf]
      · have hgo' : decide ((k : Int) + 1 < M) = false := by simp; omega
        rw [hgo']
        repeat (quiet_step (fail))
        refine wpQuiet_nil ?_
        rintro _ ⟨n2, rfl⟩
        go_wp2
        refine bodyPost_ret (results_none rfl _ _ _) rfl ?_
        obtain rfl : M = k + 1 := by omega
        refine ⟨rfl, ⟨(q : Int) - 1, ?_⟩, (hB.trans (Below.drewN' (Below.refl _ _) n1)).trans (Below.drewN' hB2 n2)⟩
        rw [HS.out]
        exact HW2.out.drewN n2
    · obtain rfl : k = L.length := by omega
      have hqi : ((L.length : Int) - 1 - L.length) = -1 := by omega
      rw [hqi]
      go_wp2_with fail
      go_end0
      rw [show L.reverse.take L.length = L.reverse by rw [List.take_of_length_le (by simp)]] at hWk
      rw [List.take_of_length_le (by simpa using hkM')]
      exact ⟨rfl, ⟨_, hWk⟩, hB⟩
end Go.Proofs.Ytnleffjheimmbaa
