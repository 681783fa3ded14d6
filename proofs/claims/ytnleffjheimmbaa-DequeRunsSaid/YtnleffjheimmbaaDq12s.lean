/- The deque of strings: a value taken out of a place; a part left. -/
import Derived.Test.YtnleffjheimmbaaDq11s
namespace Go.Proofs.Ytnleffjheimmbaa
open Go.RowKit
attribute [local go_sem] stillV_value stillV_skip

theorem sremove_nil (i : Int) (w : World) :
    Calls Try.prog 24 #[.pointer none, .int .i64 i] w fun e w' => e = .returned (.tuple #[.string ⟨#[]⟩, .int .i64 4]) ∧ w = w' := by
  go_enter Try.func24, Try.ntmps24
  go_wp2
  go_ret2
  exact ⟨rfl, rfl⟩

theorem sremove_out (g : Nat) (R : Option Nat) (L : List ByteArray) (i : Int) (w : World) (hD : sDq w g R L) (h : i < 0 ∨ L.length ≤ i) :
    Calls Try.prog 24 #[.pointer (some ⟨g, 0, none⟩), .int .i64 i] w fun e w' => e = .returned (.tuple #[.string ⟨#[]⟩, .int .i64 5]) ∧ w = w' := by
  obtain ⟨ad, m, c, f, h0, _⟩ := hD
  obtain ⟨c0, c1, c2, f0, f1, f2⟩ := blk3 h0
  go_enter Try.func24, Try.ntmps24
  by_cases hi : i < 0
  · go_wp2
    go_ret2
    exact ⟨rfl, rfl⟩
  · have h1 : (L.length : Int) ≤ i := by omega
    go_wp2
    go_ret2
    exact ⟨rfl, rfl⟩

theorem sDq.n {w : World} {g : Nat} {R : Option Nat} {L : List ByteArray} (h : sDq w g R L) : w.cell? ⟨g, 2, none⟩ = some (.int .i64 L.length) := by
  obtain ⟨ad, m, c, f, h0, _⟩ := h; exact (blk3 h0).2.2.1

set_option maxHeartbeats 1600000 in
theorem sremove_split (g : Nat) (R : Option Nat) (A B : List ByteArray) (v : ByteArray) (w : World) (hD : sDq w g R (A ++ v :: B)) :
    Calls Try.prog 24 #[.pointer (some ⟨g, 0, none⟩), .int .i64 A.length] w fun e w' => e = .returned (.tuple #[.string v, .int .i64 0]) ∧ sDq w' g R (A ++ B) ∧ Kept (fun k => k = g ∨ R = some k) w w' := by
  obtain ⟨k, hk⟩ : ∃ k, k = A.length := ⟨_, rfl⟩
  obtain ⟨n, hn⟩ : ∃ n, n = B.length := ⟨_, rfl⟩
  have hlen : k + n + 1 ≤ 4000000 := by have := hD.len; simp at this; omega
  have hN : ∀ q, q ≤ n → ((A ++ B.take q) ++ v :: B.drop q).length = k + n + 1 := by intro q hq; simp; omega
  have hc2 : w.cell? ⟨g, 2, none⟩ = some (.int .i64 ((k + n + 1 : Nat) : Int)) := by have := hD.n; rwa [show (A ++ v :: B).length = k + n + 1 by simp; omega] at this
  rw [← hk]
  have HK := Lib.hid hk
  have HN := Lib.hid hn
  have HL := Lib.hid hN
  clear hk hn hN
  go_enter Try.func24, Try.ntmps24
  go_wp2
  clear hc2
  go_loopw [7] (fun i wr => ∃ q : Nat, q ≤ n ∧ i = .int .i64 ((k + q : Nat) : Int) ∧ sDq wr g R ((A ++ B.take q) ++ v :: B.drop q) ∧ Kept (fun k => k = g ∨ R = some k) w wr) (fun i _ => k + n - (intOf i).toNat)
  case atStart => exact ⟨0, Nat.zero_le _, by simp, by simpa using hD, Kept.refl _ _⟩
  case round =>
    obtain ⟨q, hq, rfl, hDr, hKr⟩ := hrel
    have hcr : wr.cell? ⟨g, 2, none⟩ = some (.int .i64 ((k + n + 1 : Nat) : Int)) := by have := hDr.n; rwa [HL.out q hq] at this
    have hw0 : IntKind.i64.wrap (((k + n + 1 : Nat) : Int) - 1) = (k + n : Nat) := (IntWalk.i64_in _ (by omega)).trans (by omega)
    by_cases hlt : q < n
    · have hA : (A ++ B.take q).length = k + q := by rw [List.length_append, List.length_take, ← HK.out]; have := HN.out; omega
      have hB : q < B.length := by rw [← HN.out]; exact hlt
      have hT : B.drop q = B[q] :: B.drop (q + 1) := List.drop_eq_getElem_cons hB
      have hS : (A ++ B.take (q + 1)) = (A ++ B.take q) ++ [B[q]] := by rw [List.take_succ_eq_append_getElem hB, List.append_assoc]
      have hLq := HL.out q hq
      rw [hT] at hDr hLq
      have HS := Lib.hid hS
      clear hT hS
      obtain ⟨ad, m, c, f, h0, h1, h2, h3, h4⟩ := hDr
      rw [hLq] at h0 h1
      rcases h4 with ⟨h4, _⟩ | ⟨r, o, cs, e1, e2, e3, e4, e5, e6⟩
      · omega
      subst e1
      obtain ⟨c0, c1, c2, f0, f1, f2⟩ := blk3 h0
      obtain ⟨a, ha⟩ : ∃ a, (f + (k + q)) % m = a := ⟨_, rfl⟩
      obtain ⟨b, hb⟩ : ∃ b, (f + (k + q + 1)) % m = b := ⟨_, rfl⟩
      have ham : a < m := by rw [← ha]; exact Nat.mod_lt _ (by omega)
      have hbm : b < m := by rw [← hb]; exact Nat.mod_lt _ (by omega)
      have hab : a ≠ b := by rw [← ha, ← hb]; exact mod_ne (by omega) (by omega)
      have ca := cellB e4 (e6.row (k + q) (by omega))
      have cb := cellB e4 (e6.row (k + q + 1) (by omega))
      have fa := frozenB e4 (o + a)
      have fb := frozenB e4 (o + b)
      rw [ha] at ca
      rw [hb] at cb
      simp only [List.getElem_append, hA, Nat.lt_irrefl, dite_false, Nat.sub_self, List.getElem_cons_zero, show ¬ k + q + 1 < k + q by omega, show k + q + 1 - (k + q) = 1 by omega, List.getElem_cons_succ] at ca cb
      have HA : Hid ((f + (k + q)) % m = a) := ha
      have HB : Hid ((f + (k + q + 1)) % m = b) := hb
      have HAl := Lib.hid hA
      have HLq := Lib.hid hLq
      clear ha hb hA hLq
      have hw : IntKind.i64.wrap (((k + q : Nat) : Int) + 1) = (k + q + 1 : Nat) := (IntWalk.i64_in _ (by omega)).trans (by omega)
      go_wp2_with (first
        | (go_at_call 49; refine (splace_cell g f (k + q) m c a (some ⟨r, o, none⟩) _ _ (by exact c0) (by exact c1) (by omega) (by omega) (by omega) (by omega) (by omega) HA).mono ?_; rintro e w' ⟨rfl, n1, rfl⟩)
        | (go_at_call 49; refine (splace_cell g f (k + q + 1) m c b (some ⟨r, o, none⟩) _ _ (by exact c0) (by exact c1) (by omega) (by omega) (by omega) (by omega) (by omega) HB).mono ?_; rintro e w' ⟨rfl, n2, rfl⟩))
      refine wp_planC (fun _ => True) 27 [.flt 9, .seg [0, 1, 2, 3, 4, 5, 6, 7, 8, 10, 11, 12, 13, 14, 15, 16, 17, 18, 19, 20, 21, 22, 23, 24] 25, .seg [26] 27] [] (by kernel_rfl) (by kernel_rfl) (fun _ _ _ dst _ h => by cases dst <;> exact h) (fun _ _ h => h) trivial (fun n0 => ?_)
      repeat (refine planC_flt rfl rfl ?_; apply Exists.intro; refine ⟨fun w' hw' => ?_, ?_⟩; (go_simp; rfl); simp only [Act.put, List.setIfInBounds_toArray, List.set_cons_succ, List.set_cons_zero])
      simp only [wpPlanC, pick, List.filterMap_cons, List.filterMap_nil, List.getElem?_cons_succ, List.getElem?_cons_zero]
      repeat (quiet_step (fail))
      refine wpQuiet_nil ?_
      rintro _ ⟨n3, rfl⟩
      go_wp2
      refine Halt.mk ⟨.inr trivial, ?_⟩
      repeat (quiet_step (fail))
      refine wpQuiet_nil ?_
      rintro _ ⟨n4, rfl⟩
      go_wp2
      refine Halt.mk ⟨.inl trivial, ?_⟩
      go_wp2
      go_roundw
      case rel =>
        have hring := e6.swap _ cs o m f (A ++ B.take q) (B.drop (q + 1)) v B[q] (by rw [HLq.out]; omega)
        rw [HAl.out, HA.out, HB.out] at hring
        refine ⟨q + 1, by omega, by go_num, ?_, ?_⟩
        · rw [HS.out, List.append_assoc _ [B[q]]]
          have hC : ((A ++ B.take q) ++ ([B[q]] ++ v :: B.drop (q + 1))).length = k + n + 1 := by have := HLq.out; simp only [List.length_append, List.length_cons, List.length_nil] at this ⊢; omega
          refine ⟨some ⟨r, o, none⟩, m, c, f, ?_, ?_, h2, h3, .inr ⟨r, o, _, rfl, e2, e3, ?_, e5, hring⟩⟩
          · rw [heap_setCell_ne _ _ e3.symm, heap_drewN, heap_setCell_ne _ _ e3.symm, hC]
            exact h0
          · rw [hC]; exact h1
          · have s1 := heap_setCell_same (w := ((wr.drewN (n1 + n2)).drewN n0).drewN n3) e4 (o + a) (.string B[q])
            exact heap_setCell_same (w := ((((wr.drewN (n1 + n2)).drewN n0).drewN n3).setCell ⟨r, o + a, none⟩ (.string B[q])).drewN n4) s1 _ _
        · refine Kept.setCell (Kept.drewN (Kept.setCell (hKr.drewN _) ?_ _) _) ?_ _
          · exact fun _ => .inr e2
          · exact fun _ => .inr e2
      case measure => simp [intOf]; omega
    · obtain rfl : n = q := by omega
      have hd : (A ++ B.take n) ++ v :: B.drop n = (A ++ B) ++ [v] := by rw [List.take_of_length_le (by rw [← HN.out]; exact Nat.le_refl _), List.drop_of_length_le (by rw [← HN.out]; exact Nat.le_refl _)]
      rw [hd] at hDr
      clear hd
      go_wp2_with fail
      refine (spop g R (A ++ B) v wr hDr).mono ?_
      rintro e w3 ⟨rfl, hD3, hk3⟩
      go_wp2
      go_ret2
      exact ⟨rfl, hD3, hKr.trans hk3⟩

theorem sremove (g : Nat) (R : Option Nat) (L : List ByteArray) (k : Nat) (w : World) (hD : sDq w g R L) (hk : k < L.length) :
    Calls Try.prog 24 #[.pointer (some ⟨g, 0, none⟩), .int .i64 k] w fun e w' => e = .returned (.tuple #[.string L[k], .int .i64 0]) ∧ sDq w' g R (L.take k ++ L.drop (k + 1)) ∧ Kept (fun k => k = g ∨ R = some k) w w' := by
  have h := sremove_split g R (L.take k) (L.drop (k + 1)) L[k] w (by rw [← List.drop_eq_getElem_cons hk, List.take_append_drop]; exact hD)
  rwa [show (L.take k).length = k by rw [List.length_take]; omega] at h
end Go.Proofs.Ytnleffjheimmbaa
