/- The deque of ints: a value put in ahead of a place. -/
import Derived.Test.YtnleffjheimmbaaDq10i
namespace Go.Proofs.Ytnleffjheimmbaa
open Go.RowKit
attribute [local go_sem] stillV_value stillV_skip

theorem ipush_nil (v : Int) (w : World) :
    Calls Try.prog 14 #[.pointer none, .int .i64 v] w fun e w' => e = .returned (.int .i64 4) ∧ w = w' := by
  go_enter Try.func14, Try.ntmps14
  go_wp2
  go_ret
  exact ⟨rfl, rfl⟩

theorem iunshift_nil (v : Int) (w : World) :
    Calls Try.prog 15 #[.pointer none, .int .i64 v] w fun e w' => e = .returned (.int .i64 4) ∧ w = w' := by
  go_enter Try.func15, Try.ntmps15
  go_wp2
  go_ret
  exact ⟨rfl, rfl⟩

theorem iinsert_nil (i : Int) (v : Int) (w : World) :
    Calls Try.prog 31 #[.pointer none, .int .i64 i, .int .i64 v] w fun e w' => e = .returned (.int .i64 4) ∧ w = w' := by
  go_enter Try.func31, Try.ntmps31
  go_wp2
  go_ret
  exact ⟨rfl, rfl⟩

theorem iinsert_out (g : Nat) (R : Option Nat) (L : List Int) (i : Int) (v : Int) (w : World) (hD : iDq w g R L) (h : i < 0 ∨ L.length < i) :
    Calls Try.prog 31 #[.pointer (some ⟨g, 0, none⟩), .int .i64 i, .int .i64 v] w fun e w' => e = .returned (.int .i64 5) ∧ w = w' := by
  obtain ⟨ad, m, c, f, h0, _⟩ := hD
  obtain ⟨c0, c1, c2, f0, f1, f2⟩ := blk3 h0
  go_enter Try.func31, Try.ntmps31
  by_cases hi : i < 0
  · go_wp2
    go_ret
    exact ⟨rfl, rfl⟩
  · have h1 : (L.length : Int) < i := by omega
    go_wp2
    go_ret
    exact ⟨rfl, rfl⟩

theorem iDq.grown {w : World} {g : Nat} {R : Option Nat} {L : List Int} (h : iDq w g R L) : ∀ r, R = some r → r < w.heap.size := fun _ e => (h.ring e).1

set_option maxHeartbeats 1600000 in
theorem iinsert (g : Nat) (R : Option Nat) (L : List Int) (k : Nat) (v : Int) (w : World) (hD : iDq w g R L) (hk : k ≤ L.length) (hl : L.length ≤ 1000000) :
    Calls Try.prog 31 #[.pointer (some ⟨g, 0, none⟩), .int .i64 k, .int .i64 v] w fun e w' => e = .returned (.int .i64 0) ∧ ∃ r, iDq w' g (some r) (L.take k ++ v :: L.drop k) ∧ (R = some r ∨ w.heap.size ≤ r) ∧ Kept (fun k => k = g ∨ k = r) w w' := by
  have hgl := hD.lt
  have hc2 : w.cell? ⟨g, 2, none⟩ = some (.int .i64 L.length) := by obtain ⟨ad, m, c, f, h0, _⟩ := hD; exact (blk3 h0).2.2.1
  go_enter Try.func31, Try.ntmps31
  go_wp2_with fail
  refine (ipush g R L v w hD hl).mono ?_
  rintro e w1 ⟨rfl, r, hD1, hr, hk1⟩
  have hrl := hD1.grown r rfl
  have hc3 : w1.cell? ⟨g, 2, none⟩ = some (.int .i64 (L.length + 1)) := by obtain ⟨ad, m, c, f, h0, _⟩ := hD1; simpa using (blk3 h0).2.2.1
  have hw : IntKind.i64.wrap ((L.length : Int) + 1 - 1) = L.length := (IntWalk.i64_in _ (by omega)).trans (by omega)
  clear hc2
  go_wp2
  go_loopw [7] (fun i wr => ∃ p : Nat, p ≤ L.length ∧ k ≤ p ∧ i = .int .i64 p ∧ iDq wr g (some r) (L.take p ++ v :: L.drop p) ∧ Kept (fun k => k = g ∨ k = r) w1 wr) (fun i _ => (intOf i).toNat)
  case atStart =>
    exact ⟨L.length, Nat.le_refl _, hk, rfl, by simpa using hD1, Kept.refl _ _⟩
  case round =>
    obtain ⟨p, hp, hkp, rfl, hDr, hKr⟩ := hrel
    clear hc3
    by_cases hlt : k < p
    · obtain ⟨q, rfl⟩ : ∃ q, p = q + 1 := ⟨p - 1, by omega⟩
      have hT : L.take (q + 1) ++ v :: L.drop (q + 1) = L.take q ++ L[q] :: v :: L.drop (q + 1) := by rw [List.take_succ_eq_append_getElem (by omega), List.append_assoc]; rfl
      rw [hT] at hDr
      have hA : (L.take q).length = q := by rw [List.length_take]; omega
      have hB : (L.take q ++ L[q] :: v :: L.drop (q + 1)).length = L.length + 1 := by rw [← hT]; simp; omega
      obtain ⟨ad, m, c, f, h0, h1, h2, h3, h4⟩ := hDr
      rcases h4 with ⟨h4, _⟩ | ⟨r', o, cs, e1, e2, e3, e4, e5, e6⟩
      · omega
      cases e2
      subst e1
      obtain ⟨c0, c1, c2, f0, f1, f2⟩ := blk3 h0
      obtain ⟨a, ha⟩ : ∃ a, (f + q) % m = a := ⟨_, rfl⟩
      obtain ⟨b, hb⟩ : ∃ b, (f + (q + 1)) % m = b := ⟨_, rfl⟩
      have ham : a < m := by rw [← ha]; exact Nat.mod_lt _ (by omega)
      have hbm : b < m := by rw [← hb]; exact Nat.mod_lt _ (by omega)
      have hab : a ≠ b := by rw [← ha, ← hb]; exact mod_ne (by omega) (by omega)
      have ca := cellB e4 (e6.row q (by omega))
      have cb := cellB e4 (e6.row (q + 1) (by omega))
      have fa := frozenB e4 (o + a)
      have fb := frozenB e4 (o + b)
      rw [ha] at ca
      rw [hb] at cb
      simp only [List.getElem_append, hA, Nat.lt_irrefl, dite_false, Nat.sub_self, List.getElem_cons_zero, show ¬ q + 1 < q by omega, show q + 1 - q = 1 by omega, List.getElem_cons_succ] at ca cb
      have HA : Hid ((f + q) % m = a) := ha
      have HB : Hid ((f + (q + 1)) % m = b) := hb
      clear ha hb
      have hw : IntKind.i64.wrap (((q + 1 : Nat) : Int) - 1) = q := (IntWalk.i64_in _ (by omega)).trans (by omega)
      go_wp2_with (first
        | (go_at_call 37; refine (iplace_cell g f q m c a (some ⟨r, o, none⟩) _ _ (by exact c0) (by exact c1) (by omega) (by omega) (by omega) (by omega) (by omega) HA).mono ?_; rintro e w' ⟨rfl, n1, rfl⟩)
        | (go_at_call 37; refine (iplace_cell g f (q + 1) m c b (some ⟨r, o, none⟩) _ _ (by exact c0) (by exact c1) (by omega) (by omega) (by omega) (by omega) (by omega) HB).mono ?_; rintro e w' ⟨rfl, n2, rfl⟩))
      refine wp_planC (fun _ => True) 27 [.flt 9, .seg [0, 1, 2, 3, 4, 5, 6, 7, 8, 10, 11, 12, 13, 14, 15, 16, 17, 18, 19, 20, 21, 22, 23, 24] 25, .seg [26] 27] [] (by kernel_rfl) (by kernel_rfl) (fun _ _ _ dst _ h => by cases dst <;> exact h) (fun _ _ h => h) trivial (fun n0 => ?_)
      repeat (refine planC_flt rfl rfl ?_; apply Exists.intro; refine ⟨fun w' hw' => ?_, ?_⟩; (go_simp; rfl); simp only [Act.put, List.setIfInBounds_toArray, List.set_cons_succ, List.set_cons_zero])
      simp only [wpPlanC, pick, List.filterMap_cons, List.filterMap_nil, List.getElem?_cons_succ, List.getElem?_cons_zero]
      repeat (quiet_step (fail))
      refine wpQuiet_nil ?_
      rintro _ ⟨n3, rfl⟩
      go_wp2
      refine Halt.mk ⟨.inr trivial, ?_⟩
      repeat (quiet_step (fail))
      refine wpQuiet_nil ?_
      rintro _ ⟨n4, rfl⟩
      go_wp2
      refine Halt.mk ⟨.inl trivial, ?_⟩
      go_wp2
      go_roundw
      case rel =>
        have hring := e6.swap _ cs o m f (L.take q) (L.drop (q + 1)) L[q] v (by omega)
        rw [hA, HA.out, HB.out] at hring
        refine ⟨q, by omega, by omega, by go_num, ?_, ?_⟩
        · rw [show L.take q ++ v :: L.drop q = L.take q ++ v :: L[q] :: L.drop (q + 1) by rw [← List.drop_eq_getElem_cons]]
          have hC : (L.take q ++ v :: L[q] :: L.drop (q + 1)).length = L.length + 1 := by simp only [List.length_append, List.length_cons] at hB ⊢; exact hB
          refine ⟨some ⟨r, o, none⟩, m, c, f, ?_, ?_, h2, h3, .inr ⟨r, o, _, rfl, rfl, e3, ?_, e5, hring⟩⟩
          · rw [heap_setCell_ne _ _ e3.symm, heap_drewN, heap_setCell_ne _ _ e3.symm, hC, ← hB]
            exact h0
          · rw [hC, ← hB]; exact h1
          · have s1 := heap_setCell_same (w := ((wr.drewN (n1 + n2)).drewN n0).drewN n3) e4 (o + a) (.int .i64 v)
            exact heap_setCell_same (w := ((((wr.drewN (n1 + n2)).drewN n0).drewN n3).setCell ⟨r, o + a, none⟩ (.int .i64 v)).drewN n4) s1 _ _
        · refine Kept.setCell (Kept.drewN (Kept.setCell (hKr.drewN _) ?_ _) _) ?_ _
          · exact fun _ => .inr rfl
          · exact fun _ => .inr rfl
      case measure => simp [intOf]
    · obtain rfl : k = p := by omega
      go_wp2
      go_ret
      exact ⟨rfl, r, hDr, hr, hk1.trans hKr⟩
end Go.Proofs.Ytnleffjheimmbaa
