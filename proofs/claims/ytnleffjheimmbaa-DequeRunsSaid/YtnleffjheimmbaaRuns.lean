/- 'DequeRuns' returns true, where its list is cut and where it is not. -/
import Derived.Test.YtnleffjheimmbaaStep
import Derived.Test.YtnleffjheimmbaaAwake
namespace Go.Proofs.Ytnleffjheimmbaa
open Go.RowKit Go.Shelf

/-- A slice of calls that came in: each has a kind, two places and a value. -/
def Ops (w : World) (ap : Option Addr) (n : Nat) : Prop := ∀ j, j < n → ∃ (ad : Addr) (kd i k : Int) (s : ByteArray), ap = some ad ∧
  w.cell? (ad.add (j * 4)) = some (.int .i64 kd) ∧ w.cell? ((ad.add (j * 4)).add 1) = some (.int .i64 i) ∧ w.cell? ((ad.add (j * 4)).add 2) = some (.int .i64 k) ∧ w.cell? ((ad.add (j * 4)).add 3) = some (.string s)

theorem Ops.below {w w' : World} {ap : Option Addr} {n : Nat} (h : Ops w ap n) (hB : Below w.heap.size w w') : Ops w' ap n := by
  intro j hj
  obtain ⟨ad, kd, i, k, s, e, c0, c1, c2, c3⟩ := h j hj
  refine ⟨ad, kd, i, k, s, e, ?_, ?_, ?_, ?_⟩
  · rw [World.cell?_of_block (w := w) (hB.block _ (cell_lt c0))]; exact c0
  · rw [World.cell?_of_block (w := w) (hB.block _ (cell_lt c1))]; exact c1
  · rw [World.cell?_of_block (w := w) (hB.block _ (cell_lt c2))]; exact c2
  · rw [World.cell?_of_block (w := w) (hB.block _ (cell_lt c3))]; exact c3

theorem wpQuiet_skip {P : Program} {ops : Array Oper} {C : World → Prop} {Q : Act → Prop} {o : Oper} {rest : List Oper} {a : Act} (h : Region.wanted o (yielded ops a.tmps) = false) :
    wpQuiet P ops C Q (o :: rest) a = wpQuiet P ops C Q rest (a.put o.dst undef) := by
  simp [wpQuiet, h]

set_option maxRecDepth 8000 in
set_option maxHeartbeats 1600000 in
theorem runs_long (ap : Option Addr) (n c : Nat) (ys : List ByteArray) (ao : Option Addr) (no co : Nat) (w : World) (hY : Holds w ap 300 (ys.map .string)) (hc : n ≤ c) (hz : ap = none → c = 0) (hO : Ops w ao no) (hn : 300 < n) :
    Calls Try.prog 6 #[.slice ap n c, .slice ao no co] w fun e w' => e = .returned (.bool true) ∧ Below w.heap.size w w' := by
  have hyl : ys.length = 300 := by simpa using hY.1
  have hlen300 : (300 : Int) < n := by omega
  obtain ⟨i0, hi, hz0, hz1, hz2⟩ := info_parts wkInfo
  go_enter Try.func6, Try.ntmps6
  go_wp2_with fail
  refine (awake_true _).mono ?_
  rintro e w1 ⟨rfl, hk1⟩
  have hB1 := hk1.below (Nat.le_refl _) (fun _ h => h.elim)
  have hS1 := hk1.size
  have hY1 := hY.below hB1
  go_wp2_with fail
  refine (sof ap 300 c ys _ hY1 (by omega)).mono ?_
  rintro e w2 ⟨g, R, rfl, hD, hg, hR, hk2⟩
  have hS2 := hk2.size
  have hY2 := hY1.below (hk2.below (Nat.le_refl _) (fun _ h => h.elim))
  have hmade := World.ownsRow_made (e := 9) (size := 1) w2 #[] 0 (Nat.le_refl _) (by unfold maxLen; omega) rfl
  have key : ∀ v' w3, w3.ownsRow w2.heap.size 9 1 v' 300 (ys.map .string) → (w2.alloc (.cells #[] 9)).grownBy w3 (some w2.heap.size) →
      Rn w (w3.alloc (.cells #[v'] 45)) g w3.heap.size R v' w.heap.size ys ys := by
    intro v' w3 hr hg3
    have hk3 : Kept NoBlock w2 w3 := Kept.of_below (((Below.refl w2.heap.size w2).alloc (Nat.le_refl _) _).grown hg3 (by simp) (fun k e => by cases e; exact Nat.le_refl _)) (fun k h1 h2 => by omega)
    have hk4 : Kept NoBlock w2 (w3.alloc (.cells #[v'] 45)) := hk3.alloc _
    have hS3 := hk3.size
    have hr' := hr.kept (World.grownBy_alloc w3 (.cells #[v'] 45) none) (by cases v'.ownBlock <;> simp)
    refine ⟨hD.kept hk4 (fun h => h) (fun _ _ h => h), ⟨Boxed.new w3 _ _, ?_⟩, ?_, by omega, by omega, fun r e => by have := hR r e; omega, ?_⟩
    · rw [hyl]; exact ownsRow_lower hr' (by omega)
    · intro r e e'
      have h1 := (hr.lt r e').1
      have h2 := (hD.ring e).1
      omega
    · exact hB1.trans ((hk2.trans hk4).below (by omega) (fun _ h => h.elim))
  have KEY := Lib.hid key
  clear key
  go_wp2_with (at_builtin; refine wpList_append_holds rfl _ _ 22 rfl w2.heap.size 9 i0 (.string ⟨#[]⟩) 16 Try.underlying22 hi hz0 hz1 hz2 rfl _ 0 [] rfl hmade ap 300 c (ys.map .string) rfl (hY2.below ((Below.refl _ _).alloc (Nat.le_refl _) _)) hz (oneCell_strings _) (by unfold maxLen; omega) (by omega) (by simp) ?_; intro v' w3 hr3 hg3; rw [Nat.zero_add, List.nil_append] at hr3; have hRn := KEY.out v' w3 hr3 hg3; obtain ⟨ap3, cap3, rfl, _⟩ := ownsRow_form hr3; clear hr3 hg3)
  have hys : ys.length ≤ 300 := by omega
  clear KEY hmade hyl
  generalize w3.alloc (.cells #[.slice ap3 300 cap3] 45) = wb at *
  generalize w3.heap.size = b at *
  go_loopw [7] (fun i wr => ∃ (j : Nat) (R : Option Nat) (v : Value) (L : List ByteArray), i = .int .i64 j ∧ j ≤ 300 ∧ Rn w wr g b R v w.heap.size L L ∧ L.length ≤ 300 + j) (fun i _ => 300 - (intOf i).toNat)
  case atStart => exact ⟨0, R, _, ys, rfl, by omega, hRn, by omega⟩
  case round =>
    obtain ⟨j, R5, v5, L, rfl, hj, hR5, hL⟩ := hrel
    clear hRn hD hR
    obtain ⟨ap5, cap5, rfl, hc5, _⟩ := rw_len hR5.rw
    by_cases hlt : j < no ∧ j < 300
    · obtain ⟨hj1, hj2⟩ := hlt
      obtain ⟨ad, kd, ii, kk, s, rfl, o0, o1, o2, o3⟩ := (hO.below hR5.bl) j hj1
      have p1 : wr.cell? ⟨(ad.add (j * 4)).block, (ad.add (j * 4)).off + 1, none⟩ = some (.int .i64 ii) := o1
      have p2 : wr.cell? ⟨(ad.add (j * 4)).block, (ad.add (j * 4)).off + 2, none⟩ = some (.int .i64 kk) := o2
      have p3 : wr.cell? ⟨(ad.add (j * 4)).block, (ad.add (j * 4)).off + 3, none⟩ = some (.string s) := o3
      clear o1 o2 o3
      go_wp2_with fail
      refine wp_plan 0 [1, 2, 3, 4, 5] 6 [([7, 8, 9, 10, 11, 12, 13, 14, 15, 16, 17, 18, 19, 20, 21, 22, 23, 24, 25, 26, 27], 28)] [29, 30, 31] (by kernel_rfl) (by kernel_rfl) ?_
      simp only [wpPlan, pick, List.filterMap_cons, List.filterMap_nil, List.getElem?_cons_succ, List.getElem?_cons_zero]
      repeat (quiet_step (fail))
      refine wpQuiet_nil ?_
      rintro _ ⟨n1, rfl⟩
      go_wp2_with (go_at_call 19; refine (step_any w _ g b R5 _ w.heap.size L kd ii kk s (hR5.kept ((Kept.refl NoBlock wr).drewN n1)) (by omega)).mono ?_; rintro e w4 ⟨rfl, R6, v6, L6, hR6, hL6⟩)
      obtain ⟨ap6, cap6, rfl, hc6, _⟩ := rw_len hR6.rw
      have hlen6 : ∀ m, Calls Try.prog 20 #[.pointer (some ⟨g, 0, none⟩)] (w4.drewN m) fun e w' => e = .returned (.int .i64 L6.length) ∧ w' = w4.drewN m := fun m => (slen_dq g R6 L6 (w4.drewN m) hR6.dq).mono (fun e w' h => ⟨h.1, h.2.symm⟩)
      have H6 := Lib.hid hlen6
      clear hlen6
      refine Halt.mk ?_
      obtain ⟨x, hx⟩ : ∃ x, Int.tmod (j : Int) 16 = x := ⟨_, rfl⟩
      by_cases h16 : x = 0
      · subst h16
        repeat (quiet_step ((go_at_call 20; exact Calls.quiet_of_same (H6.out _))))
        refine wpQuiet_nil ?_
        rintro _ ⟨n2, rfl⟩
        go_wp2_with (go_at_call 13; refine (same_dq g R6 L6 ap6 L6.length cap6 (w4.drewN n2) hR6.dq (ownsRow_holds hR6.rw.2) (by omega)).mono ?_; rintro e w5 ⟨rfl, hb5⟩; have hR7 := (hR6.kept ((Kept.refl NoBlock w4).drewN n2)).kept (Kept.of_below (S := NoBlock) hb5 (fun k h1 h2 => by omega)))
        refine Halt.mk ?_
        repeat (quiet_step (fail))
        refine wpQuiet_nil ?_
        rintro _ ⟨n3, rfl⟩
        go_wp2
        go_roundw
        case rel => exact ⟨j + 1, R6, _, L6, by go_num, by omega, hR7.kept ((Kept.refl NoBlock _).drewN n3), by omega⟩
        case measure => simp [intOf]; omega
      · have h16' : (x == 0) = false := beq_eq_false_iff_ne.2 h16
        have h16d : decide (x = 0) = false := decide_eq_false h16
        iterate 16 (quiet_step ((go_at_call 20; exact Calls.quiet_of_same (H6.out _))))
        iterate 5 (rewrite [wpQuiet_skip (by go_simp)]; simp only [Act.put, List.setIfInBounds_toArray, List.set_cons_succ, List.set_cons_zero])
        refine wpQuiet_nil ?_
        rintro _ ⟨n2, rfl⟩
        go_wp2
        refine Halt.mk ?_
        repeat (quiet_step (fail))
        refine wpQuiet_nil ?_
        rintro _ ⟨n3, rfl⟩
        go_wp2
        go_roundw
        case rel => exact ⟨j + 1, R6, _, L6, by go_num, by omega, hR6.kept ((Kept.refl NoBlock w4).drewN (n2 + n3)), by omega⟩
        case measure => simp [intOf]; omega
    · have hBS := hR5.bl.size
      have hend : ¬ (j < no) ∨ ¬ (j < 300) := by omega
      rcases hend with h1 | h1
      · go_wp2_with fail
        refine (same_dq g R5 L ap5 L.length cap5 wr hR5.dq (ownsRow_holds hR5.rw.2) (by omega)).mono ?_
        rintro e w5 ⟨rfl, hb5⟩
        go_wp2
        go_ret
        exact ⟨rfl, hR5.bl.trans (hb5.mono hBS)⟩
      · by_cases h2 : j < no
        all_goals go_wp2_with fail
        all_goals refine (same_dq g R5 L ap5 L.length cap5 wr hR5.dq (ownsRow_holds hR5.rw.2) (by omega)).mono ?_
        all_goals rintro e w5 ⟨rfl, hb5⟩
        all_goals go_wp2
        all_goals go_ret
        all_goals exact ⟨rfl, hR5.bl.trans (hb5.mono hBS)⟩

set_option maxRecDepth 8000 in
set_option maxHeartbeats 1600000 in
theorem runs_short (ap : Option Addr) (n c : Nat) (ys : List ByteArray) (ao : Option Addr) (no co : Nat) (w : World) (hY : Holds w ap n (ys.map .string)) (hc : n ≤ c) (hz : ap = none → c = 0) (hO : Ops w ao no) (hn : n ≤ 300) :
    Calls Try.prog 6 #[.slice ap n c, .slice ao no co] w fun e w' => e = .returned (.bool true) ∧ Below w.heap.size w w' := by
  have hyl : ys.length = n := by simpa using hY.1
  have hlen300 : ¬ ((300 : Int) < n) := by omega
  obtain ⟨i0, hi, hz0, hz1, hz2⟩ := info_parts wkInfo
  go_enter Try.func6, Try.ntmps6
  go_wp2_with fail
  refine (awake_true _).mono ?_
  rintro e w1 ⟨rfl, hk1⟩
  have hB1 := hk1.below (Nat.le_refl _) (fun _ h => h.elim)
  have hS1 := hk1.size
  have hY1 := hY.below hB1
  go_wp2_with fail
  refine (sof ap n c ys _ hY1 (by omega)).mono ?_
  rintro e w2 ⟨g, R, rfl, hD, hg, hR, hk2⟩
  have hS2 := hk2.size
  have hY2 := hY1.below (hk2.below (Nat.le_refl _) (fun _ h => h.elim))
  have hmade := World.ownsRow_made (e := 9) (size := 1) w2 #[] 0 (Nat.le_refl _) (by unfold maxLen; omega) rfl
  have key : ∀ v' w3, w3.ownsRow w2.heap.size 9 1 v' n (ys.map .string) → (w2.alloc (.cells #[] 9)).grownBy w3 (some w2.heap.size) →
      Rn w (w3.alloc (.cells #[v'] 45)) g w3.heap.size R v' w.heap.size ys ys := by
    intro v' w3 hr hg3
    have hk3 : Kept NoBlock w2 w3 := Kept.of_below (((Below.refl w2.heap.size w2).alloc (Nat.le_refl _) _).grown hg3 (by simp) (fun k e => by cases e; exact Nat.le_refl _)) (fun k h1 h2 => by omega)
    have hk4 : Kept NoBlock w2 (w3.alloc (.cells #[v'] 45)) := hk3.alloc _
    have hS3 := hk3.size
    have hr' := hr.kept (World.grownBy_alloc w3 (.cells #[v'] 45) none) (by cases v'.ownBlock <;> simp)
    refine ⟨hD.kept hk4 (fun h => h) (fun _ _ h => h), ⟨Boxed.new w3 _ _, ?_⟩, ?_, by omega, by omega, fun r e => by have := hR r e; omega, ?_⟩
    · rw [hyl]; exact ownsRow_lower hr' (by omega)
    · intro r e e'
      have h1 := (hr.lt r e').1
      have h2 := (hD.ring e).1
      omega
    · exact hB1.trans ((hk2.trans hk4).below (by omega) (fun _ h => h.elim))
  have KEY := Lib.hid key
  clear key
  go_wp2_with (at_builtin; refine wpList_append_holds rfl _ _ 22 rfl w2.heap.size 9 i0 (.string ⟨#[]⟩) 16 Try.underlying22 hi hz0 hz1 hz2 rfl _ 0 [] rfl hmade ap n c (ys.map .string) rfl (hY2.below ((Below.refl _ _).alloc (Nat.le_refl _) _)) hz (oneCell_strings _) (by unfold maxLen; omega) (by omega) (by simp) ?_; intro v' w3 hr3 hg3; rw [Nat.zero_add, List.nil_append] at hr3; have hRn := KEY.out v' w3 hr3 hg3; obtain ⟨ap3, cap3, rfl, _⟩ := ownsRow_form hr3; clear hr3 hg3)
  have hys : ys.length ≤ 300 := by omega
  clear KEY hmade hyl
  generalize w3.alloc (.cells #[.slice ap3 n cap3] 45) = wb at *
  generalize w3.heap.size = b at *
  go_loopw [7] (fun i wr => ∃ (j : Nat) (R : Option Nat) (v : Value) (L : List ByteArray), i = .int .i64 j ∧ j ≤ 300 ∧ Rn w wr g b R v w.heap.size L L ∧ L.length ≤ 300 + j) (fun i _ => 300 - (intOf i).toNat)
  case atStart => exact ⟨0, R, _, ys, rfl, by omega, hRn, by omega⟩
  case round =>
    obtain ⟨j, R5, v5, L, rfl, hj, hR5, hL⟩ := hrel
    clear hRn hD hR
    obtain ⟨ap5, cap5, rfl, hc5, _⟩ := rw_len hR5.rw
    by_cases hlt : j < no ∧ j < 300
    · obtain ⟨hj1, hj2⟩ := hlt
      obtain ⟨ad, kd, ii, kk, s, rfl, o0, o1, o2, o3⟩ := (hO.below hR5.bl) j hj1
      have p1 : wr.cell? ⟨(ad.add (j * 4)).block, (ad.add (j * 4)).off + 1, none⟩ = some (.int .i64 ii) := o1
      have p2 : wr.cell? ⟨(ad.add (j * 4)).block, (ad.add (j * 4)).off + 2, none⟩ = some (.int .i64 kk) := o2
      have p3 : wr.cell? ⟨(ad.add (j * 4)).block, (ad.add (j * 4)).off + 3, none⟩ = some (.string s) := o3
      clear o1 o2 o3
      go_wp2_with fail
      refine wp_plan 0 [1, 2, 3, 4, 5] 6 [([7, 8, 9, 10, 11, 12, 13, 14, 15, 16, 17, 18, 19, 20, 21, 22, 23, 24, 25, 26, 27], 28)] [29, 30, 31] (by kernel_rfl) (by kernel_rfl) ?_
      simp only [wpPlan, pick, List.filterMap_cons, List.filterMap_nil, List.getElem?_cons_succ, List.getElem?_cons_zero]
      repeat (quiet_step (fail))
      refine wpQuiet_nil ?_
      rintro _ ⟨n1, rfl⟩
      go_wp2_with (go_at_call 19; refine (step_any w _ g b R5 _ w.heap.size L kd ii kk s (hR5.kept ((Kept.refl NoBlock wr).drewN n1)) (by omega)).mono ?_; rintro e w4 ⟨rfl, R6, v6, L6, hR6, hL6⟩)
      obtain ⟨ap6, cap6, rfl, hc6, _⟩ := rw_len hR6.rw
      have hlen6 : ∀ m, Calls Try.prog 20 #[.pointer (some ⟨g, 0, none⟩)] (w4.drewN m) fun e w' => e = .returned (.int .i64 L6.length) ∧ w' = w4.drewN m := fun m => (slen_dq g R6 L6 (w4.drewN m) hR6.dq).mono (fun e w' h => ⟨h.1, h.2.symm⟩)
      have H6 := Lib.hid hlen6
      clear hlen6
      refine Halt.mk ?_
      obtain ⟨x, hx⟩ : ∃ x, Int.tmod (j : Int) 16 = x := ⟨_, rfl⟩
      by_cases h16 : x = 0
      · subst h16
        repeat (quiet_step ((go_at_call 20; exact Calls.quiet_of_same (H6.out _))))
        refine wpQuiet_nil ?_
        rintro _ ⟨n2, rfl⟩
        go_wp2_with (go_at_call 13; refine (same_dq g R6 L6 ap6 L6.length cap6 (w4.drewN n2) hR6.dq (ownsRow_holds hR6.rw.2) (by omega)).mono ?_; rintro e w5 ⟨rfl, hb5⟩; have hR7 := (hR6.kept ((Kept.refl NoBlock w4).drewN n2)).kept (Kept.of_below (S := NoBlock) hb5 (fun k h1 h2 => by omega)))
        refine Halt.mk ?_
        repeat (quiet_step (fail))
        refine wpQuiet_nil ?_
        rintro _ ⟨n3, rfl⟩
        go_wp2
        go_roundw
        case rel => exact ⟨j + 1, R6, _, L6, by go_num, by omega, hR7.kept ((Kept.refl NoBlock _).drewN n3), by omega⟩
        case measure => simp [intOf]; omega
      · have h16' : (x == 0) = false := beq_eq_false_iff_ne.2 h16
        have h16d : decide (x = 0) = false := decide_eq_false h16
        iterate 16 (quiet_step ((go_at_call 20; exact Calls.quiet_of_same (H6.out _))))
        iterate 5 (rewrite [wpQuiet_skip (by go_simp)]; simp only [Act.put, List.setIfInBounds_toArray, List.set_cons_succ, List.set_cons_zero])
        refine wpQuiet_nil ?_
        rintro _ ⟨n2, rfl⟩
        go_wp2
        refine Halt.mk ?_
        repeat (quiet_step (fail))
        refine wpQuiet_nil ?_
        rintro _ ⟨n3, rfl⟩
        go_wp2
        go_roundw
        case rel => exact ⟨j + 1, R6, _, L6, by go_num, by omega, hR6.kept ((Kept.refl NoBlock w4).drewN (n2 + n3)), by omega⟩
        case measure => simp [intOf]; omega
    · have hBS := hR5.bl.size
      have hend : ¬ (j < no) ∨ ¬ (j < 300) := by omega
      rcases hend with h1 | h1
      · go_wp2_with fail
        refine (same_dq g R5 L ap5 L.length cap5 wr hR5.dq (ownsRow_holds hR5.rw.2) (by omega)).mono ?_
        rintro e w5 ⟨rfl, hb5⟩
        go_wp2
        go_ret
        exact ⟨rfl, hR5.bl.trans (hb5.mono hBS)⟩
      · by_cases h2 : j < no
        all_goals go_wp2_with fail
        all_goals refine (same_dq g R5 L ap5 L.length cap5 wr hR5.dq (ownsRow_holds hR5.rw.2) (by omega)).mono ?_
        all_goals rintro e w5 ⟨rfl, hb5⟩
        all_goals go_wp2
        all_goals go_ret
        all_goals exact ⟨rfl, hR5.bl.trans (hb5.mono hBS)⟩

end Go.Proofs.Ytnleffjheimmbaa
