/- The deque of ints: values taken off either end. -/
import Derived.Test.YtnleffjheimmbaaDq6i
import Derived.Test.YtnleffjheimmbaaFloat
namespace Go.Proofs.Ytnleffjheimmbaa
open Go.RowKit
attribute [local go_sem] stillV_value stillV_skip

theorem itake_none (d : Option Addr) (i : Int) (mv : Value) (w : World)
    (hlen : Calls Try.prog 18 #[.pointer d] w fun e w' => e = .returned (.int .i64 0) ∧ w = w') :
    Calls Try.prog 38 #[.pointer d, .int .i64 i, mv] w fun e w' => e = .returned (.tuple #[.int .i64 0, .bool false]) ∧ w = w' := by
  have HL := Lib.hid hlen
  clear hlen
  go_enter Try.func38, Try.ntmps38
  go_wp2_with (go_at_call 18; refine HL.out.mono ?_; rintro e w' ⟨rfl, rfl⟩)
  go_ret2
  exact ⟨rfl, rfl⟩

theorem ipop1 (b g : Nat) (n : Int) (w : World) (hb : w.cell? ⟨b, 0, none⟩ = some (.pointer (some ⟨g, 0, none⟩))) (hc : w.cell? ⟨g, 2, none⟩ = some (.int .i64 n)) (hf : w.frozen? ⟨g, 2, none⟩ = false) (h0 : 0 ≤ n) (h1 : n ≤ 4000000) :
    Calls Try.prog 40 #[.pointer (some ⟨b, 0, none⟩)] w fun e w' => e = .returned (.tuple #[]) ∧ w.setCell ⟨g, 2, none⟩ (.int .i64 (n - 1)) = w' := by
  go_enter Try.func40, Try.ntmps40
  go_wp2
  go_end0
  exact ⟨rfl, rfl⟩

set_option maxHeartbeats 800000 in
theorem ishift1 (b g : Nat) (n f m c j : Nat) (ad : Option Addr) (w : World) (hb : w.cell? ⟨b, 0, none⟩ = some (.pointer (some ⟨g, 0, none⟩)))
    (h0 : w.heap[g]? = some (.cells #[.slice ad m c, .int .i64 f, .int .i64 n] 35 (0, 0))) (hm : 0 < m) (hm' : m ≤ 4000000) (hf : f ≤ 4000000) (hn : n ≤ 4000000) (hj : Hid ((f + 1) % m = j)) :
    Calls Try.prog 39 #[.pointer (some ⟨b, 0, none⟩)] w fun e w' => e = .returned (.tuple #[]) ∧
      ∃ k k', (((w.drewN k).setCell ⟨g, 1, none⟩ (.int .i64 j)).drewN k').setCell ⟨g, 2, none⟩ (.int .i64 (n - 1)) = w' := by
  obtain ⟨c0, c1, c2, f0, f1, f2⟩ := blk3 h0
  have hw1 : IntKind.i64.wrap ((n : Int) - 1) = n - 1 := IntWalk.i64_in _ (by omega)
  go_enter Try.func39, Try.ntmps39
  refine wp_planC (fun W => W.cell? ⟨b, 0, none⟩ = some (.pointer (some ⟨g, 0, none⟩)) ∧ W.cell? ⟨g, 2, none⟩ = some (.int .i64 n)) 14 [.flt 0, .flt 1, .flt 2, .flt 4, .flt 5, .flt 6, .flt 7, .flt 8, .seg [3, 9, 10] 11, .seg [12, 13] 14] [] (by kernel_rfl) (by kernel_rfl)
    (fun _ _ _ dst _ h => by cases dst <;> exact h) (fun _ _ h => h) ⟨hb, c2⟩ (fun n0 => ?_)
  obtain ⟨w0, hw0⟩ : ∃ w0, w0 = w.drewN n0 := ⟨_, rfl⟩
  rw [← hw0]
  have d0 : w0.cell? ⟨g, 0, none⟩ = some (.slice ad m c) := by rw [hw0]; exact c0
  have d1 : w0.cell? ⟨g, 1, none⟩ = some (.int .i64 f) := by rw [hw0]; exact c1
  have d2 : w0.cell? ⟨g, 2, none⟩ = some (.int .i64 n) := by rw [hw0]; exact c2
  have db : w0.cell? ⟨b, 0, none⟩ = some (.pointer (some ⟨g, 0, none⟩)) := by rw [hw0]; exact hb
  have q1 : w0.frozen? ⟨g, 1, none⟩ = false := by rw [hw0]; exact f1
  have q2 : w0.frozen? ⟨g, 2, none⟩ = false := by rw [hw0]; exact f2
  have HW := Lib.hid hw0
  clear hw0
  repeat (refine planC_flt rfl rfl ?_; apply Exists.intro; refine ⟨fun w' hw' => ?_, ?_⟩; (obtain ⟨h1', h2'⟩ := hw'; go_simp; rfl); simp only [Act.put, List.setIfInBounds_toArray, List.set_cons_succ, List.set_cons_zero])
  simp only [wpPlanC, pick, List.filterMap_cons, List.filterMap_nil, List.getElem?_cons_succ, List.getElem?_cons_zero]
  refine wpQuiet_step (fun K hK => ?_)
  go_simp
  apply Exists.intro
  refine ⟨fun _ => ?_, hK _ ?_⟩
  · go_at_call 37
    exact Calls.quiet_of (iplace_cell g f 1 m c j ad _ _ (by exact d0) (by exact d1) (by omega) (by omega) (by omega) (by omega) rfl hj)
  clear hK K
  quiet_step (fail)
  quiet_step (fail)
  refine wpQuiet_nil ?_
  rintro _ ⟨n1, rfl⟩
  go_wp2
  refine Halt.mk ⟨.inr ⟨?_, ?_⟩, ?_⟩
  · go_simp
  · go_simp
  repeat (quiet_step (fail))
  refine wpQuiet_nil ?_
  rintro _ ⟨n2, rfl⟩
  go_wp2
  refine Halt.mk ⟨.inl trivial, ?_⟩
  go_end0
  rw [HW.out]
  exact ⟨rfl, n0 + n1, n2, by rw [World.drewN_drewN]⟩

set_option maxHeartbeats 800000 in
theorem itake_pop (b g : Nat) (R : Option Nat) (L : List Int) (v : Int) (w : World) (hb : w.heap[b]? = some (.cells #[.pointer (some ⟨g, 0, none⟩)] 58 (0, 0))) (hD : iDq w g R (L ++ [v])) :
    Calls Try.prog 38 #[.pointer (some ⟨g, 0, none⟩), .int .i64 L.length, .func (.func 40) #[] #[.pointer (some ⟨b, 0, none⟩)]] w
      fun e w' => e = .returned (.tuple #[.int .i64 v, .bool true]) ∧ iDq w' g R L ∧ Kept (fun k => k = g ∨ R = some k) w w' := by
  have hlen := hD.len
  have hDl := hD
  obtain ⟨ad, m, c, f, h0, h1, h2, h3, h4⟩ := hD
  simp only [List.length_append, List.length_cons, List.length_nil] at hlen h1 h0
  rcases h4 with ⟨h4, _⟩ | ⟨r, o, cs, e1, e2, e3, e4, e5, e6⟩
  · omega
  subst e1
  obtain ⟨c0, c1, c2, f0, f1, f2⟩ := blk3 h0
  obtain ⟨j, hj⟩ : ∃ j, (f + L.length) % m = j := ⟨_, rfl⟩
  have hjm : j < m := by rw [← hj]; exact Nat.mod_lt _ (by omega)
  have cu := cellB e4 (e6.row L.length (by simp))
  have fu := frozenB e4 (o + j)
  have hv : (L ++ [v])[L.length] = v := by simp
  rw [hj, hv] at cu
  have HJ : Hid ((f + L.length) % m = j) := hj
  have hbg : b ≠ g := fun e => by subst e; rw [h0] at hb; simp at hb
  have hbr : b ≠ r := fun e => by subst e; rw [e4] at hb; simp at hb
  have cb := cellB (i := 0) hb rfl
  clear hj hv
  have hL0 : ((L.length : Int) + 1 == 0) = false := by simp; omega
  go_enter Try.func38, Try.ntmps38
  go_wp2_with (first
    | (go_at_call 18; refine (ilen_cell g (L.length + 1) _ (by go_simp)).mono ?_; rintro e w' ⟨rfl, rfl⟩)
    | (go_at_call 37; refine (iplace_cell g f L.length m c j (some ⟨r, o, none⟩) _ _ (by exact c0) (by exact c1) (by omega) (by omega) (by omega) (by omega) rfl HJ).mono ?_; rintro e w' ⟨rfl, n1, rfl⟩)
    | (go_at_call 40; refine (ipop1 b g (L.length + 1) _ (by go_simp) (by go_simp) (by go_simp) (by omega) (by omega)).mono ?_; rintro e w' ⟨rfl, rfl⟩))
  go_ret2
  have hring := e6.pop _ cs o m f L v (by simp; omega) 0
  rw [HJ.out] at hring
  refine ⟨rfl, ⟨_, m, c, f, ?_, by omega, by omega, by omega, .inr ⟨r, o, _, rfl, e2, e3, ?_, e5, hring⟩⟩, ?_⟩
  · have s1 : ((w.drewN n1).setCell ⟨r, o + j, none⟩ (.int .i64 0)).heap[g]? = _ := (heap_setCell_ne _ _ e3.symm).trans h0
    have s2 := heap_setCell_same s1 2 (.int .i64 ((L.length : Int) + 1 - 1))
    simpa using s2
  · rw [heap_setCell_ne _ _ e3]
    exact heap_setCell_same (w := w.drewN n1) e4 _ _
  · refine Kept.setCell (Kept.setCell ((Kept.refl _ _).drewN _) ?_ _) ?_ _
    · exact fun _ => .inr e2
    · exact fun _ => .inl rfl

set_option maxHeartbeats 800000 in
theorem itake_shift (b g : Nat) (R : Option Nat) (L : List Int) (v : Int) (w : World) (hb : w.heap[b]? = some (.cells #[.pointer (some ⟨g, 0, none⟩)] 58 (0, 0))) (hD : iDq w g R (v :: L)) :
    Calls Try.prog 38 #[.pointer (some ⟨g, 0, none⟩), .int .i64 0, .func (.func 39) #[] #[.pointer (some ⟨b, 0, none⟩)]] w
      fun e w' => e = .returned (.tuple #[.int .i64 v, .bool true]) ∧ iDq w' g R L ∧ Kept (fun k => k = g ∨ R = some k) w w' := by
  have hlen := hD.len
  obtain ⟨ad, m, c, f, h0, h1, h2, h3, h4⟩ := hD
  simp only [List.length_cons] at hlen h1 h0
  rcases h4 with ⟨h4, _⟩ | ⟨r, o, cs, e1, e2, e3, e4, e5, e6⟩
  · omega
  subst e1
  obtain ⟨c0, c1, c2, f0, f1, f2⟩ := blk3 h0
  have hfm : (f + 0) % m = f := by rw [Nat.add_zero]; exact Nat.mod_eq_of_lt e5
  have cu := cellB e4 (e6.row 0 (by simp))
  have fu := frozenB e4 (o + f)
  rw [hfm] at cu
  have HF : Hid ((f + 0) % m = f) := hfm
  obtain ⟨j, hj⟩ : ∃ j, (f + 1) % m = j := ⟨_, rfl⟩
  have hjm : j < m := by rw [← hj]; exact Nat.mod_lt _ (by omega)
  have HJ : Hid ((f + 1) % m = j) := hj
  have hbg : b ≠ g := fun e => by subst e; rw [h0] at hb; simp at hb
  have hbr : b ≠ r := fun e => by subst e; rw [e4] at hb; simp at hb
  have cb := cellB (i := 0) hb rfl
  clear hj hfm
  have hL0 : ((L.length : Int) + 1 == 0) = false := by simp; omega
  go_enter Try.func38, Try.ntmps38
  go_wp2_with (first
    | (go_at_call 18; refine (ilen_cell g (L.length + 1) _ (by go_simp)).mono ?_; rintro e w' ⟨rfl, rfl⟩)
    | (go_at_call 37; go_loud (refine (iplace_cell g f 0 m c f (some ⟨r, o, none⟩) _ _ (by exact c0) (by exact c1) (by omega) (by omega) (by omega) (by omega) rfl HF).mono ?_; rintro e w' ⟨rfl, n1, rfl⟩; have hg : ((w.drewN n1).setCell ⟨r, o + f, none⟩ (.int .i64 0)).heap[g]? = _ := (heap_setCell_ne _ _ e3.symm).trans h0; have hbx : ((w.drewN n1).setCell ⟨r, o + f, none⟩ (.int .i64 0)).cell? ⟨b, 0, none⟩ = _ := cellB ((heap_setCell_ne _ _ hbr).trans hb) rfl; clear hlen))
    | (go_at_call 39; go_loud (refine (ishift1 b g (L.length + 1) f m c j (some ⟨r, o, none⟩) _ hbx hg (by omega) (by omega) (by omega) (by omega) HJ).mono ?_; rintro e w' ⟨rfl, k1, k2, rfl⟩)))
  go_ret2
  have hring := e6.shift _ cs o m f L v (by simp; omega) 0
  rw [HF.out, HJ.out] at hring
  refine ⟨rfl, ⟨_, m, c, j, ?_, by omega, by omega, by omega, .inr ⟨r, o, _, rfl, e2, e3, ?_, hjm, hring⟩⟩, ?_⟩
  · have s1 : ((w.drewN n1).setCell ⟨r, o + f, none⟩ (.int .i64 0)).heap[g]? = _ := (heap_setCell_ne _ _ e3.symm).trans h0
    have s2 := heap_setCell_same (w := ((w.drewN n1).setCell ⟨r, o + f, none⟩ (.int .i64 0)).drewN k1) s1 1 (.int .i64 j)
    have s3 := heap_setCell_same (w := ((((w.drewN n1).setCell ⟨r, o + f, none⟩ (.int .i64 0)).drewN k1).setCell ⟨g, 1, none⟩ (.int .i64 j)).drewN k2) s2 2 (.int .i64 (((L.length + 1 : Nat) : Int) - 1))
    simpa using s3
  · rw [heap_setCell_ne _ _ e3, heap_drewN, heap_setCell_ne _ _ e3, heap_drewN]
    exact heap_setCell_same (w := w.drewN n1) e4 _ _
  · refine Kept.setCell (Kept.drewN (Kept.setCell (Kept.drewN (Kept.setCell ((Kept.refl _ _).drewN _) ?_ _) _) ?_ _) _) ?_ _
    · exact fun _ => .inr e2
    · exact fun _ => .inl rfl
    · exact fun _ => .inl rfl
end Go.Proofs.Ytnleffjheimmbaa
