/- 'step': a value put in, taken out, a part left, of both; any other call. -/
import Derived.Test.YtnleffjheimmbaaStep5
namespace Go.Proofs.Ytnleffjheimmbaa
open Go.RowKit Go.Shelf
attribute [local go_sem] stillV_value stillV_skip

set_option maxRecDepth 8000 in
set_option maxHeartbeats 1600000 in
theorem step_7_out (w0 w : World) (g b : Nat) (R : Option Nat) (v : Value) (B : Nat) (L : List ByteArray) (i k : Int) (s : ByteArray) (h : Rn w0 w g b R v B L L) (hl : L.length ≤ 1000) (hi : i < 0 ∨ (L.length : Int) < i) :
    Calls Try.prog 19 #[.pointer (some ⟨g, 0, none⟩), .pointer (some ⟨b, 0, none⟩), .agg #[.int .i64 7, .int .i64 i, .int .i64 k, .string s]] w
      fun e w' => e = .returned (.bool true) ∧ ∃ R' v' L', Rn w0 w' g b R' v' B L' L' ∧ L'.length ≤ L.length + 1 := by
  have hwa := h.kept (Kept.allocd w (.cells #[.int .i64 7, .int .i64 i, .int .i64 k, .string s] 48))
  have hop := heap_alloc_new w (.cells #[.int .i64 7, .int .i64 i, .int .i64 k, .string s] 48)
  obtain ⟨ap, cap, rfl, hc, hcap, hn, hs⟩ := rw_len hwa.rw
  clear h
  go_enter Try.func19, Try.ntmps19
  go_wp2_with fail
  generalize w.alloc (.cells #[.int .i64 7, .int .i64 i, .int .i64 k, .string s] 48) = wa at *
  generalize w.heap.size = p at *
  have a0 : wa.cell? ⟨p, 0, none⟩ = some (.int .i64 7) := cellB hop rfl
  have a1 : wa.cell? ⟨p, 1, none⟩ = some (.int .i64 i) := cellB hop rfl
  have a2 : wa.cell? ⟨p, 2, none⟩ = some (.int .i64 k) := cellB hop rfl
  have a3 : wa.cell? ⟨p, 3, none⟩ = some (.string s) := cellB hop rfl
  go_quiet ((go_at_call 41; exact Calls.quiet_of_same ((in_row i L.length _).mono (fun e w' h => ⟨h.1, h.2.symm⟩))))
  rename_i nq
  have hwq := hwa.kept ((Kept.refl NoBlock wa).drewN nq)
  generalize decide (0 ≤ i ∧ i < (L.length : Int)) = dd
  go_wp2_with fail
  refine wp_planC (fun W => W.heap[p]? = some (.cells #[.int .i64 7, .int .i64 i, .int .i64 k, .string s] 48 (0, 0))) 13 [.flt 6, .flt 7, .flt 8, .flt 9, .flt 10, .seg [0, 1, 2, 3, 4] 5, .seg [] 11] [12, 13] (by kernel_rfl) (by kernel_rfl) (fun _ _ _ dst _ h => by cases dst <;> exact h) (fun _ _ h => h) hop (fun n0 => ?_)
  repeat (refine planC_flt rfl rfl ?_; apply Exists.intro; refine ⟨fun w' hw' => ?_, ?_⟩; (have q1 : w'.cell? ⟨p, 1, none⟩ = some (.int .i64 i) := cellB hw' rfl; have q3 : w'.cell? ⟨p, 3, none⟩ = some (.string s) := cellB hw' rfl; go_simp; rfl); simp only [Act.put, List.setIfInBounds_toArray, List.set_cons_succ, List.set_cons_zero])
  simp only [wpPlanC, pick, List.filterMap_cons, List.filterMap_nil, List.getElem?_cons_succ, List.getElem?_cons_zero]
  repeat (quiet_step (fail))
  refine wpQuiet_nil ?_
  rintro _ ⟨n1, rfl⟩
  go_wp2_with (go_at_call 28; refine (sinsert_out g R L i s _ (by exact hwa.dq) hi).mono ?_; rintro e w3 ⟨rfl, rfl⟩)
  refine Halt.mk ⟨.inr (by exact hop), ?_⟩
  go_wp2_with (go_at_call 42; refine (rowInsert_out b B _ L i s _ (by exact hwa.rw) hi).mono ?_; rintro e w3 ⟨rfl, rfl⟩)
  refine Halt.mk ⟨.inr (by exact hop), ?_⟩
  repeat (quiet_step (fail))
  refine wpQuiet_nil ?_
  rintro _ ⟨n2, rfl⟩
  go_wp2
  go_ret
  exact ⟨rfl, _, _, _, (hwa.kept ((Kept.refl NoBlock wa).drewN _)).kept ((Kept.refl NoBlock _).drewN _), by omega⟩

set_option maxRecDepth 8000 in
set_option maxHeartbeats 1600000 in
theorem step_7_in (w0 w : World) (g b : Nat) (R : Option Nat) (v : Value) (B : Nat) (L : List ByteArray) (n : Nat) (k : Int) (s : ByteArray) (h : Rn w0 w g b R v B L L) (hl : L.length ≤ 1000) (hn' : n ≤ L.length) :
    Calls Try.prog 19 #[.pointer (some ⟨g, 0, none⟩), .pointer (some ⟨b, 0, none⟩), .agg #[.int .i64 7, .int .i64 n, .int .i64 k, .string s]] w
      fun e w' => e = .returned (.bool true) ∧ ∃ R' v' L', Rn w0 w' g b R' v' B L' L' ∧ L'.length ≤ L.length + 1 := by
  have hwa := h.kept (Kept.allocd w (.cells #[.int .i64 7, .int .i64 n, .int .i64 k, .string s] 48))
  have hop := heap_alloc_new w (.cells #[.int .i64 7, .int .i64 n, .int .i64 k, .string s] 48)
  obtain ⟨ap, cap, rfl, hc, hcap, hn, hs⟩ := rw_len hwa.rw
  clear h
  go_enter Try.func19, Try.ntmps19
  go_wp2_with fail
  generalize w.alloc (.cells #[.int .i64 7, .int .i64 n, .int .i64 k, .string s] 48) = wa at *
  generalize w.heap.size = p at *
  have a0 : wa.cell? ⟨p, 0, none⟩ = some (.int .i64 7) := cellB hop rfl
  have a1 : wa.cell? ⟨p, 1, none⟩ = some (.int .i64 n) := cellB hop rfl
  have a2 : wa.cell? ⟨p, 2, none⟩ = some (.int .i64 k) := cellB hop rfl
  have a3 : wa.cell? ⟨p, 3, none⟩ = some (.string s) := cellB hop rfl
  go_quiet ((go_at_call 41; exact Calls.quiet_of_same ((in_row n L.length _).mono (fun e w' h => ⟨h.1, h.2.symm⟩))))
  rename_i nq
  have hwq := hwa.kept ((Kept.refl NoBlock wa).drewN nq)
  generalize decide (0 ≤ (n : Int) ∧ (n : Int) < (L.length : Int)) = dd
  have hwm := fun m => hwa.kept ((Kept.refl NoBlock wa).drewN m)
  have HWM := Lib.hid hwm
  have HOP := Lib.hid hop
  have HWA := Lib.hid hwa
  clear hwm hs hn hcap hwq
  go_wp2_with fail
  refine wp_planC (fun W => W.heap[p]? = some (.cells #[.int .i64 7, .int .i64 n, .int .i64 k, .string s] 48 (0, 0))) 13 [.flt 6, .flt 7, .flt 8, .flt 9, .flt 10, .seg [0, 1, 2, 3, 4] 5, .seg [] 11] [12, 13] (by kernel_rfl) (by kernel_rfl) (fun _ _ _ dst _ h => by cases dst <;> exact h) (fun _ _ h => h) hop (fun n0 => ?_)
  repeat (refine planC_flt rfl rfl ?_; apply Exists.intro; refine ⟨fun w' hw' => ?_, ?_⟩; (have q1 : w'.cell? ⟨p, 1, none⟩ = some (.int .i64 n) := cellB hw' rfl; have q3 : w'.cell? ⟨p, 3, none⟩ = some (.string s) := cellB hw' rfl; go_simp; rfl); simp only [Act.put, List.setIfInBounds_toArray, List.set_cons_succ, List.set_cons_zero])
  simp only [wpPlanC, pick, List.filterMap_cons, List.filterMap_nil, List.getElem?_cons_succ, List.getElem?_cons_zero]
  repeat (quiet_step (fail))
  refine wpQuiet_nil ?_
  rintro _ ⟨n1, rfl⟩
  go_wp2_with (go_at_call 28; refine (sinsert g R L n s _ (by exact HWA.out.dq) hn' (by omega)).mono ?_; rintro e w3 ⟨rfl, r, hD3, hr3, hk3⟩; have hR3 := (HWM.out _).dstep hD3 (fun r' e => by cases e; exact hr3) (hk3.mono (fun q _ e => e.elim .inl (fun e => .inr (.inr (congrArg some e.symm))))); have hop3 := hk3.heap (by exact HOP.out) (fun e => HWA.out.offD (R' := some r) (fun r' e => by cases e; exact hr3) HOP.out (by decide) (by decide) (e.elim .inl (fun e => .inr (.inr (congrArg some e.symm))))); clear hD3 hr3 hk3)
  refine Halt.mk ⟨.inr hop3, ?_⟩
  go_wp2_with (go_at_call 42; refine (rowInsert b B _ L n s _ hR3.rw (by have := hR3.bb; have := hR3.rw.1.lt; omega) hn' (by omega)).mono ?_; rintro e w4 ⟨rfl, v', hw4, hf4, hk4⟩; have hR4 := hR3.rstep hw4 (fun k e => .inr (hf4 k e)) (hk4.mono (fun _ _ e => .inl e)); have hop4 := hk4.heap hop3 (fun e => hR3.offR hop3 (by decide) (by decide) (.inl e)); clear hw4 hf4 hk4)
  refine Halt.mk ⟨.inr hop4, ?_⟩
  repeat (quiet_step (fail))
  refine wpQuiet_nil ?_
  rintro _ ⟨n2, rfl⟩
  go_wp2
  go_ret
  exact ⟨rfl, _, _, _, hR4.kept ((Kept.refl NoBlock _).drewN _), by simp; omega⟩

set_option maxRecDepth 8000 in
set_option maxHeartbeats 1600000 in
theorem step_8_out (w0 w : World) (g b : Nat) (R : Option Nat) (v : Value) (B : Nat) (L : List ByteArray) (i k : Int) (s : ByteArray) (h : Rn w0 w g b R v B L L) (hl : L.length ≤ 1000) (hi : i < 0 ∨ (L.length : Int) ≤ i) :
    Calls Try.prog 19 #[.pointer (some ⟨g, 0, none⟩), .pointer (some ⟨b, 0, none⟩), .agg #[.int .i64 8, .int .i64 i, .int .i64 k, .string s]] w
      fun e w' => e = .returned (.bool true) ∧ ∃ R' v' L', Rn w0 w' g b R' v' B L' L' ∧ L'.length ≤ L.length + 1 := by
  have hwa := h.kept (Kept.allocd w (.cells #[.int .i64 8, .int .i64 i, .int .i64 k, .string s] 48))
  have hop := heap_alloc_new w (.cells #[.int .i64 8, .int .i64 i, .int .i64 k, .string s] 48)
  obtain ⟨ap, cap, rfl, hc, hcap, hn, hs⟩ := rw_len hwa.rw
  clear h
  go_enter Try.func19, Try.ntmps19
  go_wp2_with fail
  generalize w.alloc (.cells #[.int .i64 8, .int .i64 i, .int .i64 k, .string s] 48) = wa at *
  generalize w.heap.size = p at *
  have a0 : wa.cell? ⟨p, 0, none⟩ = some (.int .i64 8) := cellB hop rfl
  have a1 : wa.cell? ⟨p, 1, none⟩ = some (.int .i64 i) := cellB hop rfl
  have a2 : wa.cell? ⟨p, 2, none⟩ = some (.int .i64 k) := cellB hop rfl
  have a3 : wa.cell? ⟨p, 3, none⟩ = some (.string s) := cellB hop rfl
  go_quiet ((go_at_call 41; exact Calls.quiet_of_same ((in_row i L.length _).mono (fun e w' h => ⟨h.1, h.2.symm⟩))))
  rename_i nq
  have hwq := hwa.kept ((Kept.refl NoBlock wa).drewN nq)
  generalize decide (0 ≤ i ∧ i < (L.length : Int)) = dd
  go_wp2_with fail
  refine (sremove_out g R L i _ hwq.dq hi).mono ?_
  rintro e w3 ⟨rfl, rfl⟩
  go_wp2_with fail
  refine (rowRemove_out b B _ L i _ hwq.rw hi).mono ?_
  rintro e w3 ⟨rfl, rfl⟩
  go_wp2
  go_ret
  exact ⟨rfl, _, _, _, hwq, by omega⟩

set_option maxRecDepth 8000 in
set_option maxHeartbeats 1600000 in
theorem step_8_in (w0 w : World) (g b : Nat) (R : Option Nat) (v : Value) (B : Nat) (L : List ByteArray) (n : Nat) (k : Int) (s : ByteArray) (h : Rn w0 w g b R v B L L) (hl : L.length ≤ 1000) (hn' : n < L.length) :
    Calls Try.prog 19 #[.pointer (some ⟨g, 0, none⟩), .pointer (some ⟨b, 0, none⟩), .agg #[.int .i64 8, .int .i64 n, .int .i64 k, .string s]] w
      fun e w' => e = .returned (.bool true) ∧ ∃ R' v' L', Rn w0 w' g b R' v' B L' L' ∧ L'.length ≤ L.length + 1 := by
  have hwa := h.kept (Kept.allocd w (.cells #[.int .i64 8, .int .i64 n, .int .i64 k, .string s] 48))
  have hop := heap_alloc_new w (.cells #[.int .i64 8, .int .i64 n, .int .i64 k, .string s] 48)
  obtain ⟨ap, cap, rfl, hc, hcap, hn, hs⟩ := rw_len hwa.rw
  clear h
  go_enter Try.func19, Try.ntmps19
  go_wp2_with fail
  generalize w.alloc (.cells #[.int .i64 8, .int .i64 n, .int .i64 k, .string s] 48) = wa at *
  generalize w.heap.size = p at *
  have a0 : wa.cell? ⟨p, 0, none⟩ = some (.int .i64 8) := cellB hop rfl
  have a1 : wa.cell? ⟨p, 1, none⟩ = some (.int .i64 n) := cellB hop rfl
  have a2 : wa.cell? ⟨p, 2, none⟩ = some (.int .i64 k) := cellB hop rfl
  have a3 : wa.cell? ⟨p, 3, none⟩ = some (.string s) := cellB hop rfl
  go_quiet ((go_at_call 41; exact Calls.quiet_of_same ((in_row n L.length _).mono (fun e w' h => ⟨h.1, h.2.symm⟩))))
  rename_i nq
  have hwq := hwa.kept ((Kept.refl NoBlock wa).drewN nq)
  generalize decide (0 ≤ (n : Int) ∧ (n : Int) < (L.length : Int)) = dd
  clear hs hn
  go_wp2_with fail
  refine (sremove g R L n _ hwq.dq hn').mono ?_
  rintro e w3 ⟨rfl, hD3, hk3⟩
  have hR3 := hwq.dstep hD3 (fun r' e => .inl e) (hk3.mono (fun q _ e => e.elim .inl (fun e => .inr (.inl e))))
  have hop3 := hk3.heap hop (fun e => hwq.offD (R' := R) (fun r e => .inl e) hop (by decide) (by decide) (e.elim .inl (fun e => .inr (.inl e))))
  have c1 : w3.cell? ⟨p, 1, none⟩ = some (.int .i64 n) := cellB hop3 rfl
  go_wp2_with fail
  refine (rowRemove b B _ L n w3 hR3.rw (by have := hR3.bb; have := hR3.rw.1.lt; omega) hn' (by omega)).mono ?_
  rintro e w4 ⟨rfl, v', hw4, hf4, hk4⟩
  have hR4 := hR3.rstep hw4 (fun k e => .inr (hf4 k e)) (hk4.mono (fun _ _ e => .inl e))
  go_wp2
  go_ret
  exact ⟨rfl, _, _, _, hR4, by simp; omega⟩

set_option maxRecDepth 8000 in
set_option maxHeartbeats 1600000 in
theorem step_9_out (w0 w : World) (g b : Nat) (R : Option Nat) (v : Value) (B : Nat) (L : List ByteArray) (i k : Int) (s : ByteArray) (h : Rn w0 w g b R v B L L) (hl : L.length ≤ 1000) (hi : i < 0 ∨ k < i ∨ (L.length : Int) < k) :
    Calls Try.prog 19 #[.pointer (some ⟨g, 0, none⟩), .pointer (some ⟨b, 0, none⟩), .agg #[.int .i64 9, .int .i64 i, .int .i64 k, .string s]] w
      fun e w' => e = .returned (.bool true) ∧ ∃ R' v' L', Rn w0 w' g b R' v' B L' L' ∧ L'.length ≤ L.length + 1 := by
  have hwa := h.kept (Kept.allocd w (.cells #[.int .i64 9, .int .i64 i, .int .i64 k, .string s] 48))
  have hop := heap_alloc_new w (.cells #[.int .i64 9, .int .i64 i, .int .i64 k, .string s] 48)
  obtain ⟨ap, cap, rfl, hc, hcap, hn, hs⟩ := rw_len hwa.rw
  clear h
  go_enter Try.func19, Try.ntmps19
  go_wp2_with fail
  generalize w.alloc (.cells #[.int .i64 9, .int .i64 i, .int .i64 k, .string s] 48) = wa at *
  generalize w.heap.size = p at *
  have a0 : wa.cell? ⟨p, 0, none⟩ = some (.int .i64 9) := cellB hop rfl
  have a1 : wa.cell? ⟨p, 1, none⟩ = some (.int .i64 i) := cellB hop rfl
  have a2 : wa.cell? ⟨p, 2, none⟩ = some (.int .i64 k) := cellB hop rfl
  have a3 : wa.cell? ⟨p, 3, none⟩ = some (.string s) := cellB hop rfl
  go_quiet ((go_at_call 41; exact Calls.quiet_of_same ((in_row i L.length _).mono (fun e w' h => ⟨h.1, h.2.symm⟩))))
  rename_i nq
  have hwq := hwa.kept ((Kept.refl NoBlock wa).drewN nq)
  generalize decide (0 ≤ i ∧ i < (L.length : Int)) = dd
  go_wp2_with fail
  refine wp_planC (fun W => W.heap[p]? = some (.cells #[.int .i64 9, .int .i64 i, .int .i64 k, .string s] 48 (0, 0))) 13 [.flt 6, .flt 7, .flt 8, .flt 9, .flt 10, .seg [0, 1, 2, 3, 4] 5, .seg [] 11] [12, 13] (by kernel_rfl) (by kernel_rfl) (fun _ _ _ dst _ h => by cases dst <;> exact h) (fun _ _ h => h) hop (fun n0 => ?_)
  repeat (refine planC_flt rfl rfl ?_; apply Exists.intro; refine ⟨fun w' hw' => ?_, ?_⟩; (have q1 : w'.cell? ⟨p, 1, none⟩ = some (.int .i64 i) := cellB hw' rfl; have q2 : w'.cell? ⟨p, 2, none⟩ = some (.int .i64 k) := cellB hw' rfl; go_simp; rfl); simp only [Act.put, List.setIfInBounds_toArray, List.set_cons_succ, List.set_cons_zero])
  simp only [wpPlanC, pick, List.filterMap_cons, List.filterMap_nil, List.getElem?_cons_succ, List.getElem?_cons_zero]
  repeat (quiet_step (fail))
  refine wpQuiet_nil ?_
  rintro _ ⟨n1, rfl⟩
  go_wp2_with (go_at_call 29; refine (strim_out g R L i k _ (by exact hwa.dq) hi).mono ?_; rintro e w3 ⟨rfl, rfl⟩)
  refine Halt.mk ⟨.inr (by exact hop), ?_⟩
  go_wp2_with (go_at_call 44; refine (rowTrim_out b B _ L i k _ (by exact hwa.rw) hi).mono ?_; rintro e w3 ⟨rfl, rfl⟩)
  refine Halt.mk ⟨.inr (by exact hop), ?_⟩
  repeat (quiet_step (fail))
  refine wpQuiet_nil ?_
  rintro _ ⟨n2, rfl⟩
  go_wp2
  go_ret
  exact ⟨rfl, _, _, _, (hwa.kept ((Kept.refl NoBlock wa).drewN _)).kept ((Kept.refl NoBlock _).drewN _), by omega⟩

set_option maxRecDepth 8000 in
set_option maxHeartbeats 1600000 in
theorem step_9_in (w0 w : World) (g b : Nat) (R : Option Nat) (v : Value) (B : Nat) (L : List ByteArray) (n : Nat) (m : Nat) (s : ByteArray) (h : Rn w0 w g b R v B L L) (hl : L.length ≤ 1000) (hnm : n ≤ m) (hm' : m ≤ L.length) :
    Calls Try.prog 19 #[.pointer (some ⟨g, 0, none⟩), .pointer (some ⟨b, 0, none⟩), .agg #[.int .i64 9, .int .i64 n, .int .i64 m, .string s]] w
      fun e w' => e = .returned (.bool true) ∧ ∃ R' v' L', Rn w0 w' g b R' v' B L' L' ∧ L'.length ≤ L.length + 1 := by
  have hwa := h.kept (Kept.allocd w (.cells #[.int .i64 9, .int .i64 n, .int .i64 m, .string s] 48))
  have hop := heap_alloc_new w (.cells #[.int .i64 9, .int .i64 n, .int .i64 m, .string s] 48)
  obtain ⟨ap, cap, rfl, hc, hcap, hn, hs⟩ := rw_len hwa.rw
  clear h
  go_enter Try.func19, Try.ntmps19
  go_wp2_with fail
  generalize w.alloc (.cells #[.int .i64 9, .int .i64 n, .int .i64 m, .string s] 48) = wa at *
  generalize w.heap.size = p at *
  have a0 : wa.cell? ⟨p, 0, none⟩ = some (.int .i64 9) := cellB hop rfl
  have a1 : wa.cell? ⟨p, 1, none⟩ = some (.int .i64 n) := cellB hop rfl
  have a2 : wa.cell? ⟨p, 2, none⟩ = some (.int .i64 m) := cellB hop rfl
  have a3 : wa.cell? ⟨p, 3, none⟩ = some (.string s) := cellB hop rfl
  go_quiet ((go_at_call 41; exact Calls.quiet_of_same ((in_row n L.length _).mono (fun e w' h => ⟨h.1, h.2.symm⟩))))
  rename_i nq
  have hwq := hwa.kept ((Kept.refl NoBlock wa).drewN nq)
  generalize decide (0 ≤ (n : Int) ∧ (n : Int) < (L.length : Int)) = dd
  have hwm := fun m => hwa.kept ((Kept.refl NoBlock wa).drewN m)
  have HWM := Lib.hid hwm
  have HOP := Lib.hid hop
  have HWA := Lib.hid hwa
  clear hwm hs hn hcap hwq
  go_wp2_with fail
  refine wp_planC (fun W => W.heap[p]? = some (.cells #[.int .i64 9, .int .i64 n, .int .i64 m, .string s] 48 (0, 0))) 13 [.flt 6, .flt 7, .flt 8, .flt 9, .flt 10, .seg [0, 1, 2, 3, 4] 5, .seg [] 11] [12, 13] (by kernel_rfl) (by kernel_rfl) (fun _ _ _ dst _ h => by cases dst <;> exact h) (fun _ _ h => h) hop (fun n0 => ?_)
  repeat (refine planC_flt rfl rfl ?_; apply Exists.intro; refine ⟨fun w' hw' => ?_, ?_⟩; (have q1 : w'.cell? ⟨p, 1, none⟩ = some (.int .i64 n) := cellB hw' rfl; have q2 : w'.cell? ⟨p, 2, none⟩ = some (.int .i64 m) := cellB hw' rfl; go_simp; rfl); simp only [Act.put, List.setIfInBounds_toArray, List.set_cons_succ, List.set_cons_zero])
  simp only [wpPlanC, pick, List.filterMap_cons, List.filterMap_nil, List.getElem?_cons_succ, List.getElem?_cons_zero]
  repeat (quiet_step (fail))
  refine wpQuiet_nil ?_
  rintro _ ⟨n1, rfl⟩
  go_wp2_with (go_at_call 29; refine (strim g R L n m _ (by exact HWA.out.dq) hnm hm').mono ?_; rintro e w3 ⟨rfl, R3, hD3, hr3, hk3⟩; have hR3 := (HWM.out _).dstep hD3 (fun r' e => .inr (hr3 r' e)) (hk3.mono (fun q _ e => .inl e)); have hop3 := hk3.heap (by exact HOP.out) (fun e => HWA.out.offD (R' := R) (fun r' e => .inl e) HOP.out (by decide) (by decide) (.inl e)); clear hD3 hr3 hk3)
  refine Halt.mk ⟨.inr hop3, ?_⟩
  go_wp2_with (go_at_call 44; refine (rowTrim b B _ L n m _ hR3.rw (by have := hR3.bb; have := hR3.rw.1.lt; omega) hnm hm' (by omega)).mono ?_; rintro e w4 ⟨rfl, v', hw4, hf4, hk4⟩; have hR4 := hR3.rstep hw4 (fun k e => .inr (hf4 k e)) (hk4.mono (fun _ _ e => .inl e)); have hop4 := hk4.heap hop3 (fun e => hR3.offR hop3 (by decide) (by decide) (.inl e)); clear hw4 hf4 hk4)
  refine Halt.mk ⟨.inr hop4, ?_⟩
  repeat (quiet_step (fail))
  refine wpQuiet_nil ?_
  rintro _ ⟨n2, rfl⟩
  go_wp2
  go_ret
  exact ⟨rfl, _, _, _, hR4.kept ((Kept.refl NoBlock _).drewN _), by simp; omega⟩
end Go.Proofs.Ytnleffjheimmbaa
