/- 'ends': calls at an end, of both. -/
import Derived.Test.YtnleffjheimmbaaEnd1
namespace Go.Proofs.Ytnleffjheimmbaa
open Go.RowKit Go.Shelf

set_option maxRecDepth 8000 in
set_option maxHeartbeats 1600000 in
theorem ends_2 (w0 w : World) (g b : Nat) (R : Option Nat) (v : Value) (B : Nat) (L : List ByteArray) (i k : Int) (s : ByteArray) (h : Rn w0 w g b R v B L L) (hl : L.length ≤ 1000) :
    Calls Try.prog 45 #[.pointer (some ⟨g, 0, none⟩), .pointer (some ⟨b, 0, none⟩), .agg #[.int .i64 2, .int .i64 i, .int .i64 k, .string s]] w
      fun e w' => e = .returned (.bool true) ∧ ∃ R' v' L', Rn w0 w' g b R' v' B L' L' ∧ L'.length ≤ L.length + 1 := by
  have hwa := h.kept (Kept.allocd w (.cells #[.int .i64 2, .int .i64 i, .int .i64 k, .string s] 48))
  have hop := heap_alloc_new w (.cells #[.int .i64 2, .int .i64 i, .int .i64 k, .string s] 48)
  obtain ⟨ap, cap, rfl, hc, _⟩ := rw_len hwa.rw
  clear h
  go_enter Try.func45, Try.ntmps45
  go_wp2_with fail
  generalize w.alloc (.cells #[.int .i64 2, .int .i64 i, .int .i64 k, .string s] 48) = wa at *
  generalize w.heap.size = p at *
  have hBs : B ≤ wa.heap.size := by have := hwa.bb; have := hwa.rw.1.lt; omega
  refine (rowInsert b B _ L 0 s wa hwa.rw hBs (Nat.zero_le _) (by omega)).mono ?_
  rintro e w2 ⟨rfl, v', hw2, hf2, hk2⟩
  have hR2 := hwa.rstep (L' := s :: L) hw2 (fun k e => .inr (hf2 k e)) (hk2.mono (fun _ _ e => .inl e))
  have hop2 := hk2.heap hop (fun e => hwa.offR hop (by decide) (by decide) (.inl e))
  have c3 := cellB (i := 3) hop2 rfl
  go_wp2_with fail
  refine (sunshift g R L s w2 hR2.dq (by omega)).mono ?_
  rintro e w4 ⟨rfl, r, hD4, hr4, hk4⟩
  have hR4 := hR2.dstep hD4 (fun r' e => by cases e; exact hr4) (hk4.mono (fun q _ e => e.elim .inl (fun e => .inr (.inr (congrArg some e.symm)))))
  go_wp2
  go_ret
  exact ⟨rfl, _, _, _, hR4, by simp⟩

set_option maxRecDepth 8000 in
set_option maxHeartbeats 1600000 in
theorem ends_3_nil (w0 w : World) (g b : Nat) (R : Option Nat) (v : Value) (B : Nat) (i k : Int) (s : ByteArray) (h : Rn w0 w g b R v B [] []) :
    Calls Try.prog 45 #[.pointer (some ⟨g, 0, none⟩), .pointer (some ⟨b, 0, none⟩), .agg #[.int .i64 3, .int .i64 i, .int .i64 k, .string s]] w
      fun e w' => e = .returned (.bool true) ∧ ∃ R' v' L', Rn w0 w' g b R' v' B L' L' ∧ L'.length ≤ 0 + 1 := by
  have hwa := h.kept (Kept.allocd w (.cells #[.int .i64 3, .int .i64 i, .int .i64 k, .string s] 48))
  have hop := heap_alloc_new w (.cells #[.int .i64 3, .int .i64 i, .int .i64 k, .string s] 48)
  obtain ⟨ap, cap, rfl, hc, _⟩ := rw_len hwa.rw
  clear h
  go_enter Try.func45, Try.ntmps45
  go_wp2_with fail
  generalize w.alloc (.cells #[.int .i64 3, .int .i64 i, .int .i64 k, .string s] 48) = wa at *
  generalize w.heap.size = p at *
  have hBs : B ≤ wa.heap.size := by have := hwa.bb; have := hwa.rw.1.lt; omega
  refine (spop_nil g R wa hwa.dq).mono ?_
  rintro e w2 ⟨rfl, hk2⟩
  have hR2 := hwa.kept hk2
  have hwm : IntKind.i64.wrap ((0 : Int) - 1) = -1 := IntWalk.i64_in _ (by omega)
  go_wp2_with fail
  refine (rowRemove_out b B _ [] (-1) w2 hR2.rw (.inl (by omega))).mono ?_
  rintro e w3 ⟨rfl, rfl⟩
  go_wp2
  go_ret
  exact ⟨rfl, _, _, _, hR2, by simp⟩

set_option maxRecDepth 8000 in
set_option maxHeartbeats 1600000 in
theorem ends_3 (w0 w : World) (g b : Nat) (R : Option Nat) (v : Value) (B : Nat) (L : List ByteArray) (x : ByteArray) (i k : Int) (s : ByteArray) (h : Rn w0 w g b R v B (L ++ [x]) (L ++ [x])) (hl : L.length ≤ 1000) :
    Calls Try.prog 45 #[.pointer (some ⟨g, 0, none⟩), .pointer (some ⟨b, 0, none⟩), .agg #[.int .i64 3, .int .i64 i, .int .i64 k, .string s]] w
      fun e w' => e = .returned (.bool true) ∧ ∃ R' v' L', Rn w0 w' g b R' v' B L' L' ∧ L'.length ≤ (L ++ [x]).length + 1 := by
  have hwa := h.kept (Kept.allocd w (.cells #[.int .i64 3, .int .i64 i, .int .i64 k, .string s] 48))
  have hop := heap_alloc_new w (.cells #[.int .i64 3, .int .i64 i, .int .i64 k, .string s] 48)
  obtain ⟨ap, cap, rfl, hc, _⟩ := rw_len hwa.rw
  clear h
  go_enter Try.func45, Try.ntmps45
  go_wp2_with fail
  generalize w.alloc (.cells #[.int .i64 3, .int .i64 i, .int .i64 k, .string s] 48) = wa at *
  generalize w.heap.size = p at *
  have hBs : B ≤ wa.heap.size := by have := hwa.bb; have := hwa.rw.1.lt; omega
  refine (spop g R L x wa hwa.dq).mono ?_
  rintro e w2 ⟨rfl, hD2, hk2⟩
  have hR2 := hwa.dstep hD2 (fun r' e => .inl e) (hk2.mono (fun q _ e => e.elim .inl (fun e => .inr (.inl e))))
  have hlen : (((L ++ [x]).length : Nat) : Int) = L.length + 1 := by simp
  have hwm : IntKind.i64.wrap ((L.length : Int) + 1 - 1) = L.length := (IntWalk.i64_in _ (by omega)).trans (by omega)
  have hpos : (0 : Int) < (L.length : Int) + 1 := by omega
  go_wp2_with fail
  refine (rowRemove b B _ (L ++ [x]) L.length w2 hR2.rw (by have := hR2.bb; have := hR2.rw.1.lt; omega) (by simp) (by simp; omega)).mono ?_
  rintro e w3 ⟨rfl, v', hw3, hf3, hk3⟩
  have hR3 := hR2.rstep (L' := L) (by simpa using hw3) (fun k e => .inr (hf3 k e)) (hk3.mono (fun _ _ e => .inl e))
  have hx : (L ++ [x])[L.length]'(by simp) = x := by simp
  rw [hx]
  go_wp2
  go_ret
  exact ⟨rfl, _, _, _, hR3, by first | omega | (simp; omega)⟩

set_option maxRecDepth 8000 in
set_option maxHeartbeats 1600000 in
theorem ends_4_nil (w0 w : World) (g b : Nat) (R : Option Nat) (v : Value) (B : Nat) (i k : Int) (s : ByteArray) (h : Rn w0 w g b R v B [] []) :
    Calls Try.prog 45 #[.pointer (some ⟨g, 0, none⟩), .pointer (some ⟨b, 0, none⟩), .agg #[.int .i64 4, .int .i64 i, .int .i64 k, .string s]] w
      fun e w' => e = .returned (.bool true) ∧ ∃ R' v' L', Rn w0 w' g b R' v' B L' L' ∧ L'.length ≤ 0 + 1 := by
  have hwa := h.kept (Kept.allocd w (.cells #[.int .i64 4, .int .i64 i, .int .i64 k, .string s] 48))
  have hop := heap_alloc_new w (.cells #[.int .i64 4, .int .i64 i, .int .i64 k, .string s] 48)
  obtain ⟨ap, cap, rfl, hc, _⟩ := rw_len hwa.rw
  clear h
  go_enter Try.func45, Try.ntmps45
  go_wp2_with fail
  generalize w.alloc (.cells #[.int .i64 4, .int .i64 i, .int .i64 k, .string s] 48) = wa at *
  generalize w.heap.size = p at *
  have hBs : B ≤ wa.heap.size := by have := hwa.bb; have := hwa.rw.1.lt; omega
  refine (sshift_nil g R wa hwa.dq).mono ?_
  rintro e w2 ⟨rfl, hk2⟩
  have hR2 := hwa.kept hk2
  go_wp2_with fail
  refine (rowRemove_out b B _ [] 0 w2 hR2.rw (.inr (by simp))).mono ?_
  rintro e w3 ⟨rfl, rfl⟩
  go_wp2
  go_ret
  exact ⟨rfl, _, _, _, hR2, by simp⟩

set_option maxRecDepth 8000 in
set_option maxHeartbeats 1600000 in
theorem ends_4 (w0 w : World) (g b : Nat) (R : Option Nat) (v : Value) (B : Nat) (L : List ByteArray) (x : ByteArray) (i k : Int) (s : ByteArray) (h : Rn w0 w g b R v B (x :: L) (x :: L)) (hl : L.length ≤ 1000) :
    Calls Try.prog 45 #[.pointer (some ⟨g, 0, none⟩), .pointer (some ⟨b, 0, none⟩), .agg #[.int .i64 4, .int .i64 i, .int .i64 k, .string s]] w
      fun e w' => e = .returned (.bool true) ∧ ∃ R' v' L', Rn w0 w' g b R' v' B L' L' ∧ L'.length ≤ (x :: L).length + 1 := by
  have hwa := h.kept (Kept.allocd w (.cells #[.int .i64 4, .int .i64 i, .int .i64 k, .string s] 48))
  have hop := heap_alloc_new w (.cells #[.int .i64 4, .int .i64 i, .int .i64 k, .string s] 48)
  obtain ⟨ap, cap, rfl, hc, _⟩ := rw_len hwa.rw
  clear h
  go_enter Try.func45, Try.ntmps45
  go_wp2_with fail
  generalize w.alloc (.cells #[.int .i64 4, .int .i64 i, .int .i64 k, .string s] 48) = wa at *
  generalize w.heap.size = p at *
  have hBs : B ≤ wa.heap.size := by have := hwa.bb; have := hwa.rw.1.lt; omega
  refine (sshift g R L x wa hwa.dq).mono ?_
  rintro e w2 ⟨rfl, hD2, hk2⟩
  have hR2 := hwa.dstep hD2 (fun r' e => .inl e) (hk2.mono (fun q _ e => e.elim .inl (fun e => .inr (.inl e))))
  have hlen : (((x :: L).length : Nat) : Int) = L.length + 1 := by simp
  have hpos : (0 : Int) < (L.length : Int) + 1 := by omega
  go_wp2_with fail
  refine (rowRemove b B _ (x :: L) 0 w2 hR2.rw (by have := hR2.bb; have := hR2.rw.1.lt; omega) (by simp) (by simp; omega)).mono ?_
  rintro e w3 ⟨rfl, v', hw3, hf3, hk3⟩
  have hR3 := hR2.rstep (L' := L) hw3 (fun k e => .inr (hf3 k e)) (hk3.mono (fun _ _ e => .inl e))
  rw [List.getElem_cons_zero]
  go_wp2
  go_ret
  exact ⟨rfl, _, _, _, hR3, by first | omega | (simp; omega)⟩

set_option maxRecDepth 8000 in
set_option maxHeartbeats 1600000 in
theorem ends_else (w0 w : World) (g b : Nat) (R : Option Nat) (v : Value) (B : Nat) (L : List ByteArray) (kd i k : Int) (s : ByteArray) (h : Rn w0 w g b R v B L L) (h1 : kd ≠ 1) (h2 : kd ≠ 2) (h3 : kd ≠ 3) (h4 : kd ≠ 4) :
    Calls Try.prog 45 #[.pointer (some ⟨g, 0, none⟩), .pointer (some ⟨b, 0, none⟩), .agg #[.int .i64 kd, .int .i64 i, .int .i64 k, .string s]] w
      fun e w' => e = .returned (.bool true) ∧ ∃ R' v' L', Rn w0 w' g b R' v' B L' L' ∧ L'.length ≤ L.length + 1 := by
  have hwa := h.kept (Kept.allocd w (.cells #[.int .i64 kd, .int .i64 i, .int .i64 k, .string s] 48))
  obtain ⟨ap, cap, rfl, hc, _⟩ := rw_len hwa.rw
  have e1 : (kd == 1) = false := beq_eq_false_iff_ne.2 h1
  have e2 : (kd == 2) = false := beq_eq_false_iff_ne.2 h2
  have e3 : (kd == 3) = false := beq_eq_false_iff_ne.2 h3
  have e4 : (kd == 4) = false := beq_eq_false_iff_ne.2 h4
  go_enter Try.func45, Try.ntmps45
  go_wp2
  go_ret
  exact ⟨rfl, _, _, _, hwa, by omega⟩
end Go.Proofs.Ytnleffjheimmbaa
