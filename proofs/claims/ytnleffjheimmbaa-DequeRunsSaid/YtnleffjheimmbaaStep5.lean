/- 'step': a place read, or written, of both. -/
import Derived.Test.YtnleffjheimmbaaEnds2
namespace Go.Proofs.Ytnleffjheimmbaa
open Go.RowKit Go.Shelf

theorem rw_cells {w : World} {b B q n cap : Nat} {L : List ByteArray} (h : Rw w b B (.slice (some ⟨q, 0, none⟩) n cap) L) : ∃ cur, w.heap[q]? = some (.cells cur 9 (0, 0)) ∧ cur.toList.take L.length = L.map .string ∧ L.length ≤ cur.size := by
  rcases h.2.2 with ⟨h1, _⟩ | ⟨g, cap', cur, e1, e2, e3, e4, _, e5, e6⟩
  · injection h1 with h1; cases h1
  · injection e1 with e1; cases e1
    exact ⟨cur, e3, by simpa using e6, by omega⟩

theorem rw_cell {w : World} {b B q m cap : Nat} {L : List ByteArray} (h : Rw w b B (.slice (some ⟨q, 0, none⟩) m cap) L) {n : Nat} (hn : n < L.length) : w.cell? ⟨q, n, none⟩ = some (.string L[n]) ∧ w.frozen? ⟨q, n, none⟩ = false := by
  obtain ⟨cur, e1, e2, e3⟩ := rw_cells h
  refine ⟨cellB e1 ?_, frozenB e1 n⟩
  have : (cur.toList.take L.length)[n]? = cur[n]? := by rw [List.getElem?_take, if_pos hn, Array.getElem?_toList]
  rw [← this, e2, List.getElem?_map, List.getElem?_eq_getElem hn]; rfl

theorem rw_set {w : World} {b B q m cap : Nat} {L : List ByteArray} (h : Rw w b B (.slice (some ⟨q, 0, none⟩) m cap) L) {n : Nat} (_hn : n < L.length) (s : ByteArray) (nq : Nat) :
    Rw ((w.drewN nq).setCell ⟨q, n, none⟩ (.string s)) b B (.slice (some ⟨q, 0, none⟩) m cap) (L.set n s) := by
  have hb := h.1
  rcases h.2.2 with ⟨h1, _⟩ | ⟨g, cap', cur, e1, e2, e3, e4, e4', e5, e6⟩
  · injection h1 with h1; cases h1
  · injection e1 with e1 e1' e1''; cases e1
    refine ⟨(heap_setCell_ne (w := w.drewN nq) _ _ (fun e => typesNe e3 hb (by decide) e.symm)).trans hb, by simp, .inr ⟨q, cap', cur.setIfInBounds n (.string s), ?_, e2, heap_setCell_same (w := w.drewN nq) e3 _ _, by simpa using e4, e4', by simpa using e5, ?_⟩⟩
    · simp only [List.length_set]; rw [e1', e1'']
    · simp only [List.length_set, Array.toList_setIfInBounds, List.map_set] at *
      rw [List.take_set, e6]

set_option maxRecDepth 8000 in
set_option maxHeartbeats 1600000 in
theorem step_5_out (w0 w : World) (g b : Nat) (R : Option Nat) (v : Value) (B : Nat) (L : List ByteArray) (i k : Int) (s : ByteArray) (h : Rn w0 w g b R v B L L) (hl : L.length ≤ 1000) (hi : i < 0 ∨ (L.length : Int) ≤ i) :
    Calls Try.prog 19 #[.pointer (some ⟨g, 0, none⟩), .pointer (some ⟨b, 0, none⟩), .agg #[.int .i64 5, .int .i64 i, .int .i64 k, .string s]] w
      fun e w' => e = .returned (.bool true) ∧ ∃ R' v' L', Rn w0 w' g b R' v' B L' L' ∧ L'.length ≤ L.length + 1 := by
  have hwa := h.kept (Kept.allocd w (.cells #[.int .i64 5, .int .i64 i, .int .i64 k, .string s] 48))
  have hop := heap_alloc_new w (.cells #[.int .i64 5, .int .i64 i, .int .i64 k, .string s] 48)
  obtain ⟨ap, cap, rfl, hc, hcap, hn, hs⟩ := rw_len hwa.rw
  clear h
  go_enter Try.func19, Try.ntmps19
  go_wp2_with fail
  generalize w.alloc (.cells #[.int .i64 5, .int .i64 i, .int .i64 k, .string s] 48) = wa at *
  generalize w.heap.size = p at *
  have a0 : wa.cell? ⟨p, 0, none⟩ = some (.int .i64 5) := cellB hop rfl
  have a1 : wa.cell? ⟨p, 1, none⟩ = some (.int .i64 i) := cellB hop rfl
  have a2 : wa.cell? ⟨p, 2, none⟩ = some (.int .i64 k) := cellB hop rfl
  have a3 : wa.cell? ⟨p, 3, none⟩ = some (.string s) := cellB hop rfl
  go_quiet ((go_at_call 41; exact Calls.quiet_of_same ((in_row i L.length _).mono (fun e w' h => ⟨h.1, h.2.symm⟩))))
  rename_i nq
  have hwq := hwa.kept ((Kept.refl NoBlock wa).drewN nq)
  have hd : decide (0 ≤ i ∧ i < (L.length : Int)) = false := by simp; omega
  rw [hd]
  go_wp2_with fail
  refine (sat_out (some ⟨g, 0, none⟩) L.length i _ (slen_dq g R L _ hwq.dq) hi).mono ?_
  rintro e w3 ⟨rfl, rfl⟩
  go_wp2
  go_ret
  exact ⟨rfl, _, _, _, hwq, by omega⟩

set_option maxRecDepth 8000 in
set_option maxHeartbeats 1600000 in
theorem step_5_in (w0 w : World) (g b : Nat) (R : Option Nat) (v : Value) (B : Nat) (L : List ByteArray) (n : Nat) (k : Int) (s : ByteArray) (h : Rn w0 w g b R v B L L) (hl : L.length ≤ 1000) (hn' : n < L.length) :
    Calls Try.prog 19 #[.pointer (some ⟨g, 0, none⟩), .pointer (some ⟨b, 0, none⟩), .agg #[.int .i64 5, .int .i64 n, .int .i64 k, .string s]] w
      fun e w' => e = .returned (.bool true) ∧ ∃ R' v' L', Rn w0 w' g b R' v' B L' L' ∧ L'.length ≤ L.length + 1 := by
  have hwa := h.kept (Kept.allocd w (.cells #[.int .i64 5, .int .i64 n, .int .i64 k, .string s] 48))
  have hop := heap_alloc_new w (.cells #[.int .i64 5, .int .i64 n, .int .i64 k, .string s] 48)
  obtain ⟨ap, cap, rfl, hc, hcap, hn, hs⟩ := rw_len hwa.rw
  clear h
  go_enter Try.func19, Try.ntmps19
  go_wp2_with fail
  generalize w.alloc (.cells #[.int .i64 5, .int .i64 n, .int .i64 k, .string s] 48) = wa at *
  generalize w.heap.size = p at *
  have a0 : wa.cell? ⟨p, 0, none⟩ = some (.int .i64 5) := cellB hop rfl
  have a1 : wa.cell? ⟨p, 1, none⟩ = some (.int .i64 n) := cellB hop rfl
  have a2 : wa.cell? ⟨p, 2, none⟩ = some (.int .i64 k) := cellB hop rfl
  have a3 : wa.cell? ⟨p, 3, none⟩ = some (.string s) := cellB hop rfl
  go_quiet ((go_at_call 41; exact Calls.quiet_of_same ((in_row n L.length _).mono (fun e w' h => ⟨h.1, h.2.symm⟩))))
  rename_i nq
  have hwq := hwa.kept ((Kept.refl NoBlock wa).drewN nq)
  have hd : decide (0 ≤ (n : Int) ∧ (n : Int) < (L.length : Int)) = true := by simp; omega
  rw [hd]
  have hap : ap ≠ none := fun e => by have := hn e; omega
  obtain ⟨ad, rfl⟩ := Option.ne_none_iff_exists'.1 hap
  obtain ⟨q, cur, rfl, _⟩ := hs ad rfl
  clear hs hn hap
  obtain ⟨cq, fq⟩ := rw_cell hwa.rw hn'
  go_wp2_with fail
  refine (sat g R L n _ hwq.dq hn').mono ?_
  rintro e w3 ⟨rfl, q2, rfl⟩
  go_wp2
  go_quiet (fail)
  go_wp2
  go_ret
  exact ⟨rfl, _, _, _, (hwa.kept ((Kept.refl NoBlock wa).drewN _)).kept ((Kept.refl NoBlock _).drewN _), by omega⟩

set_option maxRecDepth 8000 in
set_option maxHeartbeats 1600000 in
theorem step_6_out (w0 w : World) (g b : Nat) (R : Option Nat) (v : Value) (B : Nat) (L : List ByteArray) (i k : Int) (s : ByteArray) (h : Rn w0 w g b R v B L L) (hl : L.length ≤ 1000) (hi : i < 0 ∨ (L.length : Int) ≤ i) :
    Calls Try.prog 19 #[.pointer (some ⟨g, 0, none⟩), .pointer (some ⟨b, 0, none⟩), .agg #[.int .i64 6, .int .i64 i, .int .i64 k, .string s]] w
      fun e w' => e = .returned (.bool true) ∧ ∃ R' v' L', Rn w0 w' g b R' v' B L' L' ∧ L'.length ≤ L.length + 1 := by
  have hwa := h.kept (Kept.allocd w (.cells #[.int .i64 6, .int .i64 i, .int .i64 k, .string s] 48))
  have hop := heap_alloc_new w (.cells #[.int .i64 6, .int .i64 i, .int .i64 k, .string s] 48)
  obtain ⟨ap, cap, rfl, hc, hcap, hn, hs⟩ := rw_len hwa.rw
  clear h
  go_enter Try.func19, Try.ntmps19
  go_wp2_with fail
  generalize w.alloc (.cells #[.int .i64 6, .int .i64 i, .int .i64 k, .string s] 48) = wa at *
  generalize w.heap.size = p at *
  have a0 : wa.cell? ⟨p, 0, none⟩ = some (.int .i64 6) := cellB hop rfl
  have a1 : wa.cell? ⟨p, 1, none⟩ = some (.int .i64 i) := cellB hop rfl
  have a2 : wa.cell? ⟨p, 2, none⟩ = some (.int .i64 k) := cellB hop rfl
  have a3 : wa.cell? ⟨p, 3, none⟩ = some (.string s) := cellB hop rfl
  go_quiet ((go_at_call 41; exact Calls.quiet_of_same ((in_row i L.length _).mono (fun e w' h => ⟨h.1, h.2.symm⟩))))
  rename_i nq
  have hwq := hwa.kept ((Kept.refl NoBlock wa).drewN nq)
  have hd : decide (0 ≤ i ∧ i < (L.length : Int)) = false := by simp; omega
  rw [hd]
  go_wp2_with fail
  refine (sset_out g R L i s _ hwq.dq hi).mono ?_
  rintro e w3 ⟨rfl, rfl⟩
  go_wp2
  go_ret
  exact ⟨rfl, _, _, _, hwq, by omega⟩

set_option maxRecDepth 8000 in
set_option maxHeartbeats 1600000 in
theorem step_6_in (w0 w : World) (g b : Nat) (R : Option Nat) (v : Value) (B : Nat) (L : List ByteArray) (n : Nat) (k : Int) (s : ByteArray) (h : Rn w0 w g b R v B L L) (hl : L.length ≤ 1000) (hn' : n < L.length) :
    Calls Try.prog 19 #[.pointer (some ⟨g, 0, none⟩), .pointer (some ⟨b, 0, none⟩), .agg #[.int .i64 6, .int .i64 n, .int .i64 k, .string s]] w
      fun e w' => e = .returned (.bool true) ∧ ∃ R' v' L', Rn w0 w' g b R' v' B L' L' ∧ L'.length ≤ L.length + 1 := by
  have hwa := h.kept (Kept.allocd w (.cells #[.int .i64 6, .int .i64 n, .int .i64 k, .string s] 48))
  have hop := heap_alloc_new w (.cells #[.int .i64 6, .int .i64 n, .int .i64 k, .string s] 48)
  obtain ⟨ap, cap, rfl, hc, hcap, hn, hs⟩ := rw_len hwa.rw
  clear h
  go_enter Try.func19, Try.ntmps19
  go_wp2_with fail
  generalize w.alloc (.cells #[.int .i64 6, .int .i64 n, .int .i64 k, .string s] 48) = wa at *
  generalize w.heap.size = p at *
  have a0 : wa.cell? ⟨p, 0, none⟩ = some (.int .i64 6) := cellB hop rfl
  have a1 : wa.cell? ⟨p, 1, none⟩ = some (.int .i64 n) := cellB hop rfl
  have a2 : wa.cell? ⟨p, 2, none⟩ = some (.int .i64 k) := cellB hop rfl
  have a3 : wa.cell? ⟨p, 3, none⟩ = some (.string s) := cellB hop rfl
  go_quiet ((go_at_call 41; exact Calls.quiet_of_same ((in_row n L.length _).mono (fun e w' h => ⟨h.1, h.2.symm⟩))))
  rename_i nq
  have hwq := hwa.kept ((Kept.refl NoBlock wa).drewN nq)
  have hd : decide (0 ≤ (n : Int) ∧ (n : Int) < (L.length : Int)) = true := by simp; omega
  rw [hd]
  have hap : ap ≠ none := fun e => by have := hn e; omega
  obtain ⟨ad, rfl⟩ := Option.ne_none_iff_exists'.1 hap
  obtain ⟨q, cur, rfl, _⟩ := hs ad rfl
  clear hs hn hap
  go_wp2_with fail
  refine (sset g R L n s _ hwq.dq hn').mono ?_
  rintro e w3 ⟨rfl, hD3, hk3⟩
  have hR3 := hwq.dstep hD3 (fun r' e => .inl e) (hk3.mono (fun q _ e => e.elim .inl (fun e => .inr (.inl e))))
  have hop3 := hk3.heap hop (fun e => hwq.offD (R' := R) (fun r e => .inl e) hop (by decide) (by decide) (e.elim .inl (fun e => .inr (.inl e))))
  have c1 : w3.cell? ⟨p, 1, none⟩ = some (.int .i64 n) := cellB hop3 rfl
  have c3 : w3.cell? ⟨p, 3, none⟩ = some (.string s) := cellB hop3 rfl
  have cb := hR3.rw.1.cell
  obtain ⟨cq, fq⟩ := rw_cell hR3.rw hn'
  have hset := fun m => rw_set hR3.rw hn' s m
  have HS := Lib.hid hset
  clear hset hwa hwq hD3
  go_wp2
  refine wp_plan 0 [1, 2, 3, 4, 5, 6, 7, 8] 9 [] [] (by kernel_rfl) (by kernel_rfl) ?_
  simp only [wpPlan, pick, List.filterMap_cons, List.filterMap_nil, List.getElem?_cons_succ, List.getElem?_cons_zero]
  repeat (quiet_step (fail))
  refine wpQuiet_nil ?_
  rintro _ ⟨n1, rfl⟩
  go_wp2
  refine Halt.mk ?_
  go_wp2
  go_ret
  exact ⟨rfl, _, _, _, hR3.rstep (HS.out n1) (fun k e => .inl e) (Kept.setCell (p := ⟨q, n, none⟩) ((Kept.refl _ _).drewN n1) (fun _ => .inr rfl) _), by simp⟩
end Go.Proofs.Ytnleffjheimmbaa
