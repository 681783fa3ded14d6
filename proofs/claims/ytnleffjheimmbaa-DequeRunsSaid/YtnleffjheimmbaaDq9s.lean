/- The deque of strings: a place read and written; a row made of values. -/
import Derived.Test.YtnleffjheimmbaaDq8s
namespace Go.Proofs.Ytnleffjheimmbaa
open Go.RowKit

theorem sat_out (d : Option Addr) (n i : Int) (w : World) (hlen : Calls Try.prog 20 #[.pointer d] w fun e w' => e = .returned (.int .i64 n) ∧ w = w') (h : i < 0 ∨ n ≤ i) :
    Calls Try.prog 23 #[.pointer d, .int .i64 i] w fun e w' => e = .returned (.tuple #[.string ⟨#[]⟩, .int .i64 5]) ∧ w = w' := by
  have HL := Lib.hid hlen
  clear hlen
  go_enter Try.func23, Try.ntmps23
  by_cases h0 : i < 0
  · go_wp2_with fail
    go_ret2
    exact ⟨rfl, rfl⟩
  · have h1 : n ≤ i := by omega
    go_wp2_with (go_at_call 20; refine HL.out.mono ?_; rintro e w' ⟨rfl, rfl⟩)
    go_ret2
    exact ⟨rfl, rfl⟩

set_option maxHeartbeats 800000 in
theorem sat (g : Nat) (R : Option Nat) (L : List ByteArray) (k : Nat) (w : World) (hD : sDq w g R L) (hk : k < L.length) :
    Calls Try.prog 23 #[.pointer (some ⟨g, 0, none⟩), .int .i64 k] w fun e w' => e = .returned (.tuple #[.string L[k], .int .i64 0]) ∧ ∃ n, w' = w.drewN n := by
  have hlen := hD.len
  obtain ⟨m, c, f, r, o, j, c0, c1, c2, hm, hm', hf, hj, hjm, cr⟩ := hD.at hk
  go_enter Try.func23, Try.ntmps23
  go_wp2_with (go_at_call 20; refine (slen_dq g R L _ hD).mono ?_; rintro e w' ⟨rfl, rfl⟩)
  go_quiet ((go_at_call 49; exact Calls.quiet_of (splace_cell g f k m c j _ k _ (by exact c0) (by exact c1) hm hm' hf (by omega) rfl hj)))
  go_wp2
  go_ret2
  exact ⟨rfl, _, rfl⟩

theorem sset_nil (i : Int) (v : ByteArray) (w : World) :
    Calls Try.prog 27 #[.pointer none, .int .i64 i, .string v] w fun e w' => e = .returned (.int .i64 4) ∧ w = w' := by
  go_enter Try.func27, Try.ntmps27
  go_wp2
  go_ret
  exact ⟨rfl, rfl⟩

theorem sset_out (g : Nat) (R : Option Nat) (L : List ByteArray) (i : Int) (v : ByteArray) (w : World) (hD : sDq w g R L) (h : i < 0 ∨ L.length ≤ i) :
    Calls Try.prog 27 #[.pointer (some ⟨g, 0, none⟩), .int .i64 i, .string v] w fun e w' => e = .returned (.int .i64 5) ∧ w = w' := by
  obtain ⟨ad, m, c, f, h0, _⟩ := hD
  obtain ⟨c0, c1, c2, f0, f1, f2⟩ := blk3 h0
  go_enter Try.func27, Try.ntmps27
  by_cases hi : i < 0
  · go_wp2
    go_ret
    exact ⟨rfl, rfl⟩
  · have h1 : (L.length : Int) ≤ i := by omega
    go_wp2
    go_ret
    exact ⟨rfl, rfl⟩

set_option maxHeartbeats 800000 in
theorem sset (g : Nat) (R : Option Nat) (L : List ByteArray) (k : Nat) (v : ByteArray) (w : World) (hD : sDq w g R L) (hk : k < L.length) :
    Calls Try.prog 27 #[.pointer (some ⟨g, 0, none⟩), .int .i64 k, .string v] w fun e w' => e = .returned (.int .i64 0) ∧ sDq w' g R (L.set k v) ∧ Kept (fun k => k = g ∨ R = some k) w w' := by
  obtain ⟨ad, m, c, f, h0, h1, h2, h3, h4⟩ := hD
  rcases h4 with ⟨h4, _⟩ | ⟨r, o, cs, e1, e2, e3, e4, e5, e6⟩
  · omega
  subst e1
  obtain ⟨c0, c1, c2, f0, f1, f2⟩ := blk3 h0
  obtain ⟨j, hj⟩ : ∃ j, (f + k) % m = j := ⟨_, rfl⟩
  have hjm : j < m := by rw [← hj]; exact Nat.mod_lt _ (by omega)
  have cu := cellB e4 (e6.row k hk)
  have fu := frozenB e4 (o + j)
  rw [hj] at cu
  have HJ : Hid ((f + k) % m = j) := hj
  clear hj
  go_enter Try.func27, Try.ntmps27
  go_wp2
  refine wp_plan 0 [1, 2, 3, 4, 5, 6, 7, 8] 9 [] [] (by kernel_rfl) (by kernel_rfl) ?_
  simp only [wpPlan, pick, List.filterMap_cons, List.filterMap_nil, List.getElem?_cons_succ, List.getElem?_cons_zero]
  repeat (quiet_step ((go_at_call 49; exact Calls.quiet_of (splace_cell g f k m c j (some ⟨r, o, none⟩) k _ (by exact c0) (by exact c1) (by omega) (by omega) (by omega) (by omega) rfl HJ))))
  refine wpQuiet_nil ?_
  rintro _ ⟨n1, rfl⟩
  go_wp2
  refine Halt.mk ?_
  go_wp2
  go_ret
  have hring := e6.set _ cs o m f L v h1 hk
  rw [HJ.out] at hring
  refine ⟨rfl, ⟨_, m, c, f, ?_, by simpa using h1, by omega, by omega, .inr ⟨r, o, _, rfl, e2, e3, ?_, e5, hring⟩⟩, ?_⟩
  · rw [heap_setCell_ne _ _ e3.symm, heap_drewN]
    simpa using h0
  · exact heap_setCell_same (w := w.drewN n1) e4 _ _
  · refine Kept.setCell ((Kept.refl _ _).drewN _) ?_ _
    exact fun _ => .inr e2
end Go.Proofs.Ytnleffjheimmbaa
