/- The ring of bytes: a fork, another history, who may go on, what is told. -/
import Derived.Test.YtlaahdjdlekopaaRg5
namespace Go.Proofs.Ytlaahdjdlekopaa
open Go.RowKit

def RS.fork_ (s : RS) (i : Int) : RS := { s with id := i, second := s.id, fork := s.off }
def RS.follow (s : RS) (i : Int) (o : Nat) : RS := { s with id := i, off := o, second := 0, fork := 0, first := o, L := [] }

set_option maxHeartbeats 800000 in
theorem rfork_bad (g : Nat) (R : Option Nat) (s : RS) (i : Int) (w : World) (h : Rg w g R s) (hi : i = 0 ∨ i = s.id) :
    Calls Try.prog 13 #[.pointer (some ⟨g, 0, none⟩), .int .u64 i] w fun e w' => e = .returned (.int .i64 190) ∧ w = w' := by
  have hR := h
  obtain ⟨ad, m, h0, h1, h2, h3, h4, h5, h6, h7, h8⟩ := h
  obtain ⟨c0, c1, c2, c3, c4, c5, c6⟩ := blk7 h0
  clear h8 h1 h0
  by_cases hi0 : i = 0
  · subst hi0
    go_enter Try.func13, Try.ntmps13
    go_wp2_with (go_at_call 29; refine (rmade_rg g R s _ hR).mono ?_; rintro e w1 ⟨rfl, rfl⟩)
    go_ret
    exact ⟨rfl, rfl⟩
  · have hi1 : (i == 0) = false := by simpa using hi0
    have hi2 : (i == s.id) = true := by simpa using hi.resolve_left hi0
    go_enter Try.func13, Try.ntmps13
    go_wp2_with (go_at_call 29; refine (rmade_rg g R s _ hR).mono ?_; rintro e w1 ⟨rfl, rfl⟩)
    go_ret
    exact ⟨rfl, rfl⟩

set_option maxHeartbeats 800000 in
theorem rfork (g : Nat) (R : Option Nat) (s : RS) (i : Int) (w : World) (h : Rg w g R s) (hi : i ≠ 0) (hi' : i ≠ s.id) :
    Calls Try.prog 13 #[.pointer (some ⟨g, 0, none⟩), .int .u64 i] w fun e w' => e = .returned (.int .i64 0) ∧ Rg w' g R (s.fork_ i) ∧ Kept (fun k => k = g) w w' := by
  have hR := h
  obtain ⟨ad, m, h0, h1, h2, h3, h4, h5, h6, h7, h8⟩ := h
  obtain ⟨c0, c1, c2, c3, c4, c5, c6⟩ := blk7 h0
  have f0 := frozenB h0 0
  have f1 := frozenB h0 1
  have f2 := frozenB h0 2
  have f3 := frozenB h0 3
  have K8 := Lib.hid h8
  have K1 := Lib.hid h1
  have H0 := Lib.hid h0
  have hn0 : (i == 0) = false := by simpa using hi
  have hn1 : (i == s.id) = false := by simpa using hi'
  clear h8 h1
  go_enter Try.func13, Try.ntmps13
  go_wp2_with (go_at_call 29; refine (rmade_rg g R s _ hR).mono ?_; rintro e w1 ⟨rfl, rfl⟩)
  refine wp_plan 0 [1, 2, 3, 4, 5, 6, 7, 8, 9, 10, 11, 12, 13, 14, 15, 16, 17, 18, 19] 20 [] [] (by kernel_rfl) (by kernel_rfl) ?_
  simp only [wpPlan, pick, List.filterMap_cons, List.filterMap_nil, List.getElem?_cons_succ, List.getElem?_cons_zero]
  repeat (quiet_step (fail))
  refine wpQuiet_nil ?_
  rintro _ ⟨nr, rfl⟩
  go_wp2
  refine Halt.mk ?_
  have hw : (((((w.drewN nr).setCell ⟨g, 0, none⟩ (.int .u64 i)).setCell ⟨g, 1, none⟩ (.int .i64 s.off)).setCell ⟨g, 2, none⟩ (.int .u64 s.id)).setCell ⟨g, 3, none⟩ (.int .i64 s.off)).heap[g]? = some (.cells #[.int .u64 i, .int .i64 s.off, .int .u64 s.id, .int .i64 s.off, .int .i64 s.first, .int .i64 s.size, .slice ad m m] 65 (0, 0)) :=
    heap_setCell_same (heap_setCell_same (heap_setCell_same (heap_setCell_same (w := w.drewN nr) H0.out 0 _) 1 _) 2 _) 3 _
  have hk : Kept (fun k => k = g) w (((((w.drewN nr).setCell ⟨g, 0, none⟩ (.int .u64 i)).setCell ⟨g, 1, none⟩ (.int .i64 s.off)).setCell ⟨g, 2, none⟩ (.int .u64 s.id)).setCell ⟨g, 3, none⟩ (.int .i64 s.off)) :=
    Kept.setCell (S := fun k => k = g) (p := ⟨g, 3, none⟩) (Kept.setCell (S := fun k => k = g) (p := ⟨g, 2, none⟩) (Kept.setCell (S := fun k => k = g) (p := ⟨g, 1, none⟩) (Kept.setCell (S := fun k => k = g) (p := ⟨g, 0, none⟩) ((Kept.refl _ _).drewN nr) (fun _ => rfl) _) (fun _ => rfl) _) (fun _ => rfl) _) (fun _ => rfl) _
  have hh0 := h0
  clear c0 c1 c2 c3 c4 c5 c6 f0 f1 f2 f3
  generalize ((((w.drewN nr).setCell ⟨g, 0, none⟩ (.int .u64 i)).setCell ⟨g, 1, none⟩ (.int .i64 s.off)).setCell ⟨g, 2, none⟩ (.int .u64 s.id)).setCell ⟨g, 3, none⟩ (.int .i64 s.off) = w2 at *
  have HW := Lib.hid hw
  have HK := Lib.hid hk
  clear hw hk
  go_wp2
  go_ret
  refine ⟨rfl, ⟨ad, m, HW.out, K1.out, h2, h3, h4, h5, h6, h6, ?_⟩, HK.out⟩
  rcases K8.out with ⟨j8, j9, j10⟩ | ⟨r, cs, rfl, r2, r3, r4, r5, r6, r7⟩
  · exact .inl ⟨j8, j9, j10⟩
  · exact .inr ⟨r, cs, rfl, r2, r3, HK.out.heap r4 r3, r5, r6, r7⟩

theorem rfork_nobody (p : Option Addr) (v : Value) (w : World) (hm : Calls Try.prog 29 #[.pointer p] w fun e w' => e = .returned (.bool false) ∧ w = w') :
    Calls Try.prog 13 #[.pointer p, v] w fun e w' => e = .returned (.int .i64 4) ∧ w = w' := by
  go_enter Try.func13, Try.ntmps13
  go_wp2_with (go_at_call 29; refine hm.mono ?_; rintro e w1 ⟨rfl, rfl⟩)
  go_ret
  exact ⟨rfl, rfl⟩
theorem rfollow_nobody (p : Option Addr) (v u : Value) (w : World) (hm : Calls Try.prog 29 #[.pointer p] w fun e w' => e = .returned (.bool false) ∧ w = w') :
    Calls Try.prog 28 #[.pointer p, v, u] w fun e w' => e = .returned (.int .i64 4) ∧ w = w' := by
  go_enter Try.func28, Try.ntmps28
  go_wp2_with (go_at_call 29; refine hm.mono ?_; rintro e w1 ⟨rfl, rfl⟩)
  go_ret
  exact ⟨rfl, rfl⟩
theorem rfrom_nobody (p : Option Addr) (v : Value) (w : World) (hm : Calls Try.prog 29 #[.pointer p] w fun e w' => e = .returned (.bool false) ∧ w = w') :
    Calls Try.prog 15 #[.pointer p, v] w fun e w' => e = .returned (.tuple #[.slice none 0 0, .int .i64 4]) ∧ w = w' := by
  go_enter Try.func15, Try.ntmps15
  go_wp2_with (go_at_call 29; refine hm.mono ?_; rintro e w1 ⟨rfl, rfl⟩)
  go_ret2
  exact ⟨rfl, rfl⟩
theorem rwindow_nobody (p : Option Addr) (w : World) (hm : Calls Try.prog 29 #[.pointer p] w fun e w' => e = .returned (.bool false) ∧ w = w') :
    Calls Try.prog 16 #[.pointer p] w fun e w' => e = .returned (.tuple #[.int .i64 0, .int .i64 0]) ∧ w = w' := by
  go_enter Try.func16, Try.ntmps16
  go_wp2_with (go_at_call 29; refine hm.mono ?_; rintro e w1 ⟨rfl, rfl⟩)
  go_ret2
  exact ⟨rfl, rfl⟩
theorem raccepts_nobody (p : Option Addr) (v u : Value) (w : World) (hm : Calls Try.prog 29 #[.pointer p] w fun e w' => e = .returned (.bool false) ∧ w = w') :
    Calls Try.prog 14 #[.pointer p, v, u] w fun e w' => e = .returned (.bool false) ∧ w = w' := by
  go_enter Try.func14, Try.ntmps14
  go_wp2_with (go_at_call 29; refine hm.mono ?_; rintro e w1 ⟨rfl, rfl⟩)
  go_ret
  exact ⟨rfl, rfl⟩

theorem rwindow (g : Nat) (R : Option Nat) (s : RS) (w : World) (h : Rg w g R s) :
    Calls Try.prog 16 #[.pointer (some ⟨g, 0, none⟩)] w fun e w' => e = .returned (.tuple #[.int .i64 s.first, .int .i64 s.off]) ∧ ∃ n, w' = w.drewN n := by
  have hR := h
  obtain ⟨ad, m, h0, h1, h2, h3, h4, h5, h6, h7, h8⟩ := h
  obtain ⟨c0, c1, c2, c3, c4, c5, c6⟩ := blk7 h0
  clear h8 h1 h0
  go_enter Try.func16, Try.ntmps16
  go_wp2_with (go_at_call 29; refine (rmade_rg g R s _ hR).mono ?_; rintro e w1 ⟨rfl, rfl⟩)
  go_quiet (fail)
  go_wp2
  go_ret2
  exact ⟨rfl, _, rfl⟩

set_option maxHeartbeats 800000 in
theorem rfrom_out (g : Nat) (R : Option Nat) (s : RS) (k : Int) (w : World) (h : Rg w g R s) (hk : k < s.first ∨ s.off < k) :
    Calls Try.prog 15 #[.pointer (some ⟨g, 0, none⟩), .int .i64 k] w fun e w' => e = .returned (.tuple #[.slice none 0 0, .int .i64 191]) ∧ w = w' := by
  have hR := h
  obtain ⟨ad, m, h0, h1, h2, h3, h4, h5, h6, h7, h8⟩ := h
  obtain ⟨c0, c1, c2, c3, c4, c5, c6⟩ := blk7 h0
  clear h8 h1 h0
  by_cases h1 : k < s.first
  · go_enter Try.func15, Try.ntmps15
    go_wp2_with (go_at_call 29; refine (rmade_rg g R s _ hR).mono ?_; rintro e w1 ⟨rfl, rfl⟩)
    go_ret2
    exact ⟨rfl, rfl⟩
  · have h2 : s.off < k := hk.resolve_left h1
    go_enter Try.func15, Try.ntmps15
    go_wp2_with (go_at_call 29; refine (rmade_rg g R s _ hR).mono ?_; rintro e w1 ⟨rfl, rfl⟩)
    go_ret2
    exact ⟨rfl, rfl⟩

set_option maxHeartbeats 800000 in
theorem rfrom_in (g : Nat) (R : Option Nat) (s : RS) (j : Nat) (k : Int) (w : World) (h : Rg w g R s) (hj : j ≤ s.L.length) (hk : k = s.first + j) :
    Calls Try.prog 15 #[.pointer (some ⟨g, 0, none⟩), .int .i64 k] w fun e w' => ∃ ap cap, e = .returned (.tuple #[.slice ap (s.L.length - j) cap, .int .i64 0]) ∧ Holds w' ap (s.L.length - j) ((s.L.drop j).map bv) ∧ (∀ ad, ap = some ad → ad.block = w.heap.size ∧ w.heap.size < w'.heap.size) ∧ (ap = none → cap = 0) ∧ s.L.length - j ≤ cap ∧ Kept NoBlock w w' := by
  have hR := h
  obtain ⟨ad, m, h0, h1, h2, h3, h4, h5, h6, h7, h8⟩ := h
  obtain ⟨c0, c1, c2, c3, c4, c5, c6⟩ := blk7 h0
  clear h8 h0
  have q1 : ¬ ((k : Int) < s.first) := by omega
  have q2 : ¬ ((s.off : Int) < k) := by omega
  obtain ⟨kk, hkk⟩ : ∃ kk, kk = s.first + j := ⟨_, rfl⟩
  obtain rfl : k = (kk : Int) := by omega
  have hb := rbytes g R s j kk w hR hj hkk.symm
  obtain ⟨N, hN⟩ : ∃ N, N = s.L.length - j := ⟨_, rfl⟩
  rw [← hN] at hb ⊢
  have HB := Lib.hid hb
  clear hb hN hkk hk h1 hj
  go_enter Try.func15, Try.ntmps15
  go_wp2_with (first
    | (go_at_call 29; refine (rmade_rg g R s _ hR).mono ?_; rintro e w1 ⟨rfl, rfl⟩)
    | (go_at_call 32; refine HB.out.mono ?_; rintro e w1 ⟨ap, cap, rfl, t1, t2, t3, t4, t5⟩))
  go_ret2
  exact ⟨ap, cap, rfl, t1, t2, t3, t4, t5⟩

def RS.accepts (s : RS) (i k : Int) : Bool := !(i == 0) && decide ((s.first : Int) ≤ k) && decide (k ≤ s.off) && (i == s.id || (i == s.second && decide (k ≤ s.fork)))

set_option maxHeartbeats 1600000 in
theorem raccepts (g : Nat) (R : Option Nat) (s : RS) (i k : Int) (w : World) (h : Rg w g R s) :
    Calls Try.prog 14 #[.pointer (some ⟨g, 0, none⟩), .int .u64 i, .int .i64 k] w fun e w' => e = .returned (.bool (s.accepts i k)) ∧ w = w' := by
  have hR := h
  obtain ⟨ad, m, h0, h1, h2, h3, h4, h5, h6, h7, h8⟩ := h
  obtain ⟨c0, c1, c2, c3, c4, c5, c6⟩ := blk7 h0
  clear h8 h0 h1
  generalize hr : s.accepts i k = r
  unfold RS.accepts at hr
  cases e0 : (i == 0) with
  | true =>
    rw [e0] at hr
    obtain rfl : false = r := by simpa using hr
    clear hr
    go_enter Try.func14, Try.ntmps14
    go_wp2_with (go_at_call 29; refine (rmade_rg g R s _ hR).mono ?_; rintro e w1 ⟨rfl, rfl⟩)
    go_ret
    exact ⟨rfl, rfl⟩
  | false =>
    by_cases q1 : k < s.first
    · have hn : ¬ ((s.first : Int) ≤ k) := by omega
      obtain rfl : false = r := by rw [← hr]; simp [hn]
      clear hr hn
      go_enter Try.func14, Try.ntmps14
      go_wp2_with (go_at_call 29; refine (rmade_rg g R s _ hR).mono ?_; rintro e w1 ⟨rfl, rfl⟩)
      go_ret
      exact ⟨rfl, rfl⟩
    · by_cases q2 : (s.off : Int) < k
      · have hn : ¬ (k ≤ (s.off : Int)) := by omega
        obtain rfl : false = r := by rw [← hr]; simp [hn]
        clear hr hn
        go_enter Try.func14, Try.ntmps14
        go_wp2_with (go_at_call 29; refine (rmade_rg g R s _ hR).mono ?_; rintro e w1 ⟨rfl, rfl⟩)
        go_ret
        exact ⟨rfl, rfl⟩
      · have hn1 : (s.first : Int) ≤ k := by omega
        have hn2 : k ≤ (s.off : Int) := by omega
        rw [e0, decide_eq_true hn1, decide_eq_true hn2] at hr
        clear hn1 hn2
        cases e1 : (i == s.id) with
        | true =>
          obtain rfl : true = r := by rw [← hr, e1]; rfl
          clear hr
          go_enter Try.func14, Try.ntmps14
          go_wp2_with (go_at_call 29; refine (rmade_rg g R s _ hR).mono ?_; rintro e w1 ⟨rfl, rfl⟩)
          go_ret
          exact ⟨rfl, rfl⟩
        | false =>
          cases e2 : (i == s.second) with
          | false =>
            obtain rfl : false = r := by rw [← hr, e1, e2]; rfl
            clear hr
            go_enter Try.func14, Try.ntmps14
            go_wp2_with (go_at_call 29; refine (rmade_rg g R s _ hR).mono ?_; rintro e w1 ⟨rfl, rfl⟩)
            go_ret
            exact ⟨rfl, rfl⟩
          | true =>
            obtain rfl : decide (k ≤ (s.fork : Int)) = r := by rw [← hr, e1, e2]; rfl
            clear hr
            go_enter Try.func14, Try.ntmps14
            go_wp2_with (go_at_call 29; refine (rmade_rg g R s _ hR).mono ?_; rintro e w1 ⟨rfl, rfl⟩)
            go_ret
            exact ⟨rfl, rfl⟩
end Go.Proofs.Ytlaahdjdlekopaa
