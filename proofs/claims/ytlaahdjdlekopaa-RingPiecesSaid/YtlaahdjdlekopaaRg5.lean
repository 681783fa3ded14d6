/- The ring of bytes: nothing fed, too much fed, a fork, another history, who may go on. -/
import Derived.Test.YtlaahdjdlekopaaRg4
namespace Go.Proofs.Ytlaahdjdlekopaa
open Go.RowKit

theorem feed_nil {s : RS} (h : s.L.length ≤ s.size) : s.feed [] = s := by
  have hz : s.L.length - s.size = 0 := by omega
  simp [RS.feed, hz]

set_option maxHeartbeats 1600000 in
theorem rfeed0 (g : Nat) (R : Option Nat) (s : RS) (w : World) (h : Rg w g R s) :
    Calls Try.prog 12 #[.pointer (some ⟨g, 0, none⟩), .slice none 0 0] w fun e w' => e = .returned (.int .i64 0) ∧ ∃ R', (R' = R ∨ ∃ r, R' = some r ∧ w.heap.size ≤ r) ∧ Rg w' g R' s ∧ Kept (fun k => k = g ∨ R = some k) w w' := by
  have hR := h
  obtain ⟨ad, m, h0, h1, h2, h3, h4, h5, h6, h7, h8⟩ := h
  obtain ⟨c0, c1, c2, c3, c4, c5, c6⟩ := blk7 h0
  clear h8
  obtain ⟨l, hl⟩ : ∃ l, l = s.L.length := ⟨_, rfl⟩
  have hsub : (s.off : Int) - s.first = l := by omega
  have hll : l ≤ 16777216 := by omega
  have hroom := fun nq => rroom g R s l (w.drewN nq) hR (by omega) (by omega)
  have hfo : s.first ≤ s.off := by omega
  have HL := Lib.hid hl
  have hw1 : IntKind.i64.wrap (l : Int) = l := IntWalk.i64_in _ (by omega)
  have hfit' : ¬ ((0 : Int) > 1125899906842624 - s.off) := by omega
  have H1 := Lib.hid h1
  have HR := Lib.hid hroom
  clear h1 h0 hroom hl
  go_enter Try.func12, Try.ntmps12
  go_wp2_with (go_at_call 29; refine (rmade_rg g R s _ hR).mono ?_; rintro e w1 ⟨rfl, rfl⟩)
  refine wp_plan 0 [1, 2, 3, 4, 5, 6, 7, 8, 9, 10, 11, 12, 13] 14 [] [] (by kernel_rfl) (by kernel_rfl) ?_
  simp only [wpPlan, pick, List.filterMap_cons, List.filterMap_nil, List.getElem?_cons_succ, List.getElem?_cons_zero]
  repeat (quiet_step (fail))
  refine wpQuiet_nil ?_
  rintro _ ⟨nq, rfl⟩
  go_wp2_with (go_at_call 30; refine (HR.out nq).mono ?_; rintro e w1 ⟨rfl, R', m', hR', hM, hmm, hk1⟩)
  refine Halt.mk ?_
  obtain ⟨ad1, g0, k1, k2, k3, kk4, kk5, kk6, kk7, k8⟩ := hM
  have K8 := Lib.hid k8
  have K1 := Lib.hid k1
  clear k8 k1
  obtain ⟨b0, b1, b2, b3, b4, b5, b6⟩ := blk7 g0
  have q1 := frozenB g0 1
  obtain ⟨x, hx'⟩ : ∃ x : Int, x = (s.off : Int) - s.size := ⟨_, rfl⟩
  have hx : (s.off : Int) - s.size = x := hx'.symm
  have hwx : IntKind.i64.wrap x = x := IntWalk.i64_in _ (by omega)
  have hmx : (if (s.first : Int) < x then x else (s.first : Int)) = s.first := by have := H1.out; split <;> omega
  have HX := Lib.hid hx'
  have HG0 := Lib.hid g0
  clear hx'
  go_wp2
  have g2 : (w1.setCell ⟨g, 1, none⟩ (.int .i64 s.off)).heap[g]? = some (.cells #[.int .u64 s.id, .int .i64 s.off, .int .u64 s.second, .int .i64 s.fork, .int .i64 s.first, .int .i64 s.size, .slice ad1 m' m'] 65 (0, 0)) := heap_setCell_same HG0.out 1 (.int .i64 s.off)
  have kk2 : Kept (fun k => k = g) w1 (w1.setCell ⟨g, 1, none⟩ (.int .i64 s.off)) := Kept.setCell (S := fun k => k = g) (p := ⟨g, 1, none⟩) (Kept.refl _ _) (fun _ => rfl) _
  clear b0 b1 b2 b3 b4 b5 b6 q1
  generalize w1.setCell ⟨g, 1, none⟩ (.int .i64 s.off) = w2 at *
  obtain ⟨b0, b1, b2, b3, b4, b5, b6⟩ := blk7 g2
  have q4 := frozenB g2 4
  have HG2 := Lib.hid g2
  clear g2
  refine wp_plan 0 [1, 2, 3, 4, 5, 6, 7, 8, 9, 10, 11, 12, 13, 14, 15, 16, 17] 18 [] [] (by kernel_rfl) (by kernel_rfl) ?_
  simp only [wpPlan, pick, List.filterMap_cons, List.filterMap_nil, List.getElem?_cons_succ, List.getElem?_cons_zero]
  repeat (quiet_step (fail))
  refine wpQuiet_nil ?_
  rintro _ ⟨nr, rfl⟩
  go_wp2
  refine Halt.mk ?_
  have g3 : ((w2.drewN nr).setCell ⟨g, 4, none⟩ (.int .i64 s.first)).heap[g]? = some (.cells #[.int .u64 s.id, .int .i64 s.off, .int .u64 s.second, .int .i64 s.fork, .int .i64 s.first, .int .i64 s.size, .slice ad1 m' m'] 65 (0, 0)) := heap_setCell_same (w := w2.drewN nr) HG2.out 4 (.int .i64 s.first)
  have kk3 : Kept (fun k => k = g) w2 ((w2.drewN nr).setCell ⟨g, 4, none⟩ (.int .i64 s.first)) := Kept.setCell (S := fun k => k = g) (p := ⟨g, 4, none⟩) ((Kept.refl _ _).drewN nr) (fun _ => rfl) _
  clear b0 b1 b2 b3 b4 b5 b6 q4
  generalize (w2.drewN nr).setCell ⟨g, 4, none⟩ (.int .i64 s.first) = w3 at *
  obtain ⟨b0, b1, b2, b3, b4, b5, b6⟩ := blk7 g3
  have HG3 := Lib.hid g3
  clear g3
  have hsn : ¬ ((s.size : Int) < 0) := by omega
  go_wp2_with fail
  refine (rlay0 g s.off none 0 w3).mono ?_
  rintro e w4 ⟨rfl, rfl⟩
  have kk1 : Kept (fun k => k = g) w w3 := (Kept.trans (⟨hk1.os, hk1.tape, hk1.output, hk1.size, hk1.block⟩ : Kept (fun k => k = g) w w1) kk2).trans kk3
  have hfin : Rg w3 g R' s := by
    refine ⟨ad1, m', HG3.out, H1.out, k2, k3, kk4, kk5, kk6, kk7, ?_⟩
    rcases K8.out with ⟨j8, j9, j10⟩ | ⟨r, cs, rfl, r2, r3, r4, r5, r6, r7⟩
    · exact .inl ⟨j8, j9, j10⟩
    · exact .inr ⟨r, cs, rfl, r2, r3, (kk2.trans kk3).heap r4 r3, r5, r6, r7⟩
  have HFIN := Lib.hid hfin
  clear hfin
  go_wp2
  go_ret
  exact ⟨rfl, R', hR', HFIN.out, kk1.mono (fun _ _ h => .inl h)⟩

theorem rfeed (g : Nat) (R : Option Nat) (s : RS) (ap : Option Addr) (n cap : Nat) (b : List UInt8) (w : World) (h : Rg w g R s) (hb : Holds w ap n (b.map bv)) (hncap : n ≤ cap) (hz : ap = none → cap = 0)
    (haway : ∀ ad, ap = some ad → 0 < n → ad.block ≠ g ∧ R ≠ some ad.block) (hfit : s.off + n ≤ 1125899906842624) :
    Calls Try.prog 12 #[.pointer (some ⟨g, 0, none⟩), .slice ap n cap] w fun e w' => e = .returned (.int .i64 0) ∧ ∃ R', (R' = R ∨ ∃ r, R' = some r ∧ w.heap.size ≤ r) ∧ Rg w' g R' (s.feed b) ∧ Kept (fun k => k = g ∨ R = some k) w w' := by
  cases ap with
  | none =>
    obtain rfl := hz rfl
    obtain rfl : n = 0 := by omega
    obtain rfl : b = [] := List.eq_nil_of_length_eq_zero (by simpa using hb.1)
    have hl : s.L.length ≤ s.size := by obtain ⟨_, _, _, _, h2, h3, _⟩ := h; omega
    rw [feed_nil hl]
    exact rfeed0 g R s w h
  | some ad => exact rfeed1 g R s ad n cap b w h hb hncap (haway ad rfl) hfit

set_option maxHeartbeats 800000 in
theorem rfeed_long (g : Nat) (R : Option Nat) (s : RS) (ap : Option Addr) (n cap : Nat) (w : World) (h : Rg w g R s) (hfit : 1125899906842624 < s.off + n) :
    Calls Try.prog 12 #[.pointer (some ⟨g, 0, none⟩), .slice ap n cap] w fun e w' => e = .returned (.int .i64 2) ∧ w = w' := by
  have hR := h
  obtain ⟨ad, m, h0, h1, h2, h3, h4, h5, h6, h7, h8⟩ := h
  obtain ⟨c0, c1, c2, c3, c4, c5, c6⟩ := blk7 h0
  clear h8 h1 h0
  have hfit' : (1125899906842624 : Int) - s.off < n := by omega
  go_enter Try.func12, Try.ntmps12
  go_wp2_with (go_at_call 29; refine (rmade_rg g R s _ hR).mono ?_; rintro e w1 ⟨rfl, rfl⟩)
  go_ret
  exact ⟨rfl, rfl⟩

theorem rfeed_nobody (p : Option Addr) (v : Value) (w : World) (hm : Calls Try.prog 29 #[.pointer p] w fun e w' => e = .returned (.bool false) ∧ w = w') :
    Calls Try.prog 12 #[.pointer p, v] w fun e w' => e = .returned (.int .i64 4) ∧ w = w' := by
  go_enter Try.func12, Try.ntmps12
  go_wp2_with (go_at_call 29; refine hm.mono ?_; rintro e w1 ⟨rfl, rfl⟩)
  go_ret
  exact ⟨rfl, rfl⟩

set_option maxHeartbeats 800000 in
theorem rnew (size id : Int) (w : World) (h1 : 1 ≤ size) (h2 : size ≤ 16777216) (hid : id ≠ 0) :
    Calls Try.prog 9 #[.int .i64 size, .int .u64 id] w fun e w' => e = .returned (.tuple #[.pointer (some ⟨w.heap.size, 0, none⟩), .int .i64 0]) ∧ Rg w' w.heap.size none ⟨id, 0, 0, 0, 0, size.toNat, []⟩ ∧ Kept NoBlock w w' := by
  have hid' : (id == 0) = false := by simpa using hid
  go_enter Try.func9, Try.ntmps9
  go_wp2
  go_ret2
  refine ⟨rfl, ⟨none, 0, ?_, rfl, Nat.le_refl _, by simp, by show 1 ≤ size.toNat; omega, by show size.toNat ≤ _; omega, by simp, by simp, .inl ⟨rfl, rfl, rfl⟩⟩, Kept.allocd _ _⟩
  rw [heap_alloc_same]
  have : ((size.toNat : Nat) : Int) = size := by omega
  simp [this]

set_option maxHeartbeats 800000 in
theorem rnew_bad (size id : Int) (w : World) (h : ¬ (1 ≤ size ∧ size ≤ 16777216 ∧ id ≠ 0)) :
    Calls Try.prog 9 #[.int .i64 size, .int .u64 id] w fun e w' => e = .returned (.tuple #[.pointer none, .int .i64 190]) ∧ w = w' := by
  by_cases c1 : size < 1
  · go_enter Try.func9, Try.ntmps9
    go_wp2
    go_ret2
    exact ⟨rfl, rfl⟩
  · by_cases c2 : 16777216 < size
    · go_enter Try.func9, Try.ntmps9
      go_wp2
      go_ret2
      exact ⟨rfl, rfl⟩
    · obtain rfl : id = 0 := by omega
      go_enter Try.func9, Try.ntmps9
      go_wp2
      go_ret2
      exact ⟨rfl, rfl⟩
end Go.Proofs.Ytlaahdjdlekopaa
