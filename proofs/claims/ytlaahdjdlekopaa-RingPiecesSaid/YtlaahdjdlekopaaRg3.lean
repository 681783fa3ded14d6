/- The ring of bytes: room for more; what is fed. -/
import Derived.Test.YtlaahdjdlekopaaRg2
namespace Go.Proofs.Ytlaahdjdlekopaa
open Go.RowKit

/-- The ring, with room for m bytes. -/
def RgM (w : World) (g : Nat) (R : Option Nat) (s : RS) (m : Nat) : Prop :=
  ∃ (ad : Option Addr),
    w.heap[g]? = some (.cells #[.int .u64 s.id, .int .i64 s.off, .int .u64 s.second, .int .i64 s.fork, .int .i64 s.first, .int .i64 s.size, .slice ad m m] 65 (0, 0)) ∧
    s.off = s.first + s.L.length ∧ s.L.length ≤ m ∧ m ≤ s.size ∧ 1 ≤ s.size ∧ s.size ≤ 16777216 ∧ s.off ≤ 1125899906842624 ∧ s.fork ≤ 1125899906842624 ∧
    ((m = 0 ∧ ad = none ∧ R = none) ∨ ∃ (r : Nat) (cs : Array Value), ad = some ⟨r, 0, none⟩ ∧ R = some r ∧ r ≠ g ∧ w.heap[r]? = some (.cells cs 5 (0, 0)) ∧ cs.size = m ∧ 0 < m ∧ Ring bv cs 0 m s.first s.L)

theorem RgM.rg {w : World} {g : Nat} {R : Option Nat} {s : RS} {m : Nat} (h : RgM w g R s m) : Rg w g R s := by
  obtain ⟨ad, h⟩ := h; exact ⟨ad, m, h⟩
theorem Rg.rgM {w : World} {g : Nat} {R : Option Nat} {s : RS} (h : Rg w g R s) : ∃ m, RgM w g R s m := by
  obtain ⟨ad, m, h⟩ := h; exact ⟨m, ad, h⟩

set_option maxHeartbeats 800000 in
theorem rroom_has (g : Nat) (R : Option Nat) (s : RS) (m nn : Nat) (w : World) (h : RgM w g R s m) (hn : min nn s.size ≤ m) (hnn : nn ≤ 1125899906842624) :
    Calls Try.prog 30 #[.pointer (some ⟨g, 0, none⟩), .int .i64 nn] w fun e w' => e = .returned (.tuple #[]) ∧ w = w' := by
  obtain ⟨ad, h0, h1, h2, h3, h4, h5, h6, h7, h8⟩ := h
  obtain ⟨c0, c1, c2, c3, c4, c5, c6⟩ := blk7 h0
  clear h0 h1 h8
  obtain ⟨n0, hn0⟩ : ∃ n0, n0 = min nn s.size := ⟨_, rfl⟩
  have hmin : (if s.size < nn then (s.size : Int) else (nn : Int)) = n0 := by rw [hn0]; split <;> omega
  have hlt : (n0 : Int) ≤ m := by omega
  clear hn0
  go_enter Try.func30, Try.ntmps30
  go_wp2
  exact bodyPost_ret (results_none rfl _ _ _) rfl ⟨rfl, rfl⟩

set_option maxHeartbeats 800000 in
theorem rroom_grow (g : Nat) (R : Option Nat) (s : RS) (m nn : Nat) (w : World) (h : RgM w g R s m) (hn : m < min nn s.size) (hLn : s.L.length ≤ nn) (hnn : nn ≤ 1125899906842624) :
    Calls Try.prog 30 #[.pointer (some ⟨g, 0, none⟩), .int .i64 nn] w fun e w' => e = .returned (.tuple #[]) ∧ ∃ r m', w.heap.size ≤ r ∧ RgM w' g (some r) s m' ∧ min nn s.size ≤ m' ∧ Kept (fun k => k = g) w w' := by
  have hR := h
  obtain ⟨ad, h0, h1, h2, h3, h4, h5, h6, h7, h8⟩ := h
  obtain ⟨c0, c1, c2, c3, c4, c5, c6⟩ := blk7 h0
  clear h8
  obtain ⟨i0, hi, hz0, hz1, hz2⟩ := info_parts binfo
  obtain ⟨n0, hn0⟩ : ∃ n0, n0 = min nn s.size := ⟨_, rfl⟩
  have hmin : (if s.size < nn then (s.size : Int) else (nn : Int)) = n0 := by rw [hn0]; split <;> omega
  have hlt : ¬ ((n0 : Int) ≤ m) := by omega
  have HN0 := Lib.hid hn0
  have H1 := Lib.hid h1
  have hmN : m < n0 := by omega
  have hn0s : n0 ≤ s.size := by omega
  have hg0 := h0
  obtain ⟨n2, hn2⟩ : ∃ n2, n2 = max n0 (2 * m) := ⟨_, rfl⟩
  have hmax : (if (n0 : Int) < 2 * (m : Int) then 2 * (m : Int) else (n0 : Int)) = n2 := by rw [hn2]; split <;> omega
  obtain ⟨N, hN⟩ : ∃ N, N = min n2 s.size := ⟨_, rfl⟩
  have hmin2 : (if s.size < n2 then (s.size : Int) else (n2 : Int)) = N := by rw [hN]; split <;> omega
  have hN1 : n0 ≤ N := by omega
  have hN2 : N ≤ s.size := by omega
  have hN3 : N ≤ 16777216 := by omega
  clear hn0 h1 hn h0 hn2 hN
  go_enter Try.func30, Try.ntmps30
  go_wp2
  go_quiet (fail)
  have hbyt : ∀ w1 : World, Rg w1 g R s → Calls Try.prog 32 #[.pointer (some ⟨g, 0, none⟩), .int .i64 s.first] w1 fun e w' => ∃ ap cap, e = .returned (.slice ap s.L.length cap) ∧ Holds w' ap s.L.length (s.L.map bv) ∧ (∀ ad, ap = some ad → ad.block = w1.heap.size ∧ w1.heap.size < w'.heap.size) ∧ s.L.length ≤ cap ∧ Kept NoBlock w1 w' := fun w1 h => by
    refine (rbytes g R s 0 s.first w1 h (Nat.zero_le _) rfl).mono ?_
    rintro e w' ⟨ap, cap, rfl, h1, h2, h3, h4, h5⟩
    exact ⟨ap, cap, rfl, h1, h2, h4, h5⟩
  have hgl := hR.rg.lt
  go_wp2_with (first
    | (go_at_call 32; refine (hbyt (w.drewN nq) hR.rg).mono ?_; rintro e w1 ⟨ap, cap, rfl, hh1, hap1, hlc1, hk1⟩; have hg1 := hk1.heap (a := w.drewN nq) hg0 (fun h => h); have d4 := (blk7 hg1).2.2.2.2.1)
    | (refine wpList_make_full _ rfl (.tmp 38) (.tmp 38) 22 rfl w.heap.size 5 i0 (.int .u8 0) 1 Try.underlying22 hi hz0 hz1 _ _ _ _ N rfl rfl (by omega) (by omega) (by rw [hz2]; omega) (by unfold maxLen; omega) hk1.size ?_; intro w2 hown2 hgr2; have hk2 : Kept NoBlock w1 w2 := (Kept.refl NoBlock w1).grown hgr2 (fun _ h => by cases h); rw [madeBytes] at hown2; have hz2' := owned_row hown2; clear hown2; have hg2 := hk2.heap hg1 (fun h => h); have f6 := frozenB hg2 6; obtain ⟨e0, e1, e2, e3, e4, e5, e6⟩ := blk7 hg2; have hS1 : w.heap.size ≤ w1.heap.size := hk1.size; have hS2 := hk2.size))
  have k2 : Kept (fun k => k = g) w1 (w2.setCell ⟨g, 6, none⟩ (.slice (some ⟨w1.heap.size, 0, none⟩) N N)) := Kept.setCell (S := fun k => k = g) (p := ⟨g, 6, none⟩) (hk2.mono (fun _ _ h => h.elim)) (fun _ => rfl) _
  have hcs := heap_setCell_same hg2 6 (.slice (some ⟨w1.heap.size, 0, none⟩) N N)
  have hrs := (heap_setCell_ne (w := w2) ⟨g, 6, none⟩ (.slice (some ⟨w1.heap.size, 0, none⟩) N N) (k := w1.heap.size) (by simp only; omega)).trans hz2'
  have hap2 : ∀ ad', ap = some ad' → ad'.block ≠ g ∧ ad'.block ≠ w1.heap.size := fun ad' h => by
    have h1 := hap1 ad' h
    have h2 : ad'.block = w.heap.size := h1.1
    have h3 : w.heap.size < w1.heap.size := h1.2
    omega
  have hhs := hh1.kept k2 (fun ad' h => (hap2 ad' h).1)
  generalize w2.setCell ⟨g, 6, none⟩ (.slice (some ⟨w1.heap.size, 0, none⟩) N N) = ws at *
  have hcs' : ws.heap[g]? = some (.cells #[.int .u64 s.id, .int .i64 s.off, .int .u64 s.second, .int .i64 s.fork, .int .i64 s.first, .int .i64 s.size, .slice (some ⟨w1.heap.size, 0, none⟩) N N] 65 (0, 0)) := hcs
  have hoff := H1.out
  refine (rlay g w1.heap.size N s.first ((List.replicate N (0 : UInt8)).map bv).toArray ap s.L.length cap (s.L.map bv) ws (blk7 hcs').2.2.2.2.2.2 (by omega) hrs (by simp) (by omega) hN3 (by omega) hhs (by omega) hlc1 (bv_one _) (fun ad' h => (hap2 ad' h).2)).mono ?_
  rintro e w4 ⟨rfl, hr4, hk4⟩
  go_wp2
  refine bodyPost_end (results_none rfl _ _ _) rfl ⟨rfl, w1.heap.size, N, hS1, ⟨some ⟨w1.heap.size, 0, none⟩, hk4.heap hcs' (by omega), hoff, by omega, hN2, h4, h5, h6, h7, .inr ⟨w1.heap.size, _, rfl, rfl, by omega, hr4, ?_, by omega, ?_⟩⟩, by have := HN0.out; omega, ?_⟩
  · rw [List.size_toArray]; exact layL_length (by omega) (by simp) (by simp; omega)
  · have hz : Ring bv ((List.replicate N (0 : UInt8)).map bv).toArray 0 N s.first [] := ⟨by simp, fun i hi => ⟨0, by simp [hi]⟩, fun i h => absurd h (by simp)⟩
    have := hz.lay bv (by omega) (by simp) (b := s.L) (by omega) 0 (by simp; omega)
    simpa using this
  · have kA : Kept (fun k => k = g) w w1 := Kept.mono (S := NoBlock) ⟨hk1.os, hk1.tape, hk1.output, hk1.size, hk1.block⟩ (fun _ _ h => h.elim)
    exact (kA.trans k2).trans' hk4 (fun i hi h => by omega)

theorem rroom (g : Nat) (R : Option Nat) (s : RS) (nn : Nat) (w : World) (h : Rg w g R s) (hLn : s.L.length ≤ nn) (hnn : nn ≤ 1125899906842624) :
    Calls Try.prog 30 #[.pointer (some ⟨g, 0, none⟩), .int .i64 nn] w fun e w' => e = .returned (.tuple #[]) ∧ ∃ R' m', (R' = R ∨ ∃ r, R' = some r ∧ w.heap.size ≤ r) ∧ RgM w' g R' s m' ∧ min nn s.size ≤ m' ∧ Kept (fun k => k = g) w w' := by
  obtain ⟨m, hm⟩ := h.rgM
  by_cases hle : min nn s.size ≤ m
  · refine (rroom_has g R s m nn w hm hle hnn).mono ?_
    rintro e w' ⟨rfl, rfl⟩
    exact ⟨rfl, R, m, .inl rfl, hm, hle, Kept.refl _ _⟩
  · refine (rroom_grow g R s m nn w hm (by omega) hLn hnn).mono ?_
    rintro e w' ⟨rfl, r, m', h1, h2, h3, h4⟩
    exact ⟨rfl, some r, m', .inr ⟨r, rfl, h1⟩, h2, h3, h4⟩
end Go.Proofs.Ytlaahdjdlekopaa
