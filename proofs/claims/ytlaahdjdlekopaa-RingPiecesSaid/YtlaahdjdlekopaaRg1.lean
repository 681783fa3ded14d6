/- The ring of bytes: how it lies in memory; what it answers without a change. -/
import Derived.Test.YtlaahdjdlekopaaProg
import Derived.Test.YtlaahdjdlekopaaPlan
import Derived.Test.YtlaahdjdlekopaaBase
import Derived.Test.YtlaahdjdlekopaaLay
import Derived.Test.YtlaahdjdlekopaaBytes
import Derived.BigQuiet
import Derived.WalkSpells
import Derived.KernelRfl
import Derived.Lib.Hide
import Derived.Laws.CopyOwn
namespace Go.Proofs.Ytlaahdjdlekopaa
open Go.RowKit

/-- What a ring knows: its history, the window's first offset, how much it keeps, the window's bytes. -/
structure RS where
  id : Int
  off : Nat
  second : Int
  fork : Nat
  first : Nat
  size : Nat
  L : List UInt8

/-- The ring at block g is in that state; its bytes lie in block R. -/
def Rg (w : World) (g : Nat) (R : Option Nat) (s : RS) : Prop :=
  ∃ (ad : Option Addr) (m : Nat),
    w.heap[g]? = some (.cells #[.int .u64 s.id, .int .i64 s.off, .int .u64 s.second, .int .i64 s.fork, .int .i64 s.first, .int .i64 s.size, .slice ad m m] 65 (0, 0)) ∧
    s.off = s.first + s.L.length ∧ s.L.length ≤ m ∧ m ≤ s.size ∧ 1 ≤ s.size ∧ s.size ≤ 16777216 ∧ s.off ≤ 1125899906842624 ∧ s.fork ≤ 1125899906842624 ∧
    ((m = 0 ∧ ad = none ∧ R = none) ∨ ∃ (r : Nat) (cs : Array Value), ad = some ⟨r, 0, none⟩ ∧ R = some r ∧ r ≠ g ∧ w.heap[r]? = some (.cells cs 5 (0, 0)) ∧ cs.size = m ∧ 0 < m ∧ Ring bv cs 0 m s.first s.L)

theorem Rg.lt {w : World} {g : Nat} {R : Option Nat} {s : RS} (h : Rg w g R s) : g < w.heap.size := by
  obtain ⟨ad, m, h0, _⟩ := h; exact lt_of_heap h0
theorem Rg.ring {w : World} {g : Nat} {R : Option Nat} {s : RS} (h : Rg w g R s) {r : Nat} (hr : R = some r) : r < w.heap.size ∧ r ≠ g := by
  obtain ⟨ad, m, h0, _, _, _, _, _, _, _, h4⟩ := h
  rcases h4 with ⟨_, _, h4⟩ | ⟨r', cs, e1, e2, e3, e4, rest⟩
  · rw [hr] at h4; cases h4
  · rw [hr] at e2; cases e2; exact ⟨lt_of_heap e4, e3⟩
theorem Rg.kept {S : Nat → Prop} {w w' : World} {g : Nat} {R : Option Nat} {s : RS} (h : Rg w g R s) (hk : Kept S w w') (hg : ¬ S g) (hR : ∀ r, R = some r → ¬ S r) : Rg w' g R s := by
  obtain ⟨ad, m, h0, h1, h2, h3, h4, h5, h6, h7, h8⟩ := h
  refine ⟨ad, m, hk.heap h0 hg, h1, h2, h3, h4, h5, h6, h7, ?_⟩
  rcases h8 with h8 | ⟨r, cs, e1, e2, e3, e4, rest⟩
  · exact .inl h8
  · exact .inr ⟨r, cs, e1, e2, e3, hk.heap e4 (hR r e2), rest⟩
theorem Rg.keptNo {w w' : World} {g : Nat} {R : Option Nat} {s : RS} (h : Rg w g R s) (hk : Kept NoBlock w w') : Rg w' g R s := h.kept hk (fun h => h) (fun _ _ h => h)

theorem blk7 {w : World} {g : Nat} {c0 c1 c2 c3 c4 c5 c6 : Value} {T : TypeId} (h : w.heap[g]? = some (.cells #[c0, c1, c2, c3, c4, c5, c6] T (0, 0))) :
    w.cell? ⟨g, 0, none⟩ = some c0 ∧ w.cell? ⟨g, 1, none⟩ = some c1 ∧ w.cell? ⟨g, 2, none⟩ = some c2 ∧ w.cell? ⟨g, 3, none⟩ = some c3 ∧ w.cell? ⟨g, 4, none⟩ = some c4 ∧ w.cell? ⟨g, 5, none⟩ = some c5 ∧ w.cell? ⟨g, 6, none⟩ = some c6 :=
  ⟨cellB h rfl, cellB h rfl, cellB h rfl, cellB h rfl, cellB h rfl, cellB h rfl, cellB h rfl⟩

theorem Holds.kept {S : Nat → Prop} {w w' : World} {ap : Option Addr} {n : Nat} {xs : List Value} (h : Holds w ap n xs) (hk : Kept S w w') (hS : ∀ ad, ap = some ad → ¬ S ad.block) : Holds w' ap n xs := by
  refine ⟨h.1, fun hn => ?_⟩
  obtain ⟨ad, rfl, hc⟩ := h.2 hn
  refine ⟨ad, rfl, fun j v hj => ?_⟩
  have hcj := hc j v hj
  have hbl : (ad.add j).block = ad.block := by unfold Addr.add; split <;> rfl
  rw [World.cell?_of_block (w := w) (hk.block _ (cell_lt hcj) (by rw [hbl]; exact hS ad rfl))]
  exact hcj

theorem rmade (g : Nat) (n : Int) (w : World) (h : w.cell? ⟨g, 5, none⟩ = some (.int .i64 n)) (hn : 0 < n) :
    Calls Try.prog 29 #[.pointer (some ⟨g, 0, none⟩)] w fun e w' => e = .returned (.bool true) ∧ w = w' := by
  go_enter Try.func29, Try.ntmps29
  go_wp2
  go_ret
  exact ⟨rfl, rfl⟩

theorem rmade_zero (g : Nat) (w : World) (h : w.cell? ⟨g, 5, none⟩ = some (.int .i64 0)) :
    Calls Try.prog 29 #[.pointer (some ⟨g, 0, none⟩)] w fun e w' => e = .returned (.bool false) ∧ w = w' := by
  go_enter Try.func29, Try.ntmps29
  go_wp2
  go_ret
  exact ⟨rfl, rfl⟩

theorem rmade_nil (w : World) :
    Calls Try.prog 29 #[.pointer none] w fun e w' => e = .returned (.bool false) ∧ w = w' := by
  go_enter Try.func29, Try.ntmps29
  go_wp2
  go_ret
  exact ⟨rfl, rfl⟩

theorem rmade_rg (g : Nat) (R : Option Nat) (s : RS) (w : World) (h : Rg w g R s) :
    Calls Try.prog 29 #[.pointer (some ⟨g, 0, none⟩)] w fun e w' => e = .returned (.bool true) ∧ w = w' := by
  obtain ⟨ad, m, h0, h1, h2, h3, h4, _⟩ := h
  exact rmade g s.size w (blk7 h0).2.2.2.2.2.1 (by omega)

theorem binfo : (Try.prog.info? 5).map (fun i => (i.zero, i.size, i.bytes)) = some (some (.int .u8 0), 1, 1) := by kernel_rfl

theorem madeBytes (n : Nat) : madeCells (Value.cells (.int .u8 0)) (n * 1) = ((List.replicate n (0 : UInt8)).map bv).toArray := by
  apply Array.ext'
  apply List.ext_getElem?
  intro i
  by_cases h : i < n
  · simp [madeCells, Value.cells, h, Nat.mod_one, bv]
  · simp [madeCells, Value.cells, h]

set_option maxHeartbeats 800000 in
theorem rbytes0 (g : Nat) (R : Option Nat) (s : RS) (k : Int) (w : World) (h : Rg w g R s) (hk : k = s.off) :
    Calls Try.prog 32 #[.pointer (some ⟨g, 0, none⟩), .int .i64 k] w fun e w' => e = .returned (.slice none 0 0) ∧ w = w' := by
  obtain ⟨ad, m, h0, h1, h2, h3, h4, h5, h6, h7, h8⟩ := h
  obtain ⟨c0, c1, c2, c3, c4, c5, c6⟩ := blk7 h0
  subst hk
  clear h0 h1 h2 h3 h4 h5 h7 h8 c0 c2 c3 c4 c5 c6
  go_enter Try.func32, Try.ntmps32
  go_wp2
  go_ret
  exact ⟨rfl, rfl⟩

set_option maxHeartbeats 800000 in
theorem rbytes1 (g : Nat) (R : Option Nat) (s : RS) (j N kk : Nat) (w : World) (h : Rg w g R s) (hN0 : 0 < N) (hN' : s.L.length = j + N) (hk' : s.first + j = kk) :
    Calls Try.prog 32 #[.pointer (some ⟨g, 0, none⟩), .int .i64 kk] w fun e w' => e = .returned (.slice (some ⟨w.heap.size, 0, none⟩) N N) ∧ w'.heap[w.heap.size]? = some (.cells ((s.L.drop j).map bv).toArray 5 (0, 0)) ∧ Kept NoBlock w w' := by
  have hR := h
  obtain ⟨ad, m, h0, h1', h2, h3, h4, h5, h6, h7, h8⟩ := h
  obtain ⟨c0, c1, c2, c3, c4, c5, c6⟩ := blk7 h0
  rcases h8 with ⟨h8, _⟩ | ⟨r, cs, rfl, e2, e3, e4, e5, e6, e7⟩
  · omega
  obtain ⟨i0, hi, hz0, hz1, hz2⟩ := info_parts binfo
  have hsub : (s.off : Int) - kk = N := by omega
  have hNz : ¬ ((N : Int) = 0) := by omega
  have hNm : N ≤ m := by omega
  have hNl : N ≤ 16777216 := by omega
  have hkk : kk ≤ 1125899906842624 := by omega
  have HN := Lib.hid hN'
  have HK := Lib.hid hk'
  have H1 := Lib.hid h1'
  clear hN' hk' h1'
  obtain ⟨at', hat'⟩ : ∃ x, x = kk % m := ⟨_, rfl⟩
  have hatm : at' < m := by rw [hat']; exact Nat.mod_lt _ e6
  have HA := Lib.hid hat'
  clear hat'
  go_enter Try.func32, Try.ntmps32
  go_wp2_with (refine wpList_make_full _ rfl (.tmp 17) (.tmp 17) 22 rfl w.heap.size 5 i0 (.int .u8 0) 1 Try.underlying22 hi hz0 hz1 _ _ _ _ N rfl rfl (by omega) (by omega) (by rw [hz2]; omega) (by unfold maxLen; omega) (Nat.le_refl _) ?_; intro w2 hown2 hgr2; have hk2 : Kept NoBlock w w2 := (Kept.refl NoBlock w).grown hgr2 (fun _ h => by cases h); rw [madeBytes] at hown2; have hg2 := owned_row hown2; clear hown2; have hc2 := fun (i : Nat) (v : Value) (hv : w.cell? ⟨g, i, none⟩ = some v) => (World.cell?_of_block (w := w) (a := ⟨g, i, none⟩) (hk2.block _ (lt_of_heap h0) (fun h => h))).trans hv; have d1 := hc2 _ _ c1; have d6 := hc2 _ _ c6; clear hc2)
  have hS2 := hk2.size
  have hgl := lt_of_heap h0
  have hrl := lt_of_heap e4
  have e4' := hk2.heap e4 (fun h => h)
  have hat : (kk : Int).tmod m = at' := by rw [HA.out]; rfl
  have hm0 : ¬ (m = 0) := by omega
  have hle : at' ≤ m := by omega
  have hne : ¬ (m = at') := by omega
  refine wp_plan 0 [1, 2, 3, 4, 5, 6, 7, 8, 9, 10, 11, 12] 13 [] [14] (by kernel_rfl) (by kernel_rfl) ?_
  simp only [wpPlan, pick, List.filterMap_cons, List.filterMap_nil, List.getElem?_cons_succ, List.getElem?_cons_zero]
  repeat (quiet_step (fail))
  refine wpQuiet_nil ?_
  rintro _ ⟨n1, rfl⟩
  have hsz1 : (Try.prog.info? 5).map (·.size) = some 1 := by rw [hi]; exact congrArg some hz1
  have hX1 : Holds (w2.drewN n1) (some ⟨r, at', none⟩) (m - at') (cs.toList.drop at') := by
    refine ⟨by rw [List.length_drop, Array.length_toList]; omega, fun _ => ⟨_, rfl, fun j v hj => ?_⟩⟩
    rw [addr_add]
    exact cellB e4' (by rw [List.getElem?_drop, Array.getElem?_toList] at hj; exact hj)
  have hone : ∀ v ∈ cs.toList, v.oneCell' = true := by
    intro v hv
    obtain ⟨i, hi, rfl⟩ := List.mem_iff_getElem.1 hv
    obtain ⟨u, hu⟩ := e7.typed i (by rw [Array.length_toList] at hi; omega)
    rw [Nat.zero_add] at hu
    rw [Array.getElem_toList, (Array.getElem?_eq_some_iff.1 hu).2]; rfl
  obtain ⟨w3, hrun3, hG3, hk3⟩ := run_copy_into (P := Try.prog) (w := w2.drewN n1) 22 22 3 5 Try.underlying22 hsz1 w.heap.size 0 N N (some ⟨r, at', none⟩) (m - at') (m - at') _ 5 _ hg2 hX1 (by simp; omega) (fun v hv => hone v (List.mem_of_mem_drop hv))
  obtain ⟨K1, hK1⟩ : ∃ x, x = min (m - at') N := ⟨_, rfl⟩
  rw [← hK1] at hrun3 hG3
  have hk12 : K1 ≤ N := by omega
  have hk13 : N ≠ K1 → ¬ (N = K1) := fun h => h
  have HK1 := Lib.hid hK1
  have HG3 := Lib.hid hG3
  have d13 := (World.cell?_of_block (w := w2.drewN n1) (a := ⟨g, 1, none⟩) (hk3.block _ (by show g < w2.heap.size; omega) (by simp only; omega))).trans d1
  have d63 := (World.cell?_of_block (w := w2.drewN n1) (a := ⟨g, 6, none⟩) (hk3.block _ (by show g < w2.heap.size; omega) (by simp only; omega))).trans d6
  have hS3 := hk3.size
  clear hK1 hG3
  go_wp2
  refine Halt.mk ?_
  repeat (quiet_step (fail))
  refine wpQuiet_nil ?_
  intro n2
  go_wp2_with fail
  obtain ⟨o', ho'⟩ : ∃ o', o' = if N = K1 then 0 else K1 := ⟨_, rfl⟩
  have hif : (if N = K1 then (some ⟨w.heap.size, 0, none⟩ : Option Addr) else some ⟨w.heap.size, K1, none⟩) = some ⟨w.heap.size, o', none⟩ := by rw [ho']; split <;> rfl
  have HO := Lib.hid ho'
  clear ho'
  have hr3 := hk3.heap (g := r) e4' (by omega)
  refine wp_plan 0 [1, 2, 3, 4, 5, 6] 7 [] [] (by kernel_rfl) (by kernel_rfl) ?_
  simp only [wpPlan, pick, List.filterMap_cons, List.filterMap_nil, List.getElem?_cons_succ, List.getElem?_cons_zero]
  repeat (quiet_step (fail))
  refine wpQuiet_nil ?_
  rintro _ ⟨n3, rfl⟩
  have hX2 : Holds (w3.drewN (n2 + n3)) (some ⟨r, 0, none⟩) m cs.toList := by
    refine ⟨by rw [Array.length_toList]; exact e5, fun _ => ⟨_, rfl, fun j v hj => ?_⟩⟩
    rw [addr_add]
    exact cellB hr3 (by rw [Nat.zero_add, ← Array.getElem?_toList]; exact hj)
  obtain ⟨w4, hrun4, hG4, hk4⟩ := run_copy_into (P := Try.prog) (w := w3.drewN (n2 + n3)) 22 22 3 5 Try.underlying22 hsz1 w.heap.size o' (N - K1) (N - K1) (some ⟨r, 0, none⟩) m m _ 5 _ HG3.out hX2 (by have q1 := HO.out; have q2 := HK1.out; simp; split at q1 <;> omega) hone
  go_wp2
  refine Halt.mk ?_
  go_wp2
  go_ret
  have q0 := HN.out; have q1 := HO.out; have q2 := HK1.out; have q3 := HK.out; have q4 := HA.out
  have hr4 := e7.bytes bv e6 e5 h2 j (by omega)
  rw [q3, ← q4, show s.L.length - j = N by omega, Nat.min_comm, ← q2] at hr4
  refine ⟨rfl, ?_, ((hk2.drewN n1).trans' hk3 (fun i hi h => absurd h (by omega))).drewN (n2 + n3) |>.trans' hk4 (fun i hi h => absurd h (by omega))⟩
  rw [← hr4, hG4, two_copies _ _ N K1 at' m o' (by simp) (by rw [Array.length_toList]; exact e5) (by omega) q2 hNm q1]

theorem rbytes (g : Nat) (R : Option Nat) (s : RS) (j kk : Nat) (w : World) (h : Rg w g R s) (hj : j ≤ s.L.length) (hk : s.first + j = kk) :
    Calls Try.prog 32 #[.pointer (some ⟨g, 0, none⟩), .int .i64 kk] w fun e w' => ∃ ap cap, e = .returned (.slice ap (s.L.length - j) cap) ∧ Holds w' ap (s.L.length - j) ((s.L.drop j).map bv) ∧ (∀ ad, ap = some ad → ad.block = w.heap.size ∧ w.heap.size < w'.heap.size) ∧ (ap = none → cap = 0) ∧ s.L.length - j ≤ cap ∧ Kept NoBlock w w' := by
  by_cases h0 : j = s.L.length
  · refine (rbytes0 g R s kk w h (by obtain ⟨_, _, _, h1, _⟩ := h; omega)).mono ?_
    rintro e w' ⟨rfl, rfl⟩
    subst h0
    exact ⟨none, 0, by simp, ⟨by simp, fun h => by omega⟩, (fun _ h => by cases h), fun _ => rfl, by omega, Kept.refl _ _⟩
  · refine (rbytes1 g R s j (s.L.length - j) kk w h (by omega) (by omega) hk).mono ?_
    rintro e w' ⟨rfl, hc, hk⟩
    refine ⟨_, _, rfl, ?_, (fun _ h => by cases h; exact ⟨rfl, lt_of_heap hc⟩), (fun h => by cases h), Nat.le_refl _, hk⟩
    refine ⟨by simp, fun _ => ⟨_, rfl, fun i v hi => ?_⟩⟩
    rw [addr_add]
    exact cellB hc (by simpa using hi)
end Go.Proofs.Ytlaahdjdlekopaa
