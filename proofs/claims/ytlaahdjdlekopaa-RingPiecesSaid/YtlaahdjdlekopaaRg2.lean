/- The ring of bytes: bytes laid into it. -/
import Derived.Test.YtlaahdjdlekopaaRg1
import Derived.DataElems
namespace Go.Proofs.Ytlaahdjdlekopaa
open Go.RowKit

theorem layL_nil {cs : List Value} {m p : Nat} : layL cs m p [] = cs := by simp [layL, putL]

set_option maxHeartbeats 800000 in
theorem rlay0 (g : Nat) (p : Int) (ap : Option Addr) (cap : Nat) (w : World) :
    Calls Try.prog 31 #[.pointer (some ⟨g, 0, none⟩), .int .i64 p, .slice ap 0 cap] w fun e w' => e = .returned (.tuple #[]) ∧ w = w' := by
  go_enter Try.func31, Try.ntmps31
  go_wp2
  exact bodyPost_ret (results_none rfl _ _ _) rfl ⟨rfl, rfl⟩

set_option maxHeartbeats 800000 in
theorem rlay1 (g r m p : Nat) (cs : Array Value) (ad : Addr) (n cap : Nat) (X : List Value) (w : World) (hc : w.cell? ⟨g, 6, none⟩ = some (.slice (some ⟨r, 0, none⟩) m m)) (hgr : g ≠ r)
    (hr : w.heap[r]? = some (.cells cs 5 (0, 0))) (hcs : cs.size = m) (hm : 0 < m) (hm' : m ≤ 16777216) (hp : p ≤ 1125899906842624) (hX : Holds w (some ad) n X) (hn : 0 < n) (hnm : n ≤ m) (hncap : n ≤ cap) (hone : ∀ v ∈ X, v.oneCell' = true) (hadr : ad.block ≠ r) :
    Calls Try.prog 31 #[.pointer (some ⟨g, 0, none⟩), .int .i64 p, .slice (some ad) n cap] w fun e w' => e = .returned (.tuple #[]) ∧ w'.heap[r]? = some (.cells (layL cs.toList m p X).toArray 5 (0, 0)) ∧ Kept (fun k => k = r) w w' := by
  obtain ⟨i0, hi, hz0, hz1, hz2⟩ := info_parts binfo
  have hsz1 : (Try.prog.info? 5).map (·.size) = some 1 := by rw [hi]; exact congrArg some hz1
  have hn0 : ¬ ((n : Int) = 0) := by omega
  have hm0 : ¬ (m = 0) := by omega
  obtain ⟨at', hat'⟩ : ∃ x, x = p % m := ⟨_, rfl⟩
  have hatm : at' < m := by rw [hat']; exact Nat.mod_lt _ hm
  have hat : (p : Int).tmod m = at' := by rw [hat']; rfl
  have HA := Lib.hid hat'
  clear hat'
  have hle : at' ≤ m := by omega
  have hne : ¬ (m = at') := by omega
  have hgl : g < w.heap.size := cell_lt hc
  obtain ⟨w1, hrun1, hG1, hk1⟩ := run_copy_into (P := Try.prog) (w := w) 22 22 3 5 Try.underlying22 hsz1 r at' (m - at') (m - at') (some ad) n cap _ 5 _ hr hX (by omega) hone
  obtain ⟨K1, hK1⟩ : ∃ x, x = min n (m - at') := ⟨_, rfl⟩
  rw [← hK1] at hrun1 hG1
  have hk12 : K1 ≤ n := by omega
  have hk13 : K1 ≤ cap := by omega
  have HK1 := Lib.hid hK1
  have HG1 := Lib.hid hG1
  have HCS := Lib.hid hcs
  clear hK1 hG1 hcs
  have hc1 := (World.cell?_of_block (w := w) (a := ⟨g, 6, none⟩) (hk1.block _ hgl (by simp only; omega))).trans hc
  go_enter Try.func31, Try.ntmps31
  go_wp2
  refine wp_plan 0 [1, 2, 3, 4, 5, 6] 7 [] [] (by kernel_rfl) (by kernel_rfl) ?_
  simp only [wpPlan, pick, List.filterMap_cons, List.filterMap_nil, List.getElem?_cons_succ, List.getElem?_cons_zero]
  repeat (quiet_step (fail))
  refine wpQuiet_nil ?_
  rintro _ ⟨n3, rfl⟩
  have hX1 := hX.kept hk1 (fun _ h => by cases h; exact hadr)
  obtain ⟨ap2, hap2⟩ : ∃ a2, a2 = if cap = K1 then some ad else some (ad.add K1) := ⟨_, rfl⟩
  have hX2 : Holds (w1.drewN n3) ap2 (n - K1) (X.drop K1) := by
    refine ⟨by rw [List.length_drop, hX.1], fun h => ⟨ad.add K1, by rw [hap2, if_neg (by omega)], fun j v hj => ?_⟩⟩
    rw [List.getElem?_drop] at hj
    obtain ⟨ad', e', hc'⟩ := hX1.2 hn
    cases e'
    rw [Addr.add_add]
    exact hc' _ _ hj
  obtain ⟨w2, hrun2, hG2, hk2⟩ := run_copy_into (P := Try.prog) (w := w1.drewN n3) 22 22 3 5 Try.underlying22 hsz1 r 0 m m ap2 (n - K1) (cap - K1) _ 5 _ HG1.out hX2 (by have := HCS.out; have := HK1.out; simp [hX.1]; omega) (fun v hv => hone v (List.mem_of_mem_drop hv))
  rw [← hap2]
  clear hap2
  go_wp2
  refine Halt.mk ?_
  go_wp2
  refine bodyPost_end (results_none rfl _ _ _) rfl ⟨rfl, ?_, (hk1.drewN n3).trans hk2⟩
  have q1 := HCS.out; have q2 := HK1.out; have q3 := HA.out; have q4 := hX.1
  rw [hG2]
  congr 2
  have e1 : min (n - K1) m = n - K1 := by omega
  have e2 : (X.drop K1).take (n - K1) = X.drop K1 := List.take_of_length_le (by rw [List.length_drop]; omega)
  rw [e1, e2]
  simp only [layL, putL, ← q3, q4, ← q2, List.length_take, List.length_drop, List.take_zero, List.nil_append, Nat.zero_add]
  rw [Nat.min_eq_left hk12]

theorem rlay (g r m p : Nat) (cs : Array Value) (ap : Option Addr) (n cap : Nat) (X : List Value) (w : World) (hc : w.cell? ⟨g, 6, none⟩ = some (.slice (some ⟨r, 0, none⟩) m m)) (hgr : g ≠ r)
    (hr : w.heap[r]? = some (.cells cs 5 (0, 0))) (hcs : cs.size = m) (hm : 0 < m) (hm' : m ≤ 16777216) (hp : p ≤ 1125899906842624) (hX : Holds w ap n X) (hnm : n ≤ m) (hncap : n ≤ cap) (hone : ∀ v ∈ X, v.oneCell' = true) (hadr : ∀ ad, ap = some ad → ad.block ≠ r) :
    Calls Try.prog 31 #[.pointer (some ⟨g, 0, none⟩), .int .i64 p, .slice ap n cap] w fun e w' => e = .returned (.tuple #[]) ∧ w'.heap[r]? = some (.cells (layL cs.toList m p X).toArray 5 (0, 0)) ∧ Kept (fun k => k = r) w w' := by
  by_cases h0 : n = 0
  · subst h0
    obtain rfl := List.eq_nil_of_length_eq_zero hX.1
    refine (rlay0 g p ap cap w).mono ?_
    rintro e w' ⟨rfl, rfl⟩
    exact ⟨rfl, by rw [layL_nil]; exact hr, Kept.refl _ _⟩
  · obtain ⟨ad, rfl, _⟩ := hX.2 (by omega)
    exact rlay1 g r m p cs ad n cap X w hc hgr hr hcs hm hm' hp hX (by omega) hnm hncap hone (hadr _ rfl)
end Go.Proofs.Ytlaahdjdlekopaa
