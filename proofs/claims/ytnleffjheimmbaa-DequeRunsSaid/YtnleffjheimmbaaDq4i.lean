/- The deque of ints: room for one more; both ends. -/
import Derived.Test.YtnleffjheimmbaaDq3i
import Derived.Laws.CopyOwn
namespace Go.Proofs.Ytnleffjheimmbaa
open Go.RowKit

/-- The deque has room for one more. -/
def iRoom (w : World) (g : Nat) (r : Nat) (L : List Int) : Prop :=
  ∃ (m c f o : Nat) (cs : Array Value), w.heap[g]? = some (.cells #[.slice (some ⟨r, o, none⟩) m c, .int .i64 f, .int .i64 L.length] 35 (0, 0)) ∧
    L.length < m ∧ m ≤ 4000000 ∧ r ≠ g ∧ w.heap[r]? = some (.cells cs 3 (0, 0)) ∧ f < m ∧ Ring (fun u => (.int .i64 u : Value)) cs o m f L

theorem imadeCells_get (n i : Nat) (h : i < n) : (madeCells (Value.cells (.int .i64 0)) (n * 1))[i]? = some (.int .i64 0) := by
  simp [madeCells, Value.cells, h, Nat.mod_one]

theorem ifresh_row (L : List Int) (N : Nat) (h : L.length ≤ N) (_hN : 0 < N) :
    let cs := (L.map (fun x => (.int .i64 x : Value)) ++ ((madeCells (Value.cells (.int .i64 0)) (N * 1)).toList).drop L.length).toArray
    Ring (fun u => (.int .i64 u : Value)) cs 0 N 0 L := by
  intro cs
  have hz : ∀ i, i < N → ((madeCells (Value.cells (.int .i64 0)) (N * 1)).toList)[i]? = some (.int .i64 0) := fun i hi => by
    have := imadeCells_get N i hi
    rw [← Array.getElem?_toList] at this; exact this
  have hzl : ((madeCells (Value.cells (.int .i64 0)) (N * 1)).toList).length = N := by simp [madeCells]
  have get : ∀ i, cs[i]? = if i < L.length then (L.map (fun x => (.int .i64 x : Value)))[i]? else ((madeCells (Value.cells (.int .i64 0)) (N * 1)).toList)[i]? := fun i => by
    simp only [cs, List.getElem?_toArray, List.getElem?_append, List.length_map]
    split
    · rfl
    · rw [List.getElem?_drop]; congr 1; omega
  refine ⟨?_, fun i hi => ?_, fun i hi => ?_⟩
  · simp only [cs, List.size_toArray, List.length_append, List.length_map, List.length_drop, hzl]; omega
  · rw [Nat.zero_add, get]
    split
    · rename_i h; exact ⟨L[i], by simp [h]⟩
    · exact ⟨_, hz i hi⟩
  · rw [Nat.zero_add, Nat.zero_add, Nat.mod_eq_of_lt (by omega), get, if_pos hi]; simp [hi]

set_option maxHeartbeats 800000 in
theorem igrow (g : Nat) (R : Option Nat) (L : List Int) (w : World) (h : iDq w g R L) (hl : L.length ≤ 1000000) :
    Calls Try.prog 36 #[.pointer (some ⟨g, 0, none⟩)] w fun e w' => e = .returned (.tuple #[]) ∧ ∃ r, iRoom w' g r L ∧ (R = some r ∨ w.heap.size ≤ r) ∧ Kept (fun k => k = g) w w' := by
  have hD := h
  obtain ⟨ad, m, c, f, h0, h1, h2, h3, h4⟩ := h
  obtain ⟨c0, c1, c2, f0, f1, f2⟩ := blk3 h0
  by_cases hlt : L.length < m
  · have hlt' : (L.length : Int) < m := by omega
    go_enter Try.func36, Try.ntmps36
    go_wp2_with fail
    go_quiet (fail)
    go_wp2
    refine bodyPost_ret (results_none rfl _ _ _) rfl ⟨rfl, ?_⟩
    rcases h4 with ⟨h4, _⟩ | ⟨r, o, cs, e1, e2, e3, e4, e5, e6⟩
    · omega
    · subst e1
      exact ⟨r, ⟨m, c, f, o, cs, h0, hlt, h2, e3, e4, e5, e6⟩, .inl e2, (Kept.refl _ _).drewN _⟩
  · have hlt' : ¬ (L.length : Int) < m := by omega
    obtain ⟨i0, hi, hz0, hz1, hz2⟩ := info_parts iinfoE
    have hbytes : i0.bytes ≤ 16 := by omega
    go_enter Try.func36, Try.ntmps36
    go_wp2_with fail
    go_quiet (fail)
    obtain ⟨N, hN⟩ : ∃ N, N = max 4 (2 * L.length) := ⟨_, rfl⟩
    have HN := Lib.hid hN
    have hN1 : 4 ≤ N := by omega
    have hN2 : 2 * L.length ≤ N := by omega
    have hN3 : N ≤ 2000004 := by omega
    clear hN
    obtain ⟨X, hX⟩ : ∃ X : List Value, X = L.map (.int .i64 ·) := ⟨_, rfl⟩
    have hXl : X.length = L.length := by rw [hX]; simp
    obtain ⟨Z, hZ⟩ : ∃ Z : List Value, Z = (madeCells (Value.cells (.int .i64 0)) (N * 1)).toList := ⟨_, rfl⟩
    have HXl := Lib.hid hXl
    have HX := Lib.hid hX
    have HZ := Lib.hid hZ
    have hgl := hD.lt
    have hlist : ∀ w2 : World, iDq w2 g R L → Calls Try.prog 32 #[.pointer (some ⟨g, 0, none⟩)] w2 fun e W' => ∃ ap cap, e = .returned (.slice ap L.length cap) ∧ Holds W' ap L.length X ∧ Below w2.heap.size w2 W' := fun w2 hd => by
      refine (ilist_dq g R L w2 hd).mono ?_
      rintro e W' ⟨v, rfl, hown, _, hb⟩
      obtain ⟨ap, cap, rfl, _⟩ := ownsRow_form hown
      exact ⟨ap, cap, rfl, by rw [hX]; exact ownsRow_holds hown, hb⟩
    clear hX hXl hZ
    go_wp2_with (first
      | (refine wpList_make_full _ rfl (.tmp 18) (.tmp 18) 33 rfl w.heap.size 3 i0 (.int .i64 0) 1 Try.underlying33 hi hz0 hz1 _ _ _ _ N rfl rfl (by have := HN.out; omega) (by have := HN.out; omega) (by rw [hz2]; omega) (by unfold maxLen; omega) (Nat.le_refl _) ?_; intro w2 hown2 hgr2; have hk2 : Kept NoBlock w w2 := ((Kept.refl NoBlock w).drewN nq).grown hgr2 (fun _ h => by cases h); have hD2 : iDq w2 g R L := hD.kept hk2 (fun h => h) (fun _ _ h => h); rw [← HZ.out] at hown2)
      | (go_at_call 32; refine (hlist _ (by assumption)).mono ?_; rintro e w3 ⟨ap, cap, rfl, hh3, hb3⟩; have hg2 : w2.heap[w.heap.size]? = some (.cells Z.toArray 3 (0, 0)) := owned_row hown2; have hrow3 : w3.heap[w.heap.size]? = some (.cells Z.toArray 3 (0, 0)) := (hb3.block _ (lt_of_heap hg2)).trans hg2; have hk3 : Kept NoBlock w w3 := hk2.trans' (Kept.of_below (S := fun k => w2.heap.size ≤ k) hb3 (fun _ _ h => h)) (fun i hi h => absurd h (by have := hk2.size; omega)); obtain ⟨w4, hrun4, HG4, hk4⟩ := run_copy_into (P := Try.prog) 33 33 3 3 Try.underlying33 (by rw [hi]; exact congrArg some hz1) w.heap.size 0 N N ap L.length cap Z.toArray 3 X hrow3 hh3 (by rw [HZ.out]; simp [madeCells, Value.cells]; omega) (by rw [HX.out]; intro v hv; obtain ⟨u, _, rfl⟩ := List.mem_map.1 hv; rfl); have hgw4 := hk4.heap (hk3.heap h0 (fun h => h)) (by omega); obtain ⟨d0, d1, d2, q0, q1, q2⟩ := blk3 hgw4; have HG : Hid (w4.heap[w.heap.size]? = some (.cells (X ++ Z.drop L.length).toArray 3 (0, 0))) := (by have h5 : min L.length N = L.length := Nat.min_eq_left (by omega); rw [h5] at HG4; have h6 : X.take L.length = X := List.take_of_length_le (by rw [HXl.out]; exact Nat.le_refl _); rw [h6] at HG4; simpa [Hid] using HG4); clear HG4))
    all_goals
      refine bodyPost_end (results_none rfl _ _ _) rfl ⟨rfl, w.heap.size, ?_, .inr (Nat.le_refl _), ?_⟩
      · have e1 : g ≠ w.heap.size := by omega
        have hfr := ifresh_row L N (by omega) (by omega)
        have hcs := HG.out
        rw [HX.out, HZ.out] at hcs
        refine ⟨N, N, 0, 0, _, ?_, by omega, by omega, by omega, ?_, by omega, hfr⟩
        · have s1 := heap_setCell_same hgw4 0 (.slice (some ⟨w.heap.size, 0, none⟩) N N)
          have s2 := heap_setCell_same s1 1 (.int .i64 0)
          simpa using s2
        · rw [heap_setCell_ne _ _ (by simpa using e1.symm), heap_setCell_ne _ _ (by simpa using e1.symm)]
          exact hcs
      · refine Kept.setCell (Kept.setCell ((hk3.mono (S' := fun k => k = g) (fun _ _ h => h.elim)).trans' hk4 (fun i hi h => by omega)) ?_ _) ?_ _ <;> exact fun _ => rfl
end Go.Proofs.Ytnleffjheimmbaa
