/- 'RingGoesOn' returns true. -/
import Derived.Test.YtlaahdjdlekopaaRi1
namespace Go.Proofs.Ytlaahdjdlekopaa
open Go.RowKit

theorem goes_cat {s : RS} {one other own : List UInt8} (h : St s (one ++ other)) (h1 : s.second = 3) (h2 : s.fork = one.length) (h3 : s.id = 4) {i k : Int} (mine : List UInt8)
    (hm : (i = 4 ∧ mine = one ++ other) ∨ (i = 3 ∧ mine = one ++ own)) (ha : s.accepts i k = true) : ∃ j, j ≤ s.L.length ∧ k = s.first + j ∧ mine.take (s.first + j) ++ s.L.drop j = one ++ other := by
  simp only [RS.accepts, Bool.and_eq_true, decide_eq_true_eq] at ha
  obtain ⟨⟨⟨_, a1⟩, a2⟩, a3⟩ := ha
  have hl : s.L.length = (one ++ other).length - s.first := by rw [h.L, List.length_drop]
  have hf := h.first
  have ho := h.off
  refine ⟨(k - s.first).toNat, by omega, by omega, ?_⟩
  rw [h.drop]
  rcases hm with ⟨rfl, rfl⟩ | ⟨rfl, rfl⟩
  · exact List.take_append_drop _ _
  · have hk : k ≤ s.fork := by
      rw [h3, h1] at a3
      simpa using a3
    rw [List.take_append_of_le_length (by omega), List.drop_append_of_le_length (by omega), ← List.append_assoc, List.take_append_drop]

theorem fresh_nil (w : World) : (w.alloc (.cells #[] 5)).ownsRow w.heap.size 5 1 (.slice (some ⟨w.heap.size, 0, none⟩) 0 0) 0 [] :=
  World.ownsRow_made (e := 5) (size := 1) w #[] 0 (Nat.le_refl _) (by unfold maxLen; omega) rfl

theorem In.grown {w0 w w' : World} {g : Nat} {R : Option Nat} {s : RS} {row : Option Nat} (h : In w0 w g R s) (hg : w.grownBy w' row) {B : Nat} (hr : ∀ k, row = some k → B ≤ k) (hB : g < B) (hRB : ∀ r, R = some r → r < B) (hB0 : w0.heap.size ≤ B) : In w0 w' g R s := by
  have hk : Kept (fun k => B ≤ k) w w' := (Kept.refl _ _).grown hg (fun k e _ => hr k e)
  exact ⟨h.below.trans (hk.below h.below.size (fun i hi => Nat.le_trans hB0 hi)), h.rg.kept hk (fun hb => by omega) (fun r e hb => by have := hRB r e; omega), h.new, h.newR⟩

theorem ownsRow_form2 {w : World} {base : Nat} {e : TypeId} {v : Value} {n : Nat} {xs : List Value} (h : w.ownsRow base e 1 v n xs) : ∃ ap cap, v = .slice ap n cap ∧ (ap = none → cap = 0) ∧ n ≤ cap := by
  rcases h.2 with ⟨rfl, rfl⟩ | ⟨g, cap, cur, rfl, hb, hg, hn, _⟩
  · exact ⟨none, 0, rfl, fun _ => rfl, Nat.le_refl _⟩
  · exact ⟨some ⟨g, 0, none⟩, cap, rfl, (fun h => by cases h), hn⟩

set_option maxRecDepth 8000 in
set_option maxHeartbeats 6400000 in
theorem goes_good (size : Int) (a1 a2 a3 : Option Addr) (n1 n2 n3 c1 c2 c3 : Nat) (b1 b2 b3 : List UInt8) (k : Int) (el : Bool) (w : World) (hs : 1 ≤ size ∧ size ≤ 16777216)
    (h1 : Holds w a1 (min n1 500) (b1.map bv)) (h2 : Holds w a2 (min n2 500) (b2.map bv)) (h3 : Holds w a3 (min n3 500) (b3.map bv)) (l1 : n1 ≤ c1) (l2 : n2 ≤ c2) (l3 : n3 ≤ c3)
    (z1 : a1 = none → c1 = 0) (z2 : a2 = none → c2 = 0) (z3 : a3 = none → c3 = 0) :
    Calls Try.prog 3 #[.int .i64 size, .slice a1 n1 c1, .slice a2 n2 c2, .slice a3 n3 c3, .int .i64 k, .bool el] w fun e w' => e = .returned (.bool true) ∧ Below w.heap.size w w' := by
  have y1 : 500 < n1 → ∃ ad, a1 = some ad := fun h => by cases a1 with | none => have := z1 rfl; omega | some ad => exact ⟨ad, rfl⟩
  have y2 : 500 < n2 → ∃ ad, a2 = some ad := fun h => by cases a2 with | none => have := z2 rfl; omega | some ad => exact ⟨ad, rfl⟩
  have y3 : 500 < n3 → ∃ ad, a3 = some ad := fun h => by cases a3 with | none => have := z3 rfl; omega | some ad => exact ⟨ad, rfl⟩
  have Y1 := rcut a1 n1 c1
  have Y2 := rcut a2 n2 c2
  have Y3 := rcut a3 n3 c3
  obtain ⟨m1, e1⟩ : ∃ m, min n1 500 = m := ⟨_, rfl⟩
  obtain ⟨m2, e2⟩ : ∃ m, min n2 500 = m := ⟨_, rfl⟩
  obtain ⟨m3, e3⟩ : ∃ m, min n3 500 = m := ⟨_, rfl⟩
  rw [e1] at h1 Y1; rw [e2] at h2 Y2; rw [e3] at h3 Y3
  have g1 : m1 ≤ 500 ∧ m1 ≤ c1 := by omega
  have g2 : m2 ≤ 500 ∧ m2 ≤ c2 := by omega
  have g3 : m3 ≤ 500 ∧ m3 ≤ c3 := by omega
  have q1 : b1.length = m1 := by simpa using h1.1
  have q2 : b2.length = m2 := by simpa using h2.1
  have q3 : b3.length = m3 := by simpa using h3.1
  clear e1 e2 e3
  obtain ⟨i0, hi, hz0, hz1, hz2⟩ := info_parts binfo
  have Q1 := Lib.hid q1
  have Q2 := Lib.hid q2
  have Q3 := Lib.hid q3
  clear q1 q2 q3
  go_enter Try.func3, Try.ntmps3
  go_wp2_with fail
  refine (nnew size 3 w w (Below.refl _ _) hs.1 hs.2 (by omega)).mono ?_
  rintro e w1 ⟨rfl, hI1, _⟩
  go_wp2_with fail
  refine (Y1 w1 y1 l1).mono ?_
  rintro e w1' ⟨rfl, rfl⟩
  go_wp2_with fail
  refine (Y2 w1 y2 l2).mono ?_
  rintro e w1' ⟨rfl, rfl⟩
  go_wp2_with fail
  refine (Y3 w1 y3 l3).mono ?_
  rintro e w1' ⟨rfl, rfl⟩
  clear Y1 Y2 Y3 y1 y2 y3
  go_wp2_with fail
  refine (nfeed w.heap.size none _ a1 m1 c1 b1 w w1 hI1 h1 (by omega) z1 (by simp only; omega)).mono ?_
  rintro e w2 ⟨rfl, R2, hI2, _⟩
  go_wp2_with fail
  refine (nfork w.heap.size R2 _ 4 w w2 hI2 (by omega) (by simp [RS.feed])).mono ?_
  rintro e w3 ⟨rfl, hI3, _⟩
  go_wp2_with fail
  refine (nfeed w.heap.size R2 _ a2 m2 c2 b2 w w3 hI3 h2 (by omega) z2 (by simp only [RS.fork_, RS.feed]; have := Q1.out; omega)).mono ?_
  rintro e w4 ⟨rfl, R4, hI4, _⟩
  obtain ⟨s, hs4⟩ : ∃ s, s = RS.feed (RS.fork_ (RS.feed ⟨3, 0, 0, 0, 0, size.toNat, []⟩ b1) 4) b2 := ⟨_, rfl⟩
  have hst : St s (b1 ++ b2) := by
    rw [hs4]
    exact ((St.feed (all := []) ⟨rfl, Nat.le_refl _, rfl⟩ b1).fork 4).feed b2
  have hs5 : s.second = 3 := by rw [hs4]; rfl
  have hs6 : s.fork = b1.length := by rw [hs4]; simp [RS.feed, RS.fork_]
  have hs7 : s.id = 4 := by rw [hs4]; rfl
  have hI5 : In w w4 w.heap.size R4 s := by rw [hs4]; exact hI4
  have HST := Lib.hid hst
  have HS5 := Lib.hid hs5
  have HS6 := Lib.hid hs6
  have HS7 := Lib.hid hs7
  clear hI1 hI2 hI3 hI4 hs4 hst hs5 hs6 hs7
  have hgl : w.heap.size < w4.heap.size := hI5.rg.lt
  have hRl : ∀ r, R4 = some r → r < w4.heap.size := fun r h => (hI5.rg.ring h).1
  have hgl7 := hgl
  have hRl7 := hRl
  cases el with
  | false =>
    have hmade7 := fresh_nil w4
    have hX7 := h1.below ((hI5).alloc (.cells #[] 5)).below
    go_wp2_with (at_builtin; go_loud (refine wpList_append_holds rfl _ _ 22 rfl w4.heap.size 5 i0 (.int .u8 0) 1 Try.underlying22 hi hz0 hz1 hz2 rfl _ 0 [] rfl hmade7 a1 m1 c1 (b1.map bv) rfl hX7 z1 (bv_one _) (by unfold maxLen; omega) (by omega) (by simp) ?_; intro v7a w7a hrow7a hgr7a; have hJ7a := ((hI5).alloc (.cells #[] 5)).grown hgr7a (B := w4.heap.size) (fun k e => (hmade7.lt k e).1) hgl7 hRl7 (hI5).below.size; have hsz7a : w4.heap.size ≤ w7a.heap.size := (by have := hgr7a.size; rw [World.size_alloc] at this; omega); clear hgr7a; refine Hid.out ?_))
    refine Lib.hid ?_
    rw [Nat.zero_add, List.nil_append] at hrow7a
    clear hmade7 hX7
    have hX7 := h2.below hJ7a.below
    go_wp2_with (at_builtin; refine wpList_append_holds rfl _ _ 22 rfl w4.heap.size 5 i0 (.int .u8 0) 1 Try.underlying22 hi hz0 hz1 hz2 rfl _ m1 _ rfl hrow7a a2 m2 c2 (b2.map bv) rfl hX7 z2 (bv_one _) (by unfold maxLen; omega) (by omega) hsz7a ?_; intro v7b w7b hrow7b hgr7b; have hJ7b := hJ7a.grown hgr7b (B := w4.heap.size) (fun k e => (hrow7a.lt k e).1) hgl7 hRl7 (hI5).below.size; have hsz7b := hgr7b.size; clear hgr7b; refine Hid.out ?_)
    refine Lib.hid ?_
    rw [← List.map_append] at hrow7b
    have hsz7 := Nat.le_trans hsz7a hsz7b
    clear hX7 hrow7a hJ7a hsz7a hsz7b
    obtain ⟨ap7, cap7, rfl, hz7, hcap7⟩ := ownsRow_form2 hrow7b
    have hA7 := ownsRow_holds hrow7b
    have hAl7 := ownsRow_lt hrow7b
    clear hrow7b
    by_cases t0 : k < 0
    · go_wp2_with (go_at_call 10; refine (alive_true _).mono ?_; rintro e wz ⟨rfl, hkz⟩)
      go_ret
      exact ⟨rfl, hJ7b.below.trans (hkz.below hJ7b.below.size (fun _ h => h.elim))⟩
    by_cases t1 : ((m1 + m2 : Nat) : Int) < k
    · go_wp2_with (go_at_call 10; refine (alive_true _).mono ?_; rintro e wz ⟨rfl, hkz⟩)
      go_ret
      exact ⟨rfl, hJ7b.below.trans (hkz.below hJ7b.below.size (fun _ h => h.elim))⟩
    have HA := raccepts w.heap.size R4 s 4 k w7b hJ7b.rg
    cases ta : s.accepts 4 k with
    | false =>
      rw [ta] at HA
      go_wp2_with (first
        | (go_at_call 14; refine HA.mono ?_; rintro e wz ⟨rfl, rfl⟩)
        | (go_at_call 10; refine (alive_true _).mono ?_; rintro e wz ⟨rfl, hkz⟩))
      go_ret
      exact ⟨rfl, hJ7b.below.trans (hkz.below hJ7b.below.size (fun _ h => h.elim))⟩
    | true =>
      rw [ta] at HA
      obtain ⟨j, hj1, hj2, hcat⟩ := goes_cat (own := b3) HST.out HS5.out HS6.out HS7.out (b1 ++ b2) (.inl ⟨rfl, rfl⟩) ta
      obtain ⟨kk, hkk⟩ : ∃ kk, kk = s.first + j := ⟨_, rfl⟩
      rw [← hkk] at hcat
      obtain rfl : k = (kk : Int) := by omega
      have HF := rfrom_in w.heap.size R4 s j kk w7b hJ7b.rg hj1 hj2
      obtain ⟨N, hN⟩ : ∃ N, N = s.L.length - j := ⟨_, rfl⟩
      rw [← hN] at HF
      have HCAT := Lib.hid hcat
      clear hcat hkk hN hj1 hj2
      cases ap7 with
      | none =>
        obtain rfl := hz7 rfl
        obtain rfl : kk = 0 := by omega
        go_wp2_with (first
          | (go_at_call 14; refine HA.mono ?_; rintro e wz ⟨rfl, rfl⟩)
          | (go_at_call 15; refine HF.mono ?_; rintro e w9 ⟨ap9, cap9, rfl, hh9, hb9, hz9, hc9, hk9⟩))
        have hJ9 := hJ7b.keptNo hk9
        have hl9 : Holds w9 none 0 (((b1 ++ b2).take 0).map bv) := by
          have := (hA7.kept hk9 (fun _ _ h => h)).take 0
          rw [← List.map_take, List.length_map, List.length_take, List.length_append, Q1.out, Q2.out] at this
          rwa [show min 0 (m1 + m2) = 0 by omega] at this
        have hone := h1.below hJ9.below
        have htwo := h2.below hJ9.below
        have hv1 := fun n => conv_bytes (P := Try.prog) (w9.drewN n) 22 9 5 Try.underlying22 Try.underlying5 Try.underlying9 0 hl9
        have hv2 := fun n => conv_bytes (P := Try.prog) (w9.drewN n) 22 9 5 Try.underlying22 Try.underlying5 Try.underlying9 cap9 hh9
        have hv3 := fun n => conv_bytes (P := Try.prog) (w9.drewN n) 22 9 5 Try.underlying22 Try.underlying5 Try.underlying9 c1 hone
        have hv4 := fun n => conv_bytes (P := Try.prog) (w9.drewN n) 22 9 5 Try.underlying22 Try.underlying5 Try.underlying9 c2 htwo
        have hkc : 0 ≤ 0 := by omega
        obtain ⟨SA, hSA⟩ : ∃ x : ByteArray, x = ⟨((b1 ++ b2).take 0).toArray⟩ := ⟨_, rfl⟩
        obtain ⟨SB, hSB⟩ : ∃ x : ByteArray, x = ⟨(s.L.drop j).toArray⟩ := ⟨_, rfl⟩
        obtain ⟨SC, hSC⟩ : ∃ x : ByteArray, x = ⟨b1.toArray⟩ := ⟨_, rfl⟩
        obtain ⟨SD, hSD⟩ : ∃ x : ByteArray, x = ⟨b2.toArray⟩ := ⟨_, rfl⟩
        have hSS : SA ++ SB = SC ++ SD := by
          rw [hSA, hSB, hSC, hSD]
          apply ByteArray.ext
          simp only [ByteArray.data_append]
          apply Array.ext'
          simpa using HCAT.out
        have hsz : ¬ (9223372036854775807 < SA.size + SB.size) ∧ ¬ (9223372036854775807 < SC.size + SD.size) := by
          have e1 : SC.size = b1.length := by rw [hSC]; rfl
          have e2 : SD.size = b2.length := by rw [hSD]; rfl
          have e3 : SA.size + SB.size = (b1 ++ b2).length := by have e4 := congrArg List.length HCAT.out; rw [List.length_append] at e4; rw [hSA, hSB]; exact e4
          rw [List.length_append] at e3
          have := Q1.out; have := Q2.out
          omega
        obtain ⟨hsz1, hsz2⟩ := hsz
        rw [← hSA] at hv1; rw [← hSB] at hv2; rw [← hSC] at hv3; rw [← hSD] at hv4
        clear hSA hSB hSC hSD hl9 hh9 hone htwo
        refine wp_plan 0 [1, 2, 3, 4, 5, 6, 7, 8, 9, 10, 11, 12, 13, 14, 15, 16, 17] 18 [] [19, 20] (by kernel_rfl) (by kernel_rfl) ?_
        simp only [wpPlan, pick, List.filterMap_cons, List.filterMap_nil, List.getElem?_cons_succ, List.getElem?_cons_zero]
        repeat (quiet_step (fail))
        refine wpQuiet_nil ?_
        rintro _ ⟨nr, rfl⟩
        go_wp2_with (go_at_call 10; refine (alive_true _).mono ?_; rintro e wz ⟨rfl, hkz⟩)
        refine Halt.mk ?_
        repeat (quiet_step (fail))
        refine wpQuiet_nil ?_
        rintro _ ⟨nz, rfl⟩
        go_wp2
        go_ret
        exact ⟨rfl, (hJ9.drewN nr).below.trans ((hkz.drewN nz).below hJ9.below.size (fun _ h => h.elim))⟩
      | some aM =>
        go_wp2_with (first
          | (go_at_call 14; refine HA.mono ?_; rintro e wz ⟨rfl, rfl⟩)
          | (go_at_call 15; refine HF.mono ?_; rintro e w9 ⟨ap9, cap9, rfl, hh9, hb9, hz9, hc9, hk9⟩))
        have hJ9 := hJ7b.keptNo hk9
        have hl9 : Holds w9 (some aM) kk (((b1 ++ b2).take kk).map bv) := by
          have := (hA7.kept hk9 (fun _ _ h => h)).take kk
          rw [← List.map_take, List.length_map, List.length_take, List.length_append, Q1.out, Q2.out] at this
          rwa [show min kk (m1 + m2) = kk by omega] at this
        have hone := h1.below hJ9.below
        have htwo := h2.below hJ9.below
        have hv1 := fun n => conv_bytes (P := Try.prog) (w9.drewN n) 22 9 5 Try.underlying22 Try.underlying5 Try.underlying9 cap7 hl9
        have hv2 := fun n => conv_bytes (P := Try.prog) (w9.drewN n) 22 9 5 Try.underlying22 Try.underlying5 Try.underlying9 cap9 hh9
        have hv3 := fun n => conv_bytes (P := Try.prog) (w9.drewN n) 22 9 5 Try.underlying22 Try.underlying5 Try.underlying9 c1 hone
        have hv4 := fun n => conv_bytes (P := Try.prog) (w9.drewN n) 22 9 5 Try.underlying22 Try.underlying5 Try.underlying9 c2 htwo
        have hkc : kk ≤ cap7 := by omega
        obtain ⟨SA, hSA⟩ : ∃ x : ByteArray, x = ⟨((b1 ++ b2).take kk).toArray⟩ := ⟨_, rfl⟩
        obtain ⟨SB, hSB⟩ : ∃ x : ByteArray, x = ⟨(s.L.drop j).toArray⟩ := ⟨_, rfl⟩
        obtain ⟨SC, hSC⟩ : ∃ x : ByteArray, x = ⟨b1.toArray⟩ := ⟨_, rfl⟩
        obtain ⟨SD, hSD⟩ : ∃ x : ByteArray, x = ⟨b2.toArray⟩ := ⟨_, rfl⟩
        have hSS : SA ++ SB = SC ++ SD := by
          rw [hSA, hSB, hSC, hSD]
          apply ByteArray.ext
          simp only [ByteArray.data_append]
          apply Array.ext'
          simpa using HCAT.out
        have hsz : ¬ (9223372036854775807 < SA.size + SB.size) ∧ ¬ (9223372036854775807 < SC.size + SD.size) := by
          have e1 : SC.size = b1.length := by rw [hSC]; rfl
          have e2 : SD.size = b2.length := by rw [hSD]; rfl
          have e3 : SA.size + SB.size = (b1 ++ b2).length := by have e4 := congrArg List.length HCAT.out; rw [List.length_append] at e4; rw [hSA, hSB]; exact e4
          rw [List.length_append] at e3
          have := Q1.out; have := Q2.out
          omega
        obtain ⟨hsz1, hsz2⟩ := hsz
        rw [← hSA] at hv1; rw [← hSB] at hv2; rw [← hSC] at hv3; rw [← hSD] at hv4
        clear hSA hSB hSC hSD hl9 hh9 hone htwo
        refine wp_plan 0 [1, 2, 3, 4, 5, 6, 7, 8, 9, 10, 11, 12, 13, 14, 15, 16, 17] 18 [] [19, 20] (by kernel_rfl) (by kernel_rfl) ?_
        simp only [wpPlan, pick, List.filterMap_cons, List.filterMap_nil, List.getElem?_cons_succ, List.getElem?_cons_zero]
        repeat (quiet_step (fail))
        refine wpQuiet_nil ?_
        rintro _ ⟨nr, rfl⟩
        go_wp2_with (go_at_call 10; refine (alive_true _).mono ?_; rintro e wz ⟨rfl, hkz⟩)
        refine Halt.mk ?_
        repeat (quiet_step (fail))
        refine wpQuiet_nil ?_
        rintro _ ⟨nz, rfl⟩
        go_wp2
        go_ret
        exact ⟨rfl, (hJ9.drewN nr).below.trans ((hkz.drewN nz).below hJ9.below.size (fun _ h => h.elim))⟩
  | true =>
    have hmade7 := fresh_nil w4
    have hX7 := h1.below ((hI5).alloc (.cells #[] 5)).below
    go_wp2_with (at_builtin; go_loud (refine wpList_append_holds rfl _ _ 22 rfl w4.heap.size 5 i0 (.int .u8 0) 1 Try.underlying22 hi hz0 hz1 hz2 rfl _ 0 [] rfl hmade7 a1 m1 c1 (b1.map bv) rfl hX7 z1 (bv_one _) (by unfold maxLen; omega) (by omega) (by simp) ?_; intro v7a w7a hrow7a hgr7a; have hJ7a := ((hI5).alloc (.cells #[] 5)).grown hgr7a (B := w4.heap.size) (fun k e => (hmade7.lt k e).1) hgl7 hRl7 (hI5).below.size; have hsz7a : w4.heap.size ≤ w7a.heap.size := (by have := hgr7a.size; rw [World.size_alloc] at this; omega); clear hgr7a; refine Hid.out ?_))
    refine Lib.hid ?_
    rw [Nat.zero_add, List.nil_append] at hrow7a
    clear hmade7 hX7
    have hX7 := h2.below hJ7a.below
    go_wp2_with (at_builtin; refine wpList_append_holds rfl _ _ 22 rfl w4.heap.size 5 i0 (.int .u8 0) 1 Try.underlying22 hi hz0 hz1 hz2 rfl _ m1 _ rfl hrow7a a2 m2 c2 (b2.map bv) rfl hX7 z2 (bv_one _) (by unfold maxLen; omega) (by omega) hsz7a ?_; intro v7b w7b hrow7b hgr7b; have hJ7b := hJ7a.grown hgr7b (B := w4.heap.size) (fun k e => (hrow7a.lt k e).1) hgl7 hRl7 (hI5).below.size; have hsz7b := hgr7b.size; clear hgr7b; refine Hid.out ?_)
    refine Lib.hid ?_
    rw [← List.map_append] at hrow7b
    have hsz7 := Nat.le_trans hsz7a hsz7b
    clear hX7 hrow7a hJ7a hsz7a hsz7b
    obtain ⟨ap7, cap7, rfl, hz7, hcap7⟩ := ownsRow_form2 hrow7b
    have hA7 := ownsRow_holds hrow7b
    have hAl7 := ownsRow_lt hrow7b
    clear hrow7b
    have hgl8 := hJ7b.rg.lt
    have hRl8 : ∀ r, R4 = some r → r < w7b.heap.size := fun r h => (hJ7b.rg.ring h).1
    have hmade8 := fresh_nil w7b
    have hX8 := h1.below ((hJ7b).alloc (.cells #[] 5)).below
    go_wp2_with (at_builtin; go_loud (refine wpList_append_holds rfl _ _ 22 rfl w7b.heap.size 5 i0 (.int .u8 0) 1 Try.underlying22 hi hz0 hz1 hz2 rfl _ 0 [] rfl hmade8 a1 m1 c1 (b1.map bv) rfl hX8 z1 (bv_one _) (by unfold maxLen; omega) (by omega) (by simp) ?_; intro v8a w8a hrow8a hgr8a; have hJ8a := ((hJ7b).alloc (.cells #[] 5)).grown hgr8a (B := w7b.heap.size) (fun k e => (hmade8.lt k e).1) hgl8 hRl8 (hJ7b).below.size; have hsz8a : w7b.heap.size ≤ w8a.heap.size := (by have := hgr8a.size; rw [World.size_alloc] at this; omega); clear hgr8a; refine Hid.out ?_))
    refine Lib.hid ?_
    rw [Nat.zero_add, List.nil_append] at hrow8a
    clear hmade8 hX8
    have hX8 := h3.below hJ8a.below
    go_wp2_with (at_builtin; refine wpList_append_holds rfl _ _ 22 rfl w7b.heap.size 5 i0 (.int .u8 0) 1 Try.underlying22 hi hz0 hz1 hz2 rfl _ m1 _ rfl hrow8a a3 m3 c3 (b3.map bv) rfl hX8 z3 (bv_one _) (by unfold maxLen; omega) (by omega) hsz8a ?_; intro v8b w8b hrow8b hgr8b; have hJ8b := hJ8a.grown hgr8b (B := w7b.heap.size) (fun k e => (hrow8a.lt k e).1) hgl8 hRl8 (hJ7b).below.size; have hsz8b := hgr8b.size; clear hgr8b; refine Hid.out ?_)
    refine Lib.hid ?_
    rw [← List.map_append] at hrow8b
    have hsz8 := Nat.le_trans hsz8a hsz8b
    clear hX8 hrow8a hJ8a hsz8a hsz8b
    obtain ⟨ap8, cap8, rfl, hz8, hcap8⟩ := ownsRow_form2 hrow8b
    have hA8 := ownsRow_holds hrow8b
    have hAl8 := ownsRow_lt hrow8b
    clear hrow8b
    by_cases t0 : k < 0
    · go_wp2_with (go_at_call 10; refine (alive_true _).mono ?_; rintro e wz ⟨rfl, hkz⟩)
      go_ret
      exact ⟨rfl, hJ8b.below.trans (hkz.below hJ8b.below.size (fun _ h => h.elim))⟩
    by_cases t1 : ((m1 + m3 : Nat) : Int) < k
    · go_wp2_with (go_at_call 10; refine (alive_true _).mono ?_; rintro e wz ⟨rfl, hkz⟩)
      go_ret
      exact ⟨rfl, hJ8b.below.trans (hkz.below hJ8b.below.size (fun _ h => h.elim))⟩
    have HA := raccepts w.heap.size R4 s 3 k w8b hJ8b.rg
    cases ta : s.accepts 3 k with
    | false =>
      rw [ta] at HA
      go_wp2_with (first
        | (go_at_call 14; refine HA.mono ?_; rintro e wz ⟨rfl, rfl⟩)
        | (go_at_call 10; refine (alive_true _).mono ?_; rintro e wz ⟨rfl, hkz⟩))
      go_ret
      exact ⟨rfl, hJ8b.below.trans (hkz.below hJ8b.below.size (fun _ h => h.elim))⟩
    | true =>
      rw [ta] at HA
      obtain ⟨j, hj1, hj2, hcat⟩ := goes_cat (own := b3) HST.out HS5.out HS6.out HS7.out (b1 ++ b3) (.inr ⟨rfl, rfl⟩) ta
      obtain ⟨kk, hkk⟩ : ∃ kk, kk = s.first + j := ⟨_, rfl⟩
      rw [← hkk] at hcat
      obtain rfl : k = (kk : Int) := by omega
      have HF := rfrom_in w.heap.size R4 s j kk w8b hJ8b.rg hj1 hj2
      obtain ⟨N, hN⟩ : ∃ N, N = s.L.length - j := ⟨_, rfl⟩
      rw [← hN] at HF
      have HCAT := Lib.hid hcat
      clear hcat hkk hN hj1 hj2
      cases ap8 with
      | none =>
        obtain rfl := hz8 rfl
        obtain rfl : kk = 0 := by omega
        go_wp2_with (first
          | (go_at_call 14; refine HA.mono ?_; rintro e wz ⟨rfl, rfl⟩)
          | (go_at_call 15; refine HF.mono ?_; rintro e w9 ⟨ap9, cap9, rfl, hh9, hb9, hz9, hc9, hk9⟩))
        have hJ9 := hJ8b.keptNo hk9
        have hl9 : Holds w9 none 0 (((b1 ++ b3).take 0).map bv) := by
          have := (hA8.kept hk9 (fun _ _ h => h)).take 0
          rw [← List.map_take, List.length_map, List.length_take, List.length_append, Q1.out, Q3.out] at this
          rwa [show min 0 (m1 + m3) = 0 by omega] at this
        have hone := h1.below hJ9.below
        have htwo := h2.below hJ9.below
        have hv1 := fun n => conv_bytes (P := Try.prog) (w9.drewN n) 22 9 5 Try.underlying22 Try.underlying5 Try.underlying9 0 hl9
        have hv2 := fun n => conv_bytes (P := Try.prog) (w9.drewN n) 22 9 5 Try.underlying22 Try.underlying5 Try.underlying9 cap9 hh9
        have hv3 := fun n => conv_bytes (P := Try.prog) (w9.drewN n) 22 9 5 Try.underlying22 Try.underlying5 Try.underlying9 c1 hone
        have hv4 := fun n => conv_bytes (P := Try.prog) (w9.drewN n) 22 9 5 Try.underlying22 Try.underlying5 Try.underlying9 c2 htwo
        have hkc : 0 ≤ 0 := by omega
        obtain ⟨SA, hSA⟩ : ∃ x : ByteArray, x = ⟨((b1 ++ b3).take 0).toArray⟩ := ⟨_, rfl⟩
        obtain ⟨SB, hSB⟩ : ∃ x : ByteArray, x = ⟨(s.L.drop j).toArray⟩ := ⟨_, rfl⟩
        obtain ⟨SC, hSC⟩ : ∃ x : ByteArray, x = ⟨b1.toArray⟩ := ⟨_, rfl⟩
        obtain ⟨SD, hSD⟩ : ∃ x : ByteArray, x = ⟨b2.toArray⟩ := ⟨_, rfl⟩
        have hSS : SA ++ SB = SC ++ SD := by
          rw [hSA, hSB, hSC, hSD]
          apply ByteArray.ext
          simp only [ByteArray.data_append]
          apply Array.ext'
          simpa using HCAT.out
        have hsz : ¬ (9223372036854775807 < SA.size + SB.size) ∧ ¬ (9223372036854775807 < SC.size + SD.size) := by
          have e1 : SC.size = b1.length := by rw [hSC]; rfl
          have e2 : SD.size = b2.length := by rw [hSD]; rfl
          have e3 : SA.size + SB.size = (b1 ++ b2).length := by have e4 := congrArg List.length HCAT.out; rw [List.length_append] at e4; rw [hSA, hSB]; exact e4
          rw [List.length_append] at e3
          have := Q1.out; have := Q2.out
          omega
        obtain ⟨hsz1, hsz2⟩ := hsz
        rw [← hSA] at hv1; rw [← hSB] at hv2; rw [← hSC] at hv3; rw [← hSD] at hv4
        clear hSA hSB hSC hSD hl9 hh9 hone htwo
        refine wp_plan 0 [1, 2, 3, 4, 5, 6, 7, 8, 9, 10, 11, 12, 13, 14, 15, 16, 17] 18 [] [19, 20] (by kernel_rfl) (by kernel_rfl) ?_
        simp only [wpPlan, pick, List.filterMap_cons, List.filterMap_nil, List.getElem?_cons_succ, List.getElem?_cons_zero]
        repeat (quiet_step (fail))
        refine wpQuiet_nil ?_
        rintro _ ⟨nr, rfl⟩
        go_wp2_with (go_at_call 10; refine (alive_true _).mono ?_; rintro e wz ⟨rfl, hkz⟩)
        refine Halt.mk ?_
        repeat (quiet_step (fail))
        refine wpQuiet_nil ?_
        rintro _ ⟨nz, rfl⟩
        go_wp2
        go_ret
        exact ⟨rfl, (hJ9.drewN nr).below.trans ((hkz.drewN nz).below hJ9.below.size (fun _ h => h.elim))⟩
      | some aM =>
        go_wp2_with (first
          | (go_at_call 14; refine HA.mono ?_; rintro e wz ⟨rfl, rfl⟩)
          | (go_at_call 15; refine HF.mono ?_; rintro e w9 ⟨ap9, cap9, rfl, hh9, hb9, hz9, hc9, hk9⟩))
        have hJ9 := hJ8b.keptNo hk9
        have hl9 : Holds w9 (some aM) kk (((b1 ++ b3).take kk).map bv) := by
          have := (hA8.kept hk9 (fun _ _ h => h)).take kk
          rw [← List.map_take, List.length_map, List.length_take, List.length_append, Q1.out, Q3.out] at this
          rwa [show min kk (m1 + m3) = kk by omega] at this
        have hone := h1.below hJ9.below
        have htwo := h2.below hJ9.below
        have hv1 := fun n => conv_bytes (P := Try.prog) (w9.drewN n) 22 9 5 Try.underlying22 Try.underlying5 Try.underlying9 cap8 hl9
        have hv2 := fun n => conv_bytes (P := Try.prog) (w9.drewN n) 22 9 5 Try.underlying22 Try.underlying5 Try.underlying9 cap9 hh9
        have hv3 := fun n => conv_bytes (P := Try.prog) (w9.drewN n) 22 9 5 Try.underlying22 Try.underlying5 Try.underlying9 c1 hone
        have hv4 := fun n => conv_bytes (P := Try.prog) (w9.drewN n) 22 9 5 Try.underlying22 Try.underlying5 Try.underlying9 c2 htwo
        have hkc : kk ≤ cap8 := by omega
        obtain ⟨SA, hSA⟩ : ∃ x : ByteArray, x = ⟨((b1 ++ b3).take kk).toArray⟩ := ⟨_, rfl⟩
        obtain ⟨SB, hSB⟩ : ∃ x : ByteArray, x = ⟨(s.L.drop j).toArray⟩ := ⟨_, rfl⟩
        obtain ⟨SC, hSC⟩ : ∃ x : ByteArray, x = ⟨b1.toArray⟩ := ⟨_, rfl⟩
        obtain ⟨SD, hSD⟩ : ∃ x : ByteArray, x = ⟨b2.toArray⟩ := ⟨_, rfl⟩
        have hSS : SA ++ SB = SC ++ SD := by
          rw [hSA, hSB, hSC, hSD]
          apply ByteArray.ext
          simp only [ByteArray.data_append]
          apply Array.ext'
          simpa using HCAT.out
        have hsz : ¬ (9223372036854775807 < SA.size + SB.size) ∧ ¬ (9223372036854775807 < SC.size + SD.size) := by
          have e1 : SC.size = b1.length := by rw [hSC]; rfl
          have e2 : SD.size = b2.length := by rw [hSD]; rfl
          have e3 : SA.size + SB.size = (b1 ++ b2).length := by have e4 := congrArg List.length HCAT.out; rw [List.length_append] at e4; rw [hSA, hSB]; exact e4
          rw [List.length_append] at e3
          have := Q1.out; have := Q2.out
          omega
        obtain ⟨hsz1, hsz2⟩ := hsz
        rw [← hSA] at hv1; rw [← hSB] at hv2; rw [← hSC] at hv3; rw [← hSD] at hv4
        clear hSA hSB hSC hSD hl9 hh9 hone htwo
        refine wp_plan 0 [1, 2, 3, 4, 5, 6, 7, 8, 9, 10, 11, 12, 13, 14, 15, 16, 17] 18 [] [19, 20] (by kernel_rfl) (by kernel_rfl) ?_
        simp only [wpPlan, pick, List.filterMap_cons, List.filterMap_nil, List.getElem?_cons_succ, List.getElem?_cons_zero]
        repeat (quiet_step (fail))
        refine wpQuiet_nil ?_
        rintro _ ⟨nr, rfl⟩
        go_wp2_with (go_at_call 10; refine (alive_true _).mono ?_; rintro e wz ⟨rfl, hkz⟩)
        refine Halt.mk ?_
        repeat (quiet_step (fail))
        refine wpQuiet_nil ?_
        rintro _ ⟨nz, rfl⟩
        go_wp2
        go_ret
        exact ⟨rfl, (hJ9.drewN nr).below.trans ((hkz.drewN nz).below hJ9.below.size (fun _ h => h.elim))⟩

theorem goes_bad (size : Int) (a1 a2 a3 : Option Addr) (n1 n2 n3 c1 c2 c3 : Nat) (k : Int) (el : Bool) (w : World) (hs : ¬ (1 ≤ size ∧ size ≤ 16777216)) :
    Calls Try.prog 3 #[.int .i64 size, .slice a1 n1 c1, .slice a2 n2 c2, .slice a3 n3 c3, .int .i64 k, .bool el] w fun e w' => e = .returned (.bool true) ∧ Below w.heap.size w w' := by
  have hn := rnew_bad size 3 w (fun h => hs ⟨h.1, h.2.1⟩)
  go_enter Try.func3, Try.ntmps3
  go_wp2_with (first
    | (go_at_call 9; refine hn.mono ?_; rintro e w1 ⟨rfl, rfl⟩)
    | (go_at_call 10; refine (alive_true _).mono ?_; rintro e wz ⟨rfl, hkz⟩))
  go_ret
  exact ⟨rfl, hkz.below (Nat.le_refl _) (fun _ h => h.elim)⟩

theorem holds_cut {w : World} {a : Option Addr} {n : Nat} {l : List UInt8} (h : Holds w a n (l.map bv)) : Holds w a (min n 500) ((l.take 500).map bv) := by
  have := h.take 500
  rw [← List.map_take, List.length_map, List.length_take, Nat.min_comm, show l.length = n by simpa using h.1] at this
  exact this
end Go.Proofs.Ytlaahdjdlekopaa
