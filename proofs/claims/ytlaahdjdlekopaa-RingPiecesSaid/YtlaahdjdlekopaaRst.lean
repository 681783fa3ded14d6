/- 'RingStream' returns true. -/
import Derived.Test.YtlaahdjdlekopaaRi1
import Derived.LoopNIn
namespace Go.Proofs.Ytlaahdjdlekopaa
open Go.RowKit

/-- The window begins at the stream's beginning, or is as long as may be. -/
def Full (s : RS) : Prop := s.first = 0 ∨ s.L.length = s.size
theorem Full.feed {s : RS} (h : Full s) (hl : s.L.length ≤ s.size) (b : List UInt8) : Full (s.feed b) := by
  unfold Full at *
  simp only [RS.feed, List.length_drop, List.length_append]
  omega

theorem Rg.le {w : World} {g : Nat} {R : Option Nat} {s : RS} (h : Rg w g R s) : s.L.length ≤ s.size ∧ s.off = s.first + s.L.length ∧ 1 ≤ s.size := by
  obtain ⟨_, m, _, h1, h2, h3, h4, _⟩ := h
  exact ⟨by omega, h1, h4⟩

theorem holds_mid {w : World} {ad : Addr} {n cap : Nat} {l : List UInt8} (h : Holds w (some ad) n (l.map bv)) (hc : n ≤ cap) {i k : Nat} (hik : i + k ≤ n) :
    Holds w (if cap = i then some ad else some (ad.add i)) k (((l.drop i).take k).map bv) := by
  have hl : l.length = n := by simpa using h.1
  refine ⟨by rw [List.length_map, List.length_take, List.length_drop]; omega, fun hk => ⟨ad.add i, by rw [if_neg (by omega)], fun j v hj => ?_⟩⟩
  obtain ⟨ad', e, hcell⟩ := h.2 (by omega)
  cases e
  rw [Addr.add_add]
  refine hcell _ _ ?_
  rw [List.getElem?_map, List.getElem?_take] at hj
  split at hj
  · rw [List.getElem?_drop] at hj
    rw [List.getElem?_map]; exact hj
  · simp at hj

set_option maxRecDepth 8000 in
set_option maxHeartbeats 3200000 in
theorem stream_good (size : Int) (a : Option Addr) (n c : Nat) (b : List UInt8) (ac : Option Addr) (nc cc : Nat) (cuts : List UInt8) (k : Int) (w : World) (hs : 1 ≤ size ∧ size ≤ 16777216)
    (h1 : Holds w a (min n 500) (b.map bv)) (l1 : n ≤ c) (z1 : a = none → c = 0) (h2 : Holds w ac nc (cuts.map bv)) :
    Calls Try.prog 4 #[.int .i64 size, .slice a n c, .slice ac nc cc, .int .i64 k] w fun e w' => e = .returned (.bool true) ∧ Below w.heap.size w w' := by
  have y1 : 500 < n → ∃ ad, a = some ad := fun h => by cases a with | none => have := z1 rfl; omega | some ad => exact ⟨ad, rfl⟩
  have Y1 := rcut a n c
  obtain ⟨m, e1⟩ : ∃ m, min n 500 = m := ⟨_, rfl⟩
  rw [e1] at h1 Y1
  have g1 : m ≤ 500 ∧ m ≤ c := by omega
  have q1 : b.length = m := by simpa using h1.1
  have Q1 := Lib.hid q1
  have qc : cuts.length = nc := by simpa using h2.1
  have QC := Lib.hid qc
  clear e1 q1 qc
  go_enter Try.func4, Try.ntmps4
  go_wp2_with fail
  refine (nnew size 3 w w (Below.refl _ _) hs.1 hs.2 (by omega)).mono ?_
  rintro e w1 ⟨rfl, hI1, _⟩
  go_wp2_with fail
  refine (Y1 w1 y1 l1).mono ?_
  rintro e w1' ⟨rfl, rfl⟩
  clear Y1 y1
  go_wp2
  go_loopw [11, 12] (fun va vi wr => ∃ (at' i : Nat) (R : Option Nat) (s : RS), va = .int .i64 at' ∧ vi = .int .i64 i ∧ at' ≤ m ∧ i ≤ 2001 ∧ In w wr w.heap.size R s ∧ St s (b.take at') ∧ Full s ∧ s.size = size.toNat) (fun _ vi _ => 2002 - (intOf vi).toNat)
  case atStart => exact ⟨0, 0, none, _, rfl, rfl, Nat.zero_le _, by omega, hI1, ⟨rfl, Nat.le_refl _, rfl⟩, .inl rfl, rfl⟩
  case round =>
    obtain ⟨at', i, R, s, rfl, rfl, hat, hi, hI, hst, hfu, hsz⟩ := hrel
    clear hI1
    by_cases hlt : at' < m
    · obtain ⟨ad, rfl, _⟩ := h1.2 (by omega)
      have hoff := hst.off
      have hle := hI.rg.le.1
      have hfeed : ∀ (x : Nat), x ≤ m - at' → Calls Try.prog 12 #[.pointer (some ⟨w.heap.size, 0, none⟩), .slice (some (ad.add at')) x (c - at')] wr fun e w' => e = .returned (.int .i64 0) ∧ ∃ R' s', In w w' w.heap.size R' s' ∧ St s' (b.take (at' + x)) ∧ Full s' ∧ s'.size = size.toNat := by
        intro x hx
        have hq := Q1.out
        have hmid := holds_mid h1 g1.2 (i := at') (k := x) (by omega)
        rw [if_neg (by omega)] at hmid
        refine (nfeed w.heap.size R s _ x (c - at') ((b.drop at').take x) w wr hI hmid (by omega) (fun h => by cases h) ?_).mono ?_
        · rw [hoff, List.length_take]; omega
        · rintro e w' ⟨rfl, R', hI', _⟩
          refine ⟨rfl, R', _, hI', ?_, hfu.feed hle _, hsz⟩
          have := hst.feed ((b.drop at').take x)
          rwa [← List.take_add] at this
      have HF := Lib.hid hfeed
      clear hfeed hoff hle hst hfu hsz
      obtain ⟨y, hy⟩ : ∃ y, y = m - at' := ⟨_, rfl⟩
      have hy1 : (m : Int) - at' = y := by omega
      have HY := Lib.hid hy
      have hyb : y ≤ 500 := by omega
      clear hy
      by_cases hic : i < nc
      · obtain ⟨adc, rfl, hcc⟩ := h2.2 (by omega)
        have hcell := (h2.below hI.below).cell hic
        obtain ⟨adc', e', hcell⟩ := hcell
        cases e'
        clear hcc
        obtain ⟨kk, hkk⟩ : ∃ kk : Nat, (cuts.map bv)[i]'(by rw [List.length_map, QC.out]; exact hic) = .int .u8 kk := ⟨(cuts[i]'(by rw [QC.out]; exact hic)).toNat, by simp [bv]⟩
        rw [hkk] at hcell
        have hk255 : kk ≤ 255 := by
          have h0 : Value.int .u8 (kk : Int) = bv (cuts[i]'(by rw [QC.out]; exact hic)) := by rw [← hkk]; simp
          have := (cuts[i]'(by rw [QC.out]; exact hic)).toNat_lt
          simp only [bv, Value.int.injEq, true_and] at h0
          omega
        clear hkk
        obtain ⟨z, hz⟩ : ∃ z, z = kk % 9 := ⟨_, rfl⟩
        have hz1 : (kk : Int).tmod 9 = z := by rw [hz]; rfl
        have hz8 : z ≤ 8 := by omega
        clear hz
        obtain ⟨x, hxd⟩ : ∃ x, x = min y z := ⟨_, rfl⟩
        have hmn : (if z < y then (z : Int) else (y : Int)) = x := by rw [hxd]; split <;> omega
        have hx : x ≤ m - at' := by have := HY.out; omega
        clear hxd
        obtain ⟨e', he⟩ : ∃ e', e' = at' + x := ⟨_, rfl⟩
        have he1 : (at' : Int) + x = e' := by omega
        have he2 : e' - at' = x := by omega
        have he3 : e' ≤ m := by omega
        have he4 : at' ≤ e' := by omega
        have he5 : e' ≤ c := by omega
        have HE := Lib.hid he
        have HX := HF.out x hx
        rw [← he] at HX
        clear he hx
        by_cases hi2 : 2000 < i
        · go_wp2_with (first
            | (go_at_call 12; refine HX.mono ?_; rintro e w2 ⟨rfl, R2, s2, hI2, hst2, hfu2, hsz2⟩)
            | (go_at_call 10; refine (alive_true _).mono ?_; rintro e wz ⟨rfl, hkz⟩))
          go_ret
          exact ⟨rfl, hI2.below.trans (hkz.below hI2.below.size (fun _ h => h.elim))⟩
        · go_wp2_with (go_at_call 12; refine HX.mono ?_; rintro e w2 ⟨rfl, R2, s2, hI2, hst2, hfu2, hsz2⟩)
          go_roundw
          case rel => exact ⟨e', i + 1, R2, s2, rfl, by go_num, he3, by omega, hI2, hst2, hfu2, hsz2⟩
          case measure => simp [intOf]; omega
      · have hic' : ¬ ((i : Int) < nc) := by omega
        obtain ⟨x, hxd⟩ : ∃ x, x = y := ⟨_, rfl⟩
        have hx : x ≤ m - at' := by have := HY.out; omega
        subst hxd
        obtain ⟨e', he⟩ : ∃ e', e' = at' + x := ⟨_, rfl⟩
        have he1 : (at' : Int) + x = e' := by omega
        have he2 : e' - at' = x := by omega
        have he3 : e' ≤ m := by omega
        have he4 : at' ≤ e' := by omega
        have he5 : e' ≤ c := by omega
        have HE := Lib.hid he
        have HX := HF.out x hx
        rw [← he] at HX
        clear he hx
        by_cases hi2 : 2000 < i
        · go_wp2_with (first
            | (go_at_call 12; refine HX.mono ?_; rintro e w2 ⟨rfl, R2, s2, hI2, hst2, hfu2, hsz2⟩)
            | (go_at_call 10; refine (alive_true _).mono ?_; rintro e wz ⟨rfl, hkz⟩))
          go_ret
          exact ⟨rfl, hI2.below.trans (hkz.below hI2.below.size (fun _ h => h.elim))⟩
        · go_wp2_with (go_at_call 12; refine HX.mono ?_; rintro e w2 ⟨rfl, R2, s2, hI2, hst2, hfu2, hsz2⟩)
          go_roundw
          case rel => exact ⟨e', i + 1, R2, s2, rfl, by go_num, he3, by omega, hI2, hst2, hfu2, hsz2⟩
          case measure => simp [intOf]; omega
    · obtain ⟨sz, rfl⟩ : ∃ sz : Nat, size = sz := ⟨size.toNat, by omega⟩
      have hsz' : s.size = sz := by rw [hsz]; rfl
      have hme : at' = m := by omega
      rw [hme, List.take_of_length_le (by rw [Q1.out]; exact Nat.le_refl _)] at hst
      have hle := hI.rg.le
      have hoff : s.off = m := by rw [hst.off, Q1.out]
      obtain ⟨N, hN⟩ : ∃ N, N = s.L.length := ⟨_, rfl⟩
      have hd1 : (m : Int) - s.first = N := by omega
      have hd2 : ¬ (sz < N) := by omega
      have hnlt : ¬ ((at' : Int) < m) := by omega
      have hfm : s.first ≤ m := by omega
      have hw := rwindow w.heap.size R s wr hI.rg
      rw [hoff] at hw
      have HST := Lib.hid hst
      have HOFF := Lib.hid hoff
      have HN := Lib.hid hN
      have hfu' : (s.first = 0) ∨ (¬ (s.first = 0) ∧ N = sz) := by
        rcases hfu with h | h
        · exact .inl h
        · by_cases h0 : s.first = 0
          · exact .inl h0
          · exact .inr ⟨h0, by omega⟩
      have HSZ := Lib.hid hsz'
      clear hst hoff hN hfu hle hsz hsz' hme
      have fin : ∀ (w9 wz : World), In w w9 w.heap.size R s → Kept NoBlock w9 wz → Below w.heap.size w wz := fun w9 wz h hk => h.below.trans (hk.below h.below.size (fun _ h => h.elim))
      obtain ⟨f, hf⟩ : ∃ f, f = s.first := ⟨_, rfl⟩
      rw [← hf] at hw hfu' hd1 hfm
      have HFF := Lib.hid hf
      clear hf
      have key : ∀ (g1 : (f > 0) = True ∨ True), True := fun _ => trivial
      clear key
      have out : ∀ (w2 : World), In w w2 w.heap.size R s → (k < f ∨ (m : Int) < k) → Calls Try.prog 15 #[.pointer (some ⟨w.heap.size, 0, none⟩), .int .i64 k] w2 fun e w' => e = .returned (.tuple #[.slice none 0 0, .int .i64 191]) ∧ w2 = w' := fun w2 h hk =>
        rfrom_out w.heap.size R s k w2 h.rg (by have := HOFF.out; have := HFF.out; omega)
      have OUT := Lib.hid out
      clear out
      rcases hfu' with hfu' | ⟨hfu', hNs⟩
      · by_cases o1 : k < f
        · go_wp2_with (first
            | (go_at_call 16; refine hw.mono ?_; rintro e w2 ⟨rfl, nw, rfl⟩; have hI2 := hI.drewN nw)
            | (go_at_call 15; refine (OUT.out _ hI2 (.inl o1)).mono ?_; rintro e w3 ⟨rfl, rfl⟩)
            | (go_at_call 10; refine (alive_true _).mono ?_; rintro e wz ⟨rfl, hkz⟩))
          go_ret
          exact ⟨rfl, fin _ _ hI2 hkz⟩
        by_cases o2 : (m : Int) < k
        · go_wp2_with (first
            | (go_at_call 16; refine hw.mono ?_; rintro e w2 ⟨rfl, nw, rfl⟩; have hI2 := hI.drewN nw)
            | (go_at_call 15; refine (OUT.out _ hI2 (.inr o2)).mono ?_; rintro e w3 ⟨rfl, rfl⟩)
            | (go_at_call 10; refine (alive_true _).mono ?_; rintro e wz ⟨rfl, hkz⟩))
          go_ret
          exact ⟨rfl, fin _ _ hI2 hkz⟩
        obtain ⟨kk, rfl⟩ : ∃ kk : Nat, k = kk := ⟨k.toNat, by omega⟩
        obtain ⟨j, hj⟩ : ∃ j, j = kk - f := ⟨_, rfl⟩
        have hin := fun (w2 : World) (h : In w w2 w.heap.size R s) => rfrom_in w.heap.size R s j kk w2 h.rg (by have := HN.out; omega) (by have := HFF.out; omega)
        have hll : s.L.drop j = b.drop kk := by rw [HST.out.drop]; congr 1; have := HFF.out; omega
        obtain ⟨M, hM⟩ : ∃ M, M = s.L.length - j := ⟨_, rfl⟩
        rw [hll, ← hM] at hin
        have hMm : M = m - kk := by have := HN.out; omega
        have HIN := Lib.hid hin
        have HM := Lib.hid hMm
        clear hin hll hM hMm hj
        have hkm : kk ≤ m := by omega
        obtain ⟨S, hS⟩ : ∃ S : ByteArray, S = ⟨(b.drop kk).toArray⟩ := ⟨_, rfl⟩
        cases a with
        | none =>
          obtain rfl := z1 rfl
          obtain rfl : m = 0 := by omega
          obtain rfl : kk = 0 := by omega
          go_wp2_with (first
            | (go_at_call 16; refine hw.mono ?_; rintro e w2 ⟨rfl, nw, rfl⟩; have hI2 := hI.drewN nw)
            | (go_at_call 15; refine (HIN.out _ hI2).mono ?_; rintro e w9 ⟨ap9, cap9, rfl, hh9, hb9, hz9, hc9, hk9⟩))
          have hI9 := hI2.keptNo hk9
          have hb := h1.below hI9.below
          have hv2 := fun n => conv_bytes (P := Try.prog) (w9.drewN n) 22 9 5 Try.underlying22 Try.underlying5 Try.underlying9 cap9 hh9
          have hb0 : Holds w9 none 0 ((b.drop 0).map bv) := hb
          have hv3 := fun n => conv_bytes (P := Try.prog) (w9.drewN n) 22 9 5 Try.underlying22 Try.underlying5 Try.underlying9 0 hb0
          rw [← hS] at hv2 hv3
          clear hb hh9 hS
          refine wp_plan 0 [1, 2, 3, 4, 5, 6, 7, 8, 9, 10, 11] 12 [] [13, 14] (by kernel_rfl) (by kernel_rfl) ?_
          simp only [wpPlan, pick, List.filterMap_cons, List.filterMap_nil, List.getElem?_cons_succ, List.getElem?_cons_zero]
          repeat (quiet_step (fail))
          refine wpQuiet_nil ?_
          rintro _ ⟨nr, rfl⟩
          go_wp2_with (go_at_call 10; refine (alive_true _).mono ?_; rintro e wz ⟨rfl, hkz⟩)
          refine Halt.mk ?_
          repeat (quiet_step (fail))
          refine wpQuiet_nil ?_
          rintro _ ⟨nz, rfl⟩
          go_wp2
          go_ret
          exact ⟨rfl, fin _ _ (hI9.drewN nr) (hkz.drewN nz)⟩
        | some ad =>
          go_wp2_with (first
            | (go_at_call 16; refine hw.mono ?_; rintro e w2 ⟨rfl, nw, rfl⟩; have hI2 := hI.drewN nw)
            | (go_at_call 15; refine (HIN.out _ hI2).mono ?_; rintro e w9 ⟨ap9, cap9, rfl, hh9, hb9, hz9, hc9, hk9⟩))
          have hI9 := hI2.keptNo hk9
          have hb := h1.below hI9.below
          have hv2 := fun n => conv_bytes (P := Try.prog) (w9.drewN n) 22 9 5 Try.underlying22 Try.underlying5 Try.underlying9 cap9 hh9
          have hmid := holds_mid hb g1.2 (i := kk) (k := m - kk) (by omega)
          rw [List.take_of_length_le (by rw [List.length_drop, Q1.out]; omega)] at hmid
          obtain ⟨apk, hapk⟩ : ∃ x, (if c = kk then some ad else some (ad.add kk)) = x := ⟨_, rfl⟩
          rw [hapk] at hmid
          have hv3 := fun n => conv_bytes (P := Try.prog) (w9.drewN n) 22 9 5 Try.underlying22 Try.underlying5 Try.underlying9 (c - kk) hmid
          have hkc : kk ≤ c := by omega
          rw [← hS] at hv2 hv3
          clear hb hh9 hS
          refine wp_plan 0 [1, 2, 3, 4, 5, 6, 7, 8, 9, 10, 11] 12 [] [13, 14] (by kernel_rfl) (by kernel_rfl) ?_
          simp only [wpPlan, pick, List.filterMap_cons, List.filterMap_nil, List.getElem?_cons_succ, List.getElem?_cons_zero]
          repeat (quiet_step (fail))
          refine wpQuiet_nil ?_
          rintro _ ⟨nr, rfl⟩
          go_wp2_with (go_at_call 10; refine (alive_true _).mono ?_; rintro e wz ⟨rfl, hkz⟩)
          refine Halt.mk ?_
          repeat (quiet_step (fail))
          refine wpQuiet_nil ?_
          rintro _ ⟨nz, rfl⟩
          go_wp2
          go_ret
          exact ⟨rfl, fin _ _ (hI9.drewN nr) (hkz.drewN nz)⟩
      · by_cases o1 : k < f
        · go_wp2_with (first
            | (go_at_call 16; refine hw.mono ?_; rintro e w2 ⟨rfl, nw, rfl⟩; have hI2 := hI.drewN nw)
            | (go_at_call 15; refine (OUT.out _ hI2 (.inl o1)).mono ?_; rintro e w3 ⟨rfl, rfl⟩)
            | (go_at_call 10; refine (alive_true _).mono ?_; rintro e wz ⟨rfl, hkz⟩))
          go_ret
          exact ⟨rfl, fin _ _ hI2 hkz⟩
        by_cases o2 : (m : Int) < k
        · go_wp2_with (first
            | (go_at_call 16; refine hw.mono ?_; rintro e w2 ⟨rfl, nw, rfl⟩; have hI2 := hI.drewN nw)
            | (go_at_call 15; refine (OUT.out _ hI2 (.inr o2)).mono ?_; rintro e w3 ⟨rfl, rfl⟩)
            | (go_at_call 10; refine (alive_true _).mono ?_; rintro e wz ⟨rfl, hkz⟩))
          go_ret
          exact ⟨rfl, fin _ _ hI2 hkz⟩
        obtain ⟨kk, rfl⟩ : ∃ kk : Nat, k = kk := ⟨k.toNat, by omega⟩
        obtain ⟨j, hj⟩ : ∃ j, j = kk - f := ⟨_, rfl⟩
        have hin := fun (w2 : World) (h : In w w2 w.heap.size R s) => rfrom_in w.heap.size R s j kk w2 h.rg (by have := HN.out; omega) (by have := HFF.out; omega)
        have hll : s.L.drop j = b.drop kk := by rw [HST.out.drop]; congr 1; have := HFF.out; omega
        obtain ⟨M, hM⟩ : ∃ M, M = s.L.length - j := ⟨_, rfl⟩
        rw [hll, ← hM] at hin
        have hMm : M = m - kk := by have := HN.out; omega
        have HIN := Lib.hid hin
        have HM := Lib.hid hMm
        clear hin hll hM hMm hj
        have hkm : kk ≤ m := by omega
        obtain ⟨S, hS⟩ : ∃ S : ByteArray, S = ⟨(b.drop kk).toArray⟩ := ⟨_, rfl⟩
        cases a with
        | none =>
          obtain rfl := z1 rfl
          obtain rfl : m = 0 := by omega
          obtain rfl : kk = 0 := by omega
          exfalso; omega
        | some ad =>
          go_wp2_with (first
            | (go_at_call 16; refine hw.mono ?_; rintro e w2 ⟨rfl, nw, rfl⟩; have hI2 := hI.drewN nw)
            | (go_at_call 15; refine (HIN.out _ hI2).mono ?_; rintro e w9 ⟨ap9, cap9, rfl, hh9, hb9, hz9, hc9, hk9⟩))
          have hI9 := hI2.keptNo hk9
          have hb := h1.below hI9.below
          have hv2 := fun n => conv_bytes (P := Try.prog) (w9.drewN n) 22 9 5 Try.underlying22 Try.underlying5 Try.underlying9 cap9 hh9
          have hmid := holds_mid hb g1.2 (i := kk) (k := m - kk) (by omega)
          rw [List.take_of_length_le (by rw [List.length_drop, Q1.out]; omega)] at hmid
          obtain ⟨apk, hapk⟩ : ∃ x, (if c = kk then some ad else some (ad.add kk)) = x := ⟨_, rfl⟩
          rw [hapk] at hmid
          have hv3 := fun n => conv_bytes (P := Try.prog) (w9.drewN n) 22 9 5 Try.underlying22 Try.underlying5 Try.underlying9 (c - kk) hmid
          have hkc : kk ≤ c := by omega
          rw [← hS] at hv2 hv3
          clear hb hh9 hS
          refine wp_plan 0 [1, 2, 3, 4, 5, 6, 7, 8, 9, 10, 11] 12 [] [13, 14] (by kernel_rfl) (by kernel_rfl) ?_
          simp only [wpPlan, pick, List.filterMap_cons, List.filterMap_nil, List.getElem?_cons_succ, List.getElem?_cons_zero]
          repeat (quiet_step (fail))
          refine wpQuiet_nil ?_
          rintro _ ⟨nr, rfl⟩
          go_wp2_with (go_at_call 10; refine (alive_true _).mono ?_; rintro e wz ⟨rfl, hkz⟩)
          refine Halt.mk ?_
          repeat (quiet_step (fail))
          refine wpQuiet_nil ?_
          rintro _ ⟨nz, rfl⟩
          go_wp2
          go_ret
          exact ⟨rfl, fin _ _ (hI9.drewN nr) (hkz.drewN nz)⟩

theorem stream_bad (size : Int) (a : Option Addr) (n c : Nat) (ac : Option Addr) (nc cc : Nat) (k : Int) (w : World) (hs : ¬ (1 ≤ size ∧ size ≤ 16777216)) :
    Calls Try.prog 4 #[.int .i64 size, .slice a n c, .slice ac nc cc, .int .i64 k] w fun e w' => e = .returned (.bool true) ∧ Below w.heap.size w w' := by
  have hn := rnew_bad size 3 w (fun h => hs ⟨h.1, h.2.1⟩)
  go_enter Try.func4, Try.ntmps4
  go_wp2_with (first
    | (go_at_call 9; refine hn.mono ?_; rintro e w1 ⟨rfl, rfl⟩)
    | (go_at_call 10; refine (alive_true _).mono ?_; rintro e wz ⟨rfl, hkz⟩))
  go_ret
  exact ⟨rfl, hkz.below (Nat.le_refl _) (fun _ h => h.elim)⟩
end Go.Proofs.Ytlaahdjdlekopaa
