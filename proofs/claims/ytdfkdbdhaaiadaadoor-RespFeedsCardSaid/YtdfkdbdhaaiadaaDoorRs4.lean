/- The document's requests: a text at a place. -/
import Derived.Test.YtdfkdbdhaaiadaaDoorRs2
namespace Go.Proofs.YtdfkdbdhaaiadaaDoor
open Go.RowKit
attribute [local go_sem] fold_part fold_some fold_some' partAt_zero

def sBigB : Bs := [116, 111, 111, 32, 98, 105, 103, 32, 98, 117, 108, 107, 32, 99, 111, 117, 110, 116, 32, 115, 116, 114, 105, 110, 103]
def sBadB : Bs := [105, 110, 118, 97, 108, 105, 100, 32, 98, 117, 108, 107, 32, 108, 101, 110, 103, 116, 104]
def sExp : Bs := [101, 120, 112, 101, 99, 116, 101, 100, 32, 39, 36, 39, 44, 32, 103, 111, 116, 32, 39]
theorem fBigB_eq : pErr ++ sBigB = fBigB := rfl
theorem fBadB_eq : pErr ++ sBadB = fBadB := rfl

theorem nrparseV (t : Bs) (T : ByteArray) (hT : T = ⟨t.toArray⟩) (ht : t.length < 65536) (w : World) : Calls Tryd.prog 33 #[.string T] w fun e w' => e = .returned (.tuple #[.int .i64 (parseV t).1, .int .i64 (parseV t).2]) ∧ w = w' := by
  have h := nrparse T (by rw [str_size0 hT]; omega) w
  have e : T.data.toList = t := by rw [hT]
  rw [e, ref_is_parse] at h
  exact h

set_option maxRecDepth 100000 in
set_option maxHeartbeats 1600000 in
theorem rbulk_other (v : Value) (b : Bs) (k : Nat) (w : World) (h : BytesV w v b) (hb : b.length ≤ 1000000) (hk : k ≤ b.length) (hh : ∀ c, b[k]? = some c → c ≠ 36) :
    Calls Tryd.prog 35 #[v, .int .i64 k] w (HEnd (bulk parseV (b.drop k)) k w) := by
  obtain ⟨ap, cap, rfl, hc, hn⟩ := h.parts
  have HB := Lib.hid h
  by_cases hlt : k < b.length
  · have hne := hh b[k] (List.getElem?_eq_getElem hlt)
    obtain ⟨c, hcc⟩ : ∃ c, c = b[k] := ⟨_, rfl⟩
    rw [← hcc] at hne
    have hM : bulk parseV (b.drop k) = .wrong (pErr ++ (sExp ++ shown c ++ [39])) := by
      unfold bulk
      rw [List.head?_drop, List.getElem?_eq_getElem hlt, ← hcc]
      simp only
      rw [if_pos hne]
      rfl
    rw [hM]
    obtain ⟨ad, rfl, hcell⟩ := RowV.cell (HB.out.keptNo ((Kept.refl _ w).alloc found0)) (i := k) (v := bv c) (by rw [List.getElem?_map, List.getElem?_eq_getElem hlt, hcc]; rfl)
    have hcell' : (w.alloc found0).cell? (ad.add k) = some (.int .u8 c.toNat) := hcell
    simp only [found0] at hcell'
    have hne' : ((c.toNat : Int) != 36) = true := by
      have : ¬ (c.toNat : Int) = 36 := fun e => hne (UInt8.toNat_inj.1 (by show c.toNat = 36; omega))
      simpa using this
    have hsl : (shown c).length = 1 := by unfold shown; split <;> rfl
    have hw := rwrong (sExp ++ shown c ++ [39]) (by rw [List.length_append, List.length_append, hsl]; decide)
    have e1 := str_app sExp (shown c)
    have e2 := str_app (sExp ++ shown c) [39]
    rw [← e2, ← e1] at hw
    have hs := rshown c (w.alloc found0)
    obtain ⟨S, hS⟩ : ∃ S : ByteArray, S = ⟨(shown c).toArray⟩ := ⟨_, rfl⟩
    have hS1 : S.size = 1 := by rw [hS]; exact hsl
    rw [← hS] at hw hs
    have HW := Lib.hid hw
    have HS := Lib.hid hs
    have hlI : (k : Int) < (b.length : Int) := by omega
    clear hM hcell hne hsl hw e1 e2 hs hS hh hcc h hn
    generalize b.length = n at *
    go_enter Tryd.func35, Tryd.ntmps35
    go_wp2_with (first | (go_at_call 46; refine HS.out.mono ?_; rintro e w1 ⟨rfl, hk1⟩) | (go_at_call 34; refine (HW.out w1).mono ?_; rintro e w2 ⟨rfl, hk2⟩; refine Hid.out ?_))
    obtain ⟨d0, d1, d2, d3, f0, f1, f2, f3⟩ := blk4 ((hk1.trans hk2).heap (heap_alloc_new w found0) (fun h => h))
    refine Lib.hid ?_
    go_wp2
    refine bodyPost_ret (v := .tuple #[.string ⟨#[]⟩, .int .i64 0, foundV 2 0 (.slice none 0 0) (pErr ++ (sExp ++ shown c ++ [39]))]) ((results_ttc rfl _ _ _).trans ?_) rfl ⟨((((Kept.refl NoBlock w).alloc _).trans hk1).trans hk2).own4 (Nat.le_refl _) _ _ _ _, rfl⟩
    go_simp
  · have hM : bulk parseV (b.drop k) = .wait := by
      unfold bulk
      rw [List.drop_of_length_le (by omega)]
      rfl
    rw [hM]
    have hlI : (b.length : Int) ≤ (k : Int) := by omega
    clear hM hh h hn
    generalize b.length = n at *
    go_enter Tryd.func35, Tryd.ntmps35
    go_wp2
    refine bodyPost_ret (v := .tuple #[.string ⟨#[]⟩, .int .i64 0, foundV 0 0 (.slice none 0 0) []]) ((results_ttc rfl _ _ _).trans ?_) rfl ⟨(Kept.refl NoBlock w).alloc _, rfl⟩
    go_simp

theorem take_drop' (b : Bs) (j N : Nat) : (b.take (j + N)).drop j = (b.drop j).take N := by
  rw [List.drop_take, Nat.add_sub_cancel_left]

/-- What stands behind a whole number. -/
noncomputable def bulkM (m : Bs) (t : Bs) (i : Nat) : Got (Bs × Nat) :=
  if (parseV t).2 ≠ 0 ∨ (parseV t).1 < 0 ∨ 65536 < (parseV t).1 then .wrong fBadB
  else if m.length < i + (parseV t).1.toNat + 2 then .wait else .ok ((m.drop i).take (parseV t).1.toNat, i + (parseV t).1.toNat + 2)

theorem bulk_M (m : Bs) (h : m.head? = some 36) : bulk parseV m = match headM fBigB m with
    | .wait => .wait
    | .wrong f => .wrong f
    | .ok (t, i) => bulkM m t i := by
  unfold bulk
  rw [h]
  simp only
  rw [if_neg (by simp), count_head]
  rcases headM fBigB m with _ | f | ⟨t, i⟩
  · rfl
  · rfl
  · simp only [bulkM]
    by_cases hc : (parseV t).2 ≠ 0 ∨ (parseV t).1 < 0 ∨ 65536 < (parseV t).1
    · rw [if_pos hc, if_pos hc]
    · rw [if_neg hc, if_neg hc]

/-- The walk behind a whole number, as one statement. -/
theorem bulkM_ways (b : Bs) (k : Nat) (t : Bs) (i : Nat) (hi : i ≤ b.length - k) (hk : k ≤ b.length) :
    ((parseV t).2 ≠ 0 ∧ bulkM (b.drop k) t i = .wrong fBadB) ∨
    ((parseV t).2 = 0 ∧ (parseV t).1 < 0 ∧ bulkM (b.drop k) t i = .wrong fBadB) ∨
    ((parseV t).2 = 0 ∧ 65536 < (parseV t).1 ∧ bulkM (b.drop k) t i = .wrong fBadB) ∨
    (∃ N : Nat, (parseV t).2 = 0 ∧ (parseV t).1 = N ∧ N ≤ 65536 ∧ b.length < k + i + N + 2 ∧ bulkM (b.drop k) t i = .wait) ∨
    (∃ N : Nat, (parseV t).2 = 0 ∧ (parseV t).1 = N ∧ N ≤ 65536 ∧ k + i + N + 2 ≤ b.length ∧ bulkM (b.drop k) t i = .ok ((b.take (k + i + N)).drop (k + i), i + N + 2)) := by
  unfold bulkM
  by_cases h1 : (parseV t).2 ≠ 0
  · left; exact ⟨h1, by rw [if_pos (.inl h1)]⟩
  have h1' : (parseV t).2 = 0 := by simpa using h1
  by_cases h2 : (parseV t).1 < 0
  · right; left; exact ⟨h1', h2, by rw [if_pos (.inr (.inl h2))]⟩
  by_cases h3 : 65536 < (parseV t).1
  · right; right; left; exact ⟨h1', h3, by rw [if_pos (.inr (.inr h3))]⟩
  obtain ⟨N, hN⟩ : ∃ N : Nat, (parseV t).1 = N := ⟨(parseV t).1.toNat, by omega⟩
  have hc : ¬ ((parseV t).2 ≠ 0 ∨ (parseV t).1 < 0 ∨ 65536 < (parseV t).1) := by omega
  rw [if_neg hc, hN, Int.toNat_natCast, List.length_drop, List.drop_drop]
  by_cases h4 : b.length - k < i + N + 2
  · right; right; right; left
    exact ⟨N, h1', rfl, by omega, by omega, by rw [if_pos h4]⟩
  · right; right; right; right
    exact ⟨N, h1', rfl, by omega, by omega, by rw [if_neg h4, take_drop']⟩

set_option maxRecDepth 100000 in
set_option maxHeartbeats 3200000 in
theorem rbulk_sign (v : Value) (b : Bs) (k : Nat) (w : World) (h : BytesV w v b) (hb : b.length ≤ 1000000) (hk : k < b.length) (h36 : b[k] = 36) :
    Calls Tryd.prog 35 #[v, .int .i64 k] w (HEnd (bulk parseV (b.drop k)) k w) := by
  obtain ⟨ap, cap, rfl, hc, hn⟩ := h.parts
  have HB := Lib.hid h
  have hM := bulk_M (b.drop k) (by rw [List.head?_drop, List.getElem?_eq_getElem hk, h36])
  have hh := rhead (.slice ap b.length cap) b k sBigB (by decide) (w.alloc found0) (HB.out.keptNo ((Kept.refl _ w).alloc _)) (by omega) hk (by rw [h36]; decide)
  rw [fBigB_eq] at hh
  have hok := fun t i => headM_ok (big := fBigB) (b := b.drop k) (t := t) (i := i)
  rw [List.length_drop] at hok
  have hway := fun t i h => bulkM_ways b k t i h (by omega)
  generalize headM fBigB (b.drop k) = Z at *
  obtain ⟨MM, hMM⟩ : ∃ MM, MM = bulk parseV (b.drop k) := ⟨_, rfl⟩
  rw [← hMM] at hM ⊢
  obtain ⟨ad, rfl, hcell⟩ := RowV.cell (HB.out.keptNo ((Kept.refl _ w).alloc found0)) (i := k) (v := bv 36) (by rw [List.getElem?_map, List.getElem?_eq_getElem hk, h36]; rfl)
  have hcell' : (w.alloc found0).cell? (ad.add k) = some (.int .u8 36) := hcell
  simp only [found0] at hcell'
  have hlI : (k : Int) < (b.length : Int) := by omega
  have HM := Lib.hid hM
  have HH := Lib.hid hh
  have HOK := Lib.hid hok
  have HWAY := Lib.hid hway
  have hwr := rwrong sBadB (by decide)
  rw [fBadB_eq] at hwr
  have HWR := Lib.hid hwr
  clear hM hh hok hway hcell hMM h36 h hn hwr
  obtain ⟨n, hnn⟩ : ∃ n, n = b.length := ⟨_, rfl⟩
  have HN := Lib.hid hnn
  rw [← hnn] at hb hc hlI HH HB ⊢
  have hkn : k < n := by omega
  clear hnn
  go_enter Tryd.func35, Tryd.ntmps35
  go_wp2_with fail
  refine HH.out.mono ?_
  rintro e w1 ⟨hk1, hend⟩
  have hg1 := hk1.heap (heap_alloc_new w found0) (fun h => h)
  have hs1 := hk1.size
  simp only [World.size_alloc] at hs1
  have hne : ¬ (w.heap.size = w1.heap.size) := by omega
  rcases Z with _ | f | ⟨t, i⟩
  · obtain rfl : MM = .wait := HM.out
    obtain rfl := hend
    obtain ⟨d0, d1, d2, d3, f0, f1, f2, f3⟩ := blk4 ((hk1.trans ((Kept.refl NoBlock w1).alloc (.cells #[.int .i64 0, .int .i64 0, .slice none 0 0, .string ⟨#[]⟩] 63))).heap (heap_alloc_new w found0) (fun h => h))
    go_wp2
    refine wp_plan 0 [1, 2] 3 [] [] (by kernel_rfl) (by kernel_rfl) ?_
    simp only [wpPlan, pick, List.filterMap_cons, List.filterMap_nil, List.getElem?_cons_succ, List.getElem?_cons_zero]
    repeat (quiet_step (fail))
    refine wpQuiet_nil ?_
    rintro _ ⟨n1, rfl⟩
    go_wp2
    refine Halt.mk ?_
    go_wp2
    refine bodyPost_ret (v := .tuple #[.string ⟨#[]⟩, .int .i64 0, foundV 0 0 (.slice none 0 0) []]) ((results_ttc rfl _ _ _).trans ?_) rfl ⟨(((((Kept.refl NoBlock w).alloc _).trans hk1).alloc _).drewN n1).own4 (Nat.le_refl _) _ _ _ _, rfl⟩
    go_simp
  · obtain rfl : MM = .wrong f := HM.out
    obtain rfl := hend
    obtain ⟨d0, d1, d2, d3, f0, f1, f2, f3⟩ := blk4 ((hk1.trans ((Kept.refl NoBlock w1).alloc (.cells #[.int .i64 2, .int .i64 0, .slice none 0 0, .string ⟨f.toArray⟩] 63))).heap (heap_alloc_new w found0) (fun h => h))
    go_wp2
    refine wp_plan 0 [1, 2] 3 [] [] (by kernel_rfl) (by kernel_rfl) ?_
    simp only [wpPlan, pick, List.filterMap_cons, List.filterMap_nil, List.getElem?_cons_succ, List.getElem?_cons_zero]
    repeat (quiet_step (fail))
    refine wpQuiet_nil ?_
    rintro _ ⟨n1, rfl⟩
    go_wp2
    refine Halt.mk ?_
    go_wp2
    refine bodyPost_ret (v := .tuple #[.string ⟨#[]⟩, .int .i64 0, foundV 2 0 (.slice none 0 0) f]) ((results_ttc rfl _ _ _).trans ?_) rfl ⟨(((((Kept.refl NoBlock w).alloc _).trans hk1).alloc _).drewN n1).own4 (Nat.le_refl _) _ _ _ _, rfl⟩
    go_simp
  · obtain ⟨hi1, hi2, ht⟩ := HOK.out t i rfl
    have hM2 : MM = bulkM (b.drop k) t i := HM.out
    obtain rfl := hend
    obtain ⟨T, hT⟩ : ∃ T : ByteArray, T = ⟨t.toArray⟩ := ⟨_, rfl⟩
    have hprs := fun W => nrparseV t T hT ht W
    obtain ⟨j, hj⟩ : ∃ j, j = k + i := ⟨_, rfl⟩
    rw [← hT, ← hj]
    have hway := HWAY.out t i hi2
    rw [← hM2, ← HN.out, ← hj] at hway
    have hk2 := hk1.trans ((Kept.refl NoBlock w1).alloc (.cells #[.int .i64 1, .int .i64 0, .slice none 0 0, .string ⟨#[]⟩] 63))
    have hk0 : Kept NoBlock w (w1.alloc (.cells #[.int .i64 1, .int .i64 0, .slice none 0 0, .string ⟨#[]⟩] 63)) := ((Kept.refl NoBlock w).alloc found0).trans hk2
    have hcv := fun N (h1 : j ≤ j + N) (h2 : j + N ≤ n) => conv_bytes (P := Tryd.prog) (w1.alloc (.cells #[.int .i64 1, .int .i64 0, .slice none 0 0, .string ⟨#[]⟩] 63)) 22 9 5 Tryd.underlying22 Tryd.underlying5 Tryd.underlying9 (cap - j) (RowV.holds (BytesV.part (HB.out.keptNo hk0) j (j + N) h1 h2)).1
    have hjn : j ≤ n := by rw [HN.out]; omega
    have HCV := Lib.hid hcv
    have HPR := Lib.hid hprs
    have HJ := Lib.hid hj
    generalize (parseV t).1 = PV at *
    generalize (parseV t).2 = PE at *
    have h2s := hk2.size
    obtain ⟨d0, d1, d2, d3, f0, f1, f2, f3⟩ := blk4 (hk2.heap (heap_alloc_new w found0) (fun h => h))
    clear hi2 ht hM2 hT hprs hj hcv HM HH HOK HWAY hcell' hg1
    rcases hway with ⟨h1, rfl⟩ | ⟨rfl, h2, rfl⟩ | ⟨rfl, h2, rfl⟩ | ⟨N, rfl, rfl, hN, h2, rfl⟩ | ⟨N, rfl, rfl, hN, h2, rfl⟩
    · have hPE : (PE != 0) = true := by simpa using h1
      clear h1
      go_wp2_with (first | (go_at_call 33; refine (HPR.out _).mono ?_; rintro e w' ⟨rfl, rfl⟩) | (go_at_call 34; refine (HWR.out _).mono ?_; rintro e w3 ⟨rfl, hk3⟩; refine Hid.out ?_))
      obtain ⟨d0, d1, d2, d3, f0, f1, f2, f3⟩ := blk4 ((hk2.trans hk3).heap (heap_alloc_new w found0) (fun h => h))
      refine Lib.hid ?_
      go_wp2
      refine bodyPost_ret (v := .tuple #[.string ⟨#[]⟩, .int .i64 0, foundV 2 0 (.slice none 0 0) fBadB]) ((results_ttc rfl _ _ _).trans ?_) rfl ⟨(hk0.trans hk3).own4 (Nat.le_refl _) _ _ _ _, rfl⟩
      go_simp
    · have hp0 : ¬ (0 ≤ PV) := by omega
      go_wp2_with (first | (go_at_call 33; refine (HPR.out _).mono ?_; rintro e w' ⟨rfl, rfl⟩) | (go_at_call 34; refine (HWR.out _).mono ?_; rintro e w3 ⟨rfl, hk3⟩; refine Hid.out ?_))
      obtain ⟨d0, d1, d2, d3, f0, f1, f2, f3⟩ := blk4 ((hk2.trans hk3).heap (heap_alloc_new w found0) (fun h => h))
      refine Lib.hid ?_
      go_wp2
      refine bodyPost_ret (v := .tuple #[.string ⟨#[]⟩, .int .i64 0, foundV 2 0 (.slice none 0 0) fBadB]) ((results_ttc rfl _ _ _).trans ?_) rfl ⟨(hk0.trans hk3).own4 (Nat.le_refl _) _ _ _ _, rfl⟩
      go_simp
    · have hp0 : ¬ (PV < 0) := by omega
      have hp1 : ¬ (PV ≤ 65536) := by omega
      go_wp2_with (first | (go_at_call 33; refine (HPR.out _).mono ?_; rintro e w' ⟨rfl, rfl⟩) | (go_at_call 34; refine (HWR.out _).mono ?_; rintro e w3 ⟨rfl, hk3⟩; refine Hid.out ?_))
      obtain ⟨d0, d1, d2, d3, f0, f1, f2, f3⟩ := blk4 ((hk2.trans hk3).heap (heap_alloc_new w found0) (fun h => h))
      refine Lib.hid ?_
      go_wp2
      refine bodyPost_ret (v := .tuple #[.string ⟨#[]⟩, .int .i64 0, foundV 2 0 (.slice none 0 0) fBadB]) ((results_ttc rfl _ _ _).trans ?_) rfl ⟨(hk0.trans hk3).own4 (Nat.le_refl _) _ _ _ _, rfl⟩
      go_simp
    · have h2' : (n : Int) - (j : Int) < (N : Int) + 2 := by omega
      go_wp2_with (go_at_call 33; refine (HPR.out _).mono ?_; rintro e w' ⟨rfl, rfl⟩)
      refine bodyPost_ret (v := .tuple #[.string ⟨#[]⟩, .int .i64 0, foundV 0 0 (.slice none 0 0) []]) ((results_ttc rfl _ _ _).trans ?_) rfl ⟨hk0.own4 (Nat.le_refl _) _ _ _ _, rfl⟩
      go_simp
    · have h2' : ¬ (n : Int) - (j : Int) < (N : Int) + 2 := by omega
      have hcv := HCV.out N (by omega) (by omega)
      rw [Nat.add_sub_cancel_left] at hcv
      obtain ⟨X, hX⟩ : ∃ X : ByteArray, X = ⟨((b.take (j + N)).drop j).toArray⟩ := ⟨_, rfl⟩
      rw [← hX] at hcv
      have HX := Lib.hid hX
      have hnx : (j : Int) + (N : Int) + 2 = ((k + (i + N + 2) : Nat) : Int) := by have := HJ.out; omega
      have HNX := Lib.hid hnx
      clear hX hnx HCV
      go_wp2_with (go_at_call 33; refine (HPR.out _).mono ?_; rintro e w' ⟨rfl, rfl⟩)
      refine bodyPost_ret (v := .tuple #[.string X, .int .i64 ((j : Int) + (N : Int) + 2), foundV 1 0 (.slice none 0 0) []]) ((results_ttc rfl _ _ _).trans ?_) rfl ⟨hk0.own4 (Nat.le_refl _) _ _ _ _, by rw [HX.out, HNX.out]⟩
      go_simp

theorem rbulk (v : Value) (b : Bs) (k : Nat) (w : World) (h : BytesV w v b) (hb : b.length ≤ 1000000) (hk : k ≤ b.length) :
    Calls Tryd.prog 35 #[v, .int .i64 k] w (HEnd (bulk parseV (b.drop k)) k w) := by
  by_cases hlt : k < b.length
  · by_cases h36 : b[k] = 36
    · exact rbulk_sign v b k w h hb hlt h36
    · exact rbulk_other v b k w h hb hk (fun c hc => by rw [List.getElem?_eq_getElem hlt] at hc; rw [← Option.some.inj hc]; exact h36)
  · exact rbulk_other v b k w h hb hk (fun c hc => by rw [List.getElem?_eq_none (by omega)] at hc; cases hc)
end Go.Proofs.YtdfkdbdhaaiadaaDoor
