/- The document's requests: a line; the first request. -/
import Derived.Test.YtdfkdbdhaaiadaaDoorRs5
import Derived.Test.YtdfkdbdhaaiadaaDoorRs7
namespace Go.Proofs.YtdfkdbdhaaiadaaDoor
open Go.RowKit
attribute [local go_sem] fold_part fold_some fold_some' partAt_zero

def sLine : Bs := fLine.drop 16
def sQuo : Bs := fQuo.drop 16
theorem fLine_eq : pErr ++ sLine = fLine := rfl
theorem fQuo_eq : pErr ++ sQuo = fQuo := rfl

theorem str_take (l : Bs) (k : Nat) : (⟨l.toArray⟩ : ByteArray).extract 0 k = ⟨(l.take k).toArray⟩ := by
  apply ByteArray.ext
  rw [ByteArray.data_extract]
  simp

theorem wordsA_congr (L : List Bs) {s s' : Bs} (h : skipB s = skipB s') : wordsA L s = wordsA L s' := by
  cases hs : skipB s with
  | nil => rw [wordsA_nil hs, wordsA_nil (by rw [← h, hs])]
  | cons c r =>
    cases hw : wordA [] (c :: r) with
    | none => rw [wordsA_none hs hw, wordsA_none (by rw [← h, hs]) hw]
    | some pt => obtain ⟨p, t⟩ := pt; exact (wordsA_some hs hw).trans (wordsA_some (h ▸ hs) hw).symm

theorem bare_eq (s : Bs) : bare s = if s.getLast? = some 13 then s.take (s.length - 1) else s := by
  unfold bare
  rw [List.dropLast_eq_take]

/-- What becomes of a line's words. -/
def lineM (M : Option (List Bs)) (f : Nat) : Got (List Bs × Nat) :=
  match M with
  | none => .wrong fQuo
  | some l => if 1024 < l.length then .wrong fBadM else .ok (l, f + 1)

theorem line_M (b : Bs) : line b = if fnd 10 b < 0 then (if 65536 < b.length then .wrong fLine else .wait) else lineM (wordsA [] (bare (b.take (fnd 10 b).toNat))) (fnd 10 b).toNat := by
  unfold line lineM
  by_cases h : fnd 10 b < 0
  · rw [if_pos h, if_pos h]
  · rw [if_neg h, if_neg h]
    rcases wordsA [] (bare (b.take (fnd 10 b).toNat)) with _ | l <;> rfl

set_option maxRecDepth 100000 in
set_option maxHeartbeats 3200000 in
theorem rline_none (v : Value) (b : Bs) (w : World) (h : BytesV w v b) (hb : b.length ≤ 1000000) (hf : fnd 10 b < 0) :
    Calls Tryd.prog 27 #[v] w (FEnd (line b) w) := by
  obtain ⟨ap, cap, rfl, hc, hn⟩ := h.parts
  have HB := Lib.hid h
  have hM := line_M b
  rw [if_pos hf] at hM
  have hfd := fun W h => rfind (.slice ap b.length cap) b 0 10 10 rfl W h (by omega) (Nat.zero_le _)
  have hF : findV 10 b 0 = -1 := by unfold findV; rw [List.drop_zero, if_pos hf]
  rw [hF] at hfd
  have HFD := Lib.hid hfd
  have hwr := rwrong sLine (by decide)
  rw [fLine_eq] at hwr
  have HWR := Lib.hid hwr
  clear hfd hF h hn hf hwr
  generalize line b = MM at *
  generalize b.length = n at *
  by_cases h2 : 65536 < n
  · rw [if_pos h2] at hM
    subst hM
    have h2' : (65536 : Int) < (n : Int) := by omega
    go_enter Tryd.func27, Tryd.ntmps27
    go_wp2_with (first | (go_at_call 36; refine (HFD.out _ (BytesV.keptNo HB.out ((Kept.refl _ w).alloc _))).mono ?_; rintro e w1 ⟨rfl, rfl⟩) | (go_at_call 34; refine (HWR.out _).mono ?_; rintro e w2 ⟨rfl, hk2⟩; refine Hid.out ?_))
    obtain ⟨d0, d1, d2, d3, f0, f1, f2, f3⟩ := blk4 (hk2.heap (heap_alloc_new w found0) (fun h => h))
    refine Lib.hid ?_
    go_wp2
    refine bodyPost_ret (v := foundV 2 0 (.slice none 0 0) fLine) ((results_cell rfl _ _ _).trans ?_) rfl ⟨(((Kept.refl NoBlock w).alloc _).trans hk2).own4 (Nat.le_refl _) _ _ _ _, rfl⟩
    go_simp
  · rw [if_neg h2] at hM
    subst hM
    have h2' : ¬ (65536 : Int) < (n : Int) := by omega
    go_enter Tryd.func27, Tryd.ntmps27
    go_wp2_with (go_at_call 36; refine (HFD.out _ (BytesV.keptNo HB.out ((Kept.refl _ w).alloc _))).mono ?_; rintro e w1 ⟨rfl, rfl⟩)
    refine bodyPost_ret (v := foundV 0 0 (.slice none 0 0) []) ((results_cell rfl _ _ _).trans ?_) rfl ⟨(Kept.refl NoBlock w).alloc _, rfl⟩
    go_simp

set_option maxRecDepth 100000 in
set_option maxHeartbeats 6400000 in
theorem rline_some (v : Value) (b : Bs) (w : World) (h : BytesV w v b) (hb : b.length ≤ 1000000) (hf : 0 ≤ fnd 10 b) :
    Calls Tryd.prog 27 #[v] w (FEnd (line b) w) := by
  obtain ⟨ap, cap, rfl, hc, hn⟩ := h.parts
  have HB := Lib.hid h
  have hM := line_M b
  rw [if_neg (by omega)] at hM
  have hfd := fun W h => rfind (.slice ap b.length cap) b 0 10 10 rfl W h (by omega) (Nat.zero_le _)
  have hfl := (fnd_lt (c := 10) (a := b) hf).1
  obtain ⟨f, hff⟩ : ∃ f, f = (fnd 10 b).toNat := ⟨_, rfl⟩
  have hF : findV 10 b 0 = (f : Int) := by unfold findV; rw [List.drop_zero, if_neg (by omega)]; omega
  rw [hF] at hfd
  rw [← hff] at hM hfl
  have HFD := Lib.hid hfd
  have hw0 : Kept NoBlock w (w.alloc found0) := (Kept.refl NoBlock w).alloc _
  have hcv := conv_bytes (P := Tryd.prog) (w.alloc found0) 22 9 5 Tryd.underlying22 Tryd.underlying5 Tryd.underlying9 cap (RowV.holds (BytesV.front (HB.out.keptNo hw0) f (by omega))).1
  have hwq := rwrong sQuo (by decide)
  rw [fQuo_eq] at hwq
  have hwb := rwrong sBadM (by decide)
  rw [fBadM_eq] at hwb
  have hbare := bare_eq (b.take f)
  have hbl : (bare (b.take f)).length ≤ f := by rw [hbare]; split <;> simp only [List.length_take] <;> omega
  have hlen : (b.take f).length = f := by rw [List.length_take]; omega
  -- the test on the byte ahead
  have htest : (f = 0 ∧ bare (b.take f) = b.take f) ∨ (0 < f ∧ ∃ c, b[f - 1]? = some c ∧ ((c = 13 ∧ bare (b.take f) = (b.take f).take (f - 1)) ∨ (c ≠ 13 ∧ bare (b.take f) = b.take f))) := by
    rcases Nat.eq_zero_or_pos f with h0 | h0
    · left; subst h0; exact ⟨rfl, rfl⟩
    · right
      refine ⟨h0, b[f - 1], List.getElem?_eq_getElem (by omega), ?_⟩
      have hgl : (b.take f).getLast? = some b[f - 1] := by
        rw [List.getLast?_eq_getElem?, hlen, List.getElem?_take, if_pos (by omega), List.getElem?_eq_getElem (by omega)]
      by_cases h13 : b[f - 1] = 13
      · left; exact ⟨h13, by rw [hbare, hgl, h13, if_pos rfl, hlen]⟩
      · right; exact ⟨h13, by rw [hbare, hgl, if_neg (by simp [h13])]⟩
  obtain ⟨X, hX⟩ : ∃ X, X = bare (b.take f) := ⟨_, rfl⟩
  rw [← hX] at hM hbl htest
  have hst := str_take (b.take f)
  obtain ⟨S, hS⟩ : ∃ S : ByteArray, S = ⟨(b.take f).toArray⟩ := ⟨_, rfl⟩
  have hSs := str_size0 hS
  rw [← hS] at hcv hst
  obtain ⟨T, hT⟩ : ∃ T : ByteArray, T = ⟨X.toArray⟩ := ⟨_, rfl⟩
  have hTs := str_size0 hT
  have hway : (f = 0 ∧ S = T) ∨ (0 < f ∧ ∃ c, b[f - 1]? = some c ∧ ((c = 13 ∧ S.extract 0 (f - 1) = T) ∨ (c ≠ 13 ∧ S = T))) := by
    rcases htest with ⟨h1, h2⟩ | ⟨h1, c, h2, h3⟩
    · exact .inl ⟨h1, by rw [hS, hT, h2]⟩
    · refine .inr ⟨h1, c, h2, h3.imp (fun ⟨h4, h5⟩ => ⟨h4, by rw [hst, hT, h5]⟩) (fun ⟨h4, h5⟩ => ⟨h4, by rw [hS, hT, h5]⟩)⟩
  have hwd := fun k (hk : k ≤ X.length) W => rword X k hk (by omega) W
  rw [← hT] at hwd
  obtain ⟨MM, hMM⟩ : ∃ MM, MM = line b := ⟨_, rfl⟩
  rw [← hMM] at hM ⊢
  have HM := Lib.hid hM
  have HWD := Lib.hid hwd
  have HWQ := Lib.hid hwq
  have HWB := Lib.hid hwb
  have HT := Lib.hid hT
  have hf6 : f ≤ 1000000 := by omega
  have hSf : S.size = f := by rw [hSs, hlen]
  have HSF := Lib.hid hSf
  have hTf : T.size ≤ f := by omega
  have HTS := Lib.hid hTs
  have HWAY := Lib.hid hway
  obtain ⟨n, hnn⟩ : ∃ n, n = b.length := ⟨_, rfl⟩
  rw [← hnn] at hb hc hfl HB HFD ⊢
  have hfI : (f : Int) ≤ (n : Int) := by omega
  have hfI2 : f ≤ n := by omega
  have hS1 : f ≤ S.size := by omega
  have hS2 : S.size ≤ f := by omega
  have HSS := Lib.hid (show ∀ c, b[f - 1]? = some c → ∃ ad, ap = some ad ∧ (w.alloc found0).cell? (ad.add (f - 1)) = some (.int .u8 c.toNat) from fun c hcb => RowV.cell (HB.out.keptNo hw0) (i := f - 1) (v := bv c) (by rw [List.getElem?_map, hcb]; rfl))
  have hKF : Kept NoBlock (w.alloc found0) (w.alloc found0) := Kept.refl _ _
  have HKF := Lib.hid hKF
  have hXl : X.length = T.size := hTs.symm
  have HXL := Lib.hid hXl
  clear hfd hF h hn hf hff hbare hbl htest hX hst hS hSs hT hTs hwd hMM hM hwq hwb hlen hw0 hway hSf hnn HSF HTS hKF hXl
  rcases HWAY.out with ⟨hz, hST⟩ | ⟨hz, c, hcb, ⟨h13, hST⟩ | ⟨h13, hST⟩⟩
  focus
    have hn0 : ¬ ((0 : Int) < (f : Int)) := by omega
    have hn1 : ¬ (0 < f) := by omega
    obtain rfl : T = S := hST.symm
    clear hz HWAY HSS
    go_enter Tryd.func27, Tryd.ntmps27
    go_wp2_with (go_at_call 36; refine (HFD.out _ (BytesV.keptNo HB.out ((Kept.refl _ w).alloc _))).mono ?_; rintro e w1 ⟨rfl, rfl⟩)
  rotate_left 1
  all_goals try (
    obtain ⟨ad, rfl, hcell⟩ := HSS.out c hcb
    have hn0 : ((0 : Int) < (f : Int)) := by omega
    have hq1 : ((f : Int) - 1).toNat = f - 1 := by omega
    have hq2 : (0 : Int) ≤ (f : Int) - 1 := by omega
    have hq3 : (1 : Int) ≤ (f : Int) := by omega
    have hq4 : f - 1 < n := by omega
    have hq5 : (f : Int) - 1 < (n : Int) := by omega
    have hq6 : f - 1 ≤ S.size := by omega
    simp only [found0] at hcell
    clear HWAY HSS hcb)
  focus
    subst h13
    go_enter Tryd.func27, Tryd.ntmps27
    go_wp2_with (go_at_call 36; refine (HFD.out _ (BytesV.keptNo HB.out ((Kept.refl _ w).alloc _))).mono ?_; rintro e w1 ⟨rfl, rfl⟩)
  rotate_left 1
  focus
    obtain rfl : T = S := hST.symm
    have h13' : ((c.toNat : Int) == 13) = false := by
      have : ¬ (c.toNat : Int) = 13 := fun e => h13 (UInt8.toNat_inj.1 (by show c.toNat = 13; omega))
      simpa using this
    clear h13
    go_enter Tryd.func27, Tryd.ntmps27
    go_wp2_with (go_at_call 36; refine (HFD.out _ (BytesV.keptNo HB.out ((Kept.refl _ w).alloc _))).mono ?_; rintro e w1 ⟨rfl, rfl⟩)
  all_goals
    clear hcv HFD hS1 hS2
    try clear hn1
    clear hn0 hST
    go_loopw [5, 6] (fun vl vi wr => ∃ (i : Nat) (L : List Bs), vi = .int .i64 i ∧ i ≤ T.size ∧ OwnS wr (w.heap.size + 1) vl L ∧ MM = lineM (wordsA L (X.drop i)) f ∧ L.length ≤ i ∧ Kept NoBlock (w.alloc found0) wr) (fun _ vi _ => T.size - (intOf vi).toNat)
    case atStart => exact ⟨0, [], rfl, Nat.zero_le _, OwnS.nil _ _, HM.out, Nat.zero_le _, HKF.out⟩
    case round =>
      obtain ⟨i, L, rfl, hi, hO, hMM, hL, hK⟩ := hrel
      obtain ⟨ap5, cap5, rfl, _⟩ := ownsRow_form hO
      have HO := Lib.hid hO
      have HMM := Lib.hid hMM
      have HK := Lib.hid hK
      have hszr : w.heap.size + 1 ≤ wr.heap.size := by have := hK.size; simpa using this
      have hk0 : Kept NoBlock w wr := ((Kept.refl NoBlock w).alloc found0).trans hK
      have hgr := hK.heap (heap_alloc_new w found0) (fun h => h)
      clear HM HKF hO hMM hK
      by_cases hlt : i < T.size
      · have hil : i < X.length := by rw [HXL.out]; exact hlt
        have hdc := drop_cons hil
        obtain ⟨x, hx⟩ : ∃ x, x = X[i] := ⟨_, rfl⟩
        obtain ⟨r, hr⟩ : ∃ r, r = X.drop (i + 1) := ⟨_, rfl⟩
        rw [← hx, ← hr] at hdc
        obtain ⟨hi1, ei⟩ := str_at HT.out (i := i) (c := x) (by rw [List.getElem?_eq_getElem hil, hx])
        have hpb := fun W => rblank x W
        have HR := Lib.hid hr
        have HD := Lib.hid hdc
        clear hr hdc hx
        cases hbl : blank x with
        | true =>
          rw [hbl] at hpb
          have hM2 : MM = lineM (wordsA L (X.drop (i + 1))) f := by
            rw [HMM.out, HD.out, wordsA_congr L (skipB_blank hbl), HR.out]
          have HM2 := Lib.hid hM2
          clear hM2 HMM hbl hgr
          go_wp2_with (go_at_call 37; refine (hpb _).mono ?_; rintro e w' ⟨rfl, rfl⟩)
          go_roundw
          case rel => exact ⟨i + 1, L, by go_num, by omega, HO.out, HM2.out, by omega, HK.out⟩
          case measure => simp [intOf]; omega
        | false =>
          rw [hbl] at hpb
          have hcall := HWD.out i (by rw [HXL.out]; exact hi) wr
          have hsk := skipB_not (r := r) hbl
          have hMs : ∀ p t, wordA [] (X.drop i) = some (p, t) → MM = lineM (wordsA (L ++ [p]) t) f := fun p t h => by
            rw [HD.out] at h
            rw [HMM.out, HD.out, wordsA_some hsk h]
          have hMn : wordA [] (X.drop i) = none → MM = .wrong fQuo := fun h => by
            rw [HD.out] at h
            rw [HMM.out, HD.out, wordsA_none hsk h]; rfl
          have hwl := fun p t (h : wordA [] (X.drop i) = some (p, t)) => (wordA_len (X.drop i).length (X.drop i) [] p t (Nat.le_refl _) h).2.2 x r HD.out hbl
          rw [List.length_drop, HXL.out] at hwl
          generalize wordA [] (X.drop i) = Z at *
          have HC := Lib.hid hcall
          have HMs := Lib.hid hMs
          have HMn := Lib.hid hMn
          have HWL := Lib.hid hwl
          clear hcall hMs hMn hwl hsk hbl HMM
          go_wp2_with (go_at_call 37; refine (hpb _).mono ?_; rintro e w' ⟨rfl, rfl⟩)
          refine HC.out.mono ?_
          rintro e w2 ⟨hk2, hend⟩
          have hg2 := hk2.heap hgr (fun h => h)
          rcases Z with _ | ⟨p, t⟩
          · obtain rfl : MM = .wrong fQuo := HMn.out rfl
            obtain rfl := hend
            clear hgr
            go_wp2_with (go_at_call 34; refine (HWQ.out _).mono ?_; rintro e w3 ⟨rfl, hk3⟩; refine Hid.out ?_)
            obtain ⟨d0, d1, d2, d3, f0, f1, f2, f3⟩ := blk4 (hk3.heap hg2 (fun h => h))
            refine Lib.hid ?_
            go_wp2
            (try simp only [Exit.inBlock, Exit.then]); refine bodyPost_ret (v := foundV 2 0 (.slice none 0 0) fQuo) ((results_cell rfl _ _ _).trans ?_) rfl ⟨((hk0.trans hk2).trans hk3).own4 (Nat.le_refl _) _ _ _ _, rfl⟩
            go_simp
          · obtain ⟨j, rfl, hj, ht⟩ := hend
            have hM2 : MM = lineM (wordsA (L ++ [p]) (X.drop j)) f := by rw [HMs.out p t rfl, ht]
            have hjt := HWL.out p t rfl
            have htl := congrArg List.length ht
            rw [List.length_drop, HXL.out] at htl
            have hjX : j ≤ T.size := by rw [← HXL.out]; exact hj
            have hji : i < j := by omega
            have hOS : OwnS w2 (w.heap.size + 1) (.slice ap5 L.length cap5) L := OwnS.kept2 HO.out hk2
            have HK2 := Lib.hid (HK.out.trans hk2)
            have hs2 := hk2.size
            have HM2 := Lib.hid hM2
            have hL6 : L.length ≤ 1000000 := by omega
            clear hgr hg2 hM2 hjt htl hj ht HMs HMn HWL HC HO hk2 hk0
            go_wp2_with (at_builtin; go_loud (refine wpList_appS rfl _ _ rfl (w.heap.size + 1) _ L rfl (hOS.kept2 ((Kept.refl _ w2).alloc _)) _ p rfl (heap_alloc_new w2 _) (by omega) (by simp; omega) ?_; intro v5 w3 happ; refine Hid.out ?_))
            have hk3 := happ.kept (hOS.kept2 ((Kept.refl _ w2).alloc _)) (by simp) (HK2.out.alloc _)
            have HAP := Lib.hid happ
            have HK3 := Lib.hid hk3
            clear happ hk3 hOS
            refine Lib.hid ?_
            go_wp2
            go_roundw
            case rel => exact ⟨j, L ++ [p], rfl, hjX, HAP.out.own, HM2.out, by rw [List.length_append, List.length_singleton]; omega, HK3.out⟩
            case measure => simp [intOf]; omega
      · have hdn : X.drop i = [] := List.drop_of_length_le (by rw [HXL.out]; omega)
        have hM2 : MM = lineM (some L) f := by rw [HMM.out, hdn, wordsA_nil rfl]
        unfold lineM at hM2
        simp only at hM2
        clear HMM hdn
        by_cases h6 : 1024 < L.length
        · rw [if_pos h6] at hM2
          subst hM2
          have h6' : (1024 : Int) < (L.length : Int) := by omega
          go_wp2_with (go_at_call 34; refine (HWB.out _).mono ?_; rintro e w3 ⟨rfl, hk3⟩; refine Hid.out ?_)
          obtain ⟨d0, d1, d2, d3, f0, f1, f2, f3⟩ := blk4 (hk3.heap hgr (fun h => h))
          refine Lib.hid ?_
          go_wp2
          (try simp only [Exit.inBlock, Exit.then]); refine bodyPost_ret (v := foundV 2 0 (.slice none 0 0) fBadM) ((results_cell rfl _ _ _).trans ?_) rfl ⟨(hk0.trans hk3).own4 (Nat.le_refl _) _ _ _ _, rfl⟩
          go_simp
        · rw [if_neg h6] at hM2
          subst hM2
          have h6' : ¬ (1024 : Int) < (L.length : Int) := by omega
          obtain ⟨d0, d1, d2, d3, f0, f1, f2, f3⟩ := blk4 hgr
          clear hgr
          go_wp2
          (try simp only [Exit.inBlock, Exit.then]); refine bodyPost_ret (v := foundV 1 ((f : Int) + 1) (.slice ap5 L.length cap5) []) ((results_cell rfl _ _ _).trans ?_) rfl ⟨hk0.own4 (Nat.le_refl _) _ _ _ _, _, by rw [show ((f + 1 : Nat) : Int) = (f : Int) + 1 by omega], ownsRow_lower (OwnS.own4 HO.out (Nat.lt_succ_self _) _ _ _ _) (Nat.le_succ _)⟩
          go_simp
end Go.Proofs.YtdfkdbdhaaiadaaDoor
