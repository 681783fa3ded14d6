/- The document's requests: a row of texts. -/
import Derived.Test.YtdfkdbdhaaiadaaDoorRs4
namespace Go.Proofs.YtdfkdbdhaaiadaaDoor
open Go.RowKit
attribute [local go_sem] fold_part fold_some fold_some' partAt_zero

def sBigM : Bs := [116, 111, 111, 32, 98, 105, 103, 32, 109, 98, 117, 108, 107, 32, 99, 111, 117, 110, 116, 32, 115, 116, 114, 105, 110, 103]
def sBadM : Bs := [105, 110, 118, 97, 108, 105, 100, 32, 109, 117, 108, 116, 105, 98, 117, 108, 107, 32, 108, 101, 110, 103, 116, 104]
theorem fBigM_eq : pErr ++ sBigM = fBigM := rfl
theorem fBadM_eq : pErr ++ sBadM = fBadM := rfl

theorem parseV_64 (t : Bs) : -9223372036854775808 ≤ (parseV t).1 ∧ (parseV t).1 ≤ 9223372036854775807 := by
  rcases parseV_cases t with h1 | ⟨v, h1, h2, h3, h4⟩
  · rw [h1]; decide
  · rw [h1]; exact ⟨h3, h4⟩

/-- What the document's functions leave that hand back what stands at the beginning. -/
def FEnd (M : Got (List Bs × Nat)) (w : World) (e : Ending) (w' : World) : Prop :=
  Kept NoBlock w w' ∧ match M with
  | .wait => e = .returned (foundV 0 0 (.slice none 0 0) [])
  | .wrong f => e = .returned (foundV 2 0 (.slice none 0 0) f)
  | .ok (l, m) => ∃ v, e = .returned (foundV 1 m v []) ∧ OwnS w' w.heap.size v l

theorem bulks_M (b : Bs) : bulks parseV b = match headM fBigM b with
    | .wait => .wait
    | .wrong f => .wrong f
    | .ok (t, i) => if (parseV t).2 ≠ 0 ∨ 1024 < (parseV t).1 then .wrong fBadM else bulksA parseV (parseV t).1.toNat i [] (b.drop i) := by
  unfold bulks
  rw [count_head]
  rcases headM fBigM b with _ | f | ⟨t, i⟩
  · rfl
  · rfl
  · have h64 := parseV_64 t
    simp only
    by_cases hc : (parseV t).2 ≠ 0 ∨ 1024 < (parseV t).1
    · rw [if_pos hc, if_pos (by omega)]
    · rw [if_neg hc, if_neg (by omega)]

theorem heap_own4 {w : World} {g k : Nat} (hne : k ≠ g) (a b c d : Value) : ((((w.setCell ⟨g, 0, none⟩ a).setCell ⟨g, 1, none⟩ b).setCell ⟨g, 2, none⟩ c).setCell ⟨g, 3, none⟩ d).heap[k]? = w.heap[k]? := by
  rw [heap_setCell_ne _ _ hne, heap_setCell_ne _ _ hne, heap_setCell_ne _ _ hne, heap_setCell_ne _ _ hne]
theorem OwnS.own4 {w : World} {base : Nat} {v : Value} {L : List Bs} (h : OwnS w base v L) {g : Nat} (hg : g < base) (a b c d : Value) : OwnS ((((w.setCell ⟨g, 0, none⟩ a).setCell ⟨g, 1, none⟩ b).setCell ⟨g, 2, none⟩ c).setCell ⟨g, 3, none⟩ d) base v L := by
  refine ⟨h.1, ?_⟩
  rcases h.2 with h' | ⟨q, cap, cur, e1, e2, e3, rest⟩
  · exact .inl h'
  · exact .inr ⟨q, cap, cur, e1, e2, by rw [heap_own4 (by omega)]; exact e3, rest⟩

theorem heap_new1 (w : World) (o o' : Obj) : ((w.alloc o).alloc o').heap[w.heap.size + 1]? = some o' := by
  have := heap_alloc_new (w.alloc o) o'; rwa [World.size_alloc] at this

set_option maxRecDepth 100000 in
set_option maxHeartbeats 3200000 in
theorem rbulks (v : Value) (b : Bs) (w : World) (h : BytesV w v b) (hb : b.length ≤ 1000000) (c : UInt8) (hc0 : b.head? = some c) (hc13 : c ≠ 13) :
    Calls Tryd.prog 26 #[v] w (FEnd (bulks parseV b) w) := by
  obtain ⟨ap, cap, rfl, hc, hn⟩ := h.parts
  have HB := Lib.hid h
  have hM := bulks_M b
  have hpos : 0 < b.length := by cases b with | nil => cases hc0 | cons x r => simp
  have hb0 : b[0] = c := by cases b with | nil => cases hc0 | cons x r => simpa using hc0
  have hh := rhead (.slice ap b.length cap) b 0 sBigM (by decide) (w.alloc found0) (HB.out.keptNo ((Kept.refl _ w).alloc _)) (by omega) hpos (by rw [hb0]; exact hc13)
  rw [fBigM_eq, List.drop_zero] at hh
  have hok := fun t i => headM_ok (big := fBigM) (b := b) (t := t) (i := i)
  generalize headM fBigM b = Z at *
  obtain ⟨MM, hMM⟩ : ∃ MM, MM = bulks parseV b := ⟨_, rfl⟩
  rw [← hMM] at hM ⊢
  have HM := Lib.hid hM
  have HH := Lib.hid hh
  have HOK := Lib.hid hok
  have hwr := rwrong sBadM (by decide)
  rw [fBadM_eq] at hwr
  have HWR := Lib.hid hwr
  clear hM hh hok hMM h hn hwr hb0 hc0 hc13
  obtain ⟨n, hnn⟩ : ∃ n, n = b.length := ⟨_, rfl⟩
  have HN := Lib.hid hnn
  rw [← hnn] at hb hc hpos HH HB ⊢
  clear hnn
  go_enter Tryd.func26, Tryd.ntmps26
  go_wp2_with fail
  refine HH.out.mono ?_
  rintro e w1 ⟨hk1, hend⟩
  have hg1 := hk1.heap (heap_alloc_new w found0) (fun h => h)
  have hs1 := hk1.size
  simp only [World.size_alloc] at hs1
  have hne : ¬ (w.heap.size = w1.heap.size) := by omega
  rcases Z with _ | f | ⟨t, i⟩
  · obtain rfl : MM = .wait := HM.out
    obtain rfl := hend
    obtain ⟨d0, d1, d2, d3, f0, f1, f2, f3⟩ := blk4 ((hk1.trans ((Kept.refl NoBlock w1).alloc (.cells #[.int .i64 0, .int .i64 0, .slice none 0 0, .string ⟨#[]⟩] 63))).heap (heap_alloc_new w found0) (fun h => h))
    go_wp2
    refine bodyPost_ret (v := foundV 0 0 (.slice none 0 0) []) ((results_cell rfl _ _ _).trans ?_) rfl ⟨((((Kept.refl NoBlock w).alloc _).trans hk1).alloc _).own4 (Nat.le_refl _) _ _ _ _, rfl⟩
    go_simp
  · obtain rfl : MM = .wrong f := HM.out
    obtain rfl := hend
    obtain ⟨d0, d1, d2, d3, f0, f1, f2, f3⟩ := blk4 ((hk1.trans ((Kept.refl NoBlock w1).alloc (.cells #[.int .i64 2, .int .i64 0, .slice none 0 0, .string ⟨f.toArray⟩] 63))).heap (heap_alloc_new w found0) (fun h => h))
    go_wp2
    refine bodyPost_ret (v := foundV 2 0 (.slice none 0 0) f) ((results_cell rfl _ _ _).trans ?_) rfl ⟨((((Kept.refl NoBlock w).alloc _).trans hk1).alloc _).own4 (Nat.le_refl _) _ _ _ _, rfl⟩
    go_simp
  · obtain ⟨hi1, hi2, ht⟩ := HOK.out t i rfl
    obtain rfl := hend
    obtain ⟨T, hT⟩ : ∃ T : ByteArray, T = ⟨t.toArray⟩ := ⟨_, rfl⟩
    have hprs := fun W => nrparseV t T hT ht W
    rw [← hT]
    have hM2 := HM.out
    simp only at hM2
    have hk2 := hk1.trans ((Kept.refl NoBlock w1).alloc (.cells #[.int .i64 1, .int .i64 0, .slice none 0 0, .string ⟨#[]⟩] 63))
    have hk0 : Kept NoBlock w (w1.alloc (.cells #[.int .i64 1, .int .i64 0, .slice none 0 0, .string ⟨#[]⟩] 63)) := ((Kept.refl NoBlock w).alloc found0).trans hk2
    have HPR := Lib.hid hprs
    generalize (parseV t).1 = PV at *
    generalize (parseV t).2 = PE at *
    have hg2 := hk2.heap (heap_alloc_new w found0) (fun h => h)
    rw [← HN.out] at hi2
    rw [Nat.zero_add]
    clear ht hT hprs HM HH HOK hg1
    have hbad : ∀ W, Kept NoBlock (w1.alloc (.cells #[.int .i64 1, .int .i64 0, .slice none 0 0, .string ⟨#[]⟩] 63)) W → True := fun _ _ => trivial
    clear hbad
    by_cases hE : PE = 0
    · subst hE
      by_cases hP : PV ≤ 1024
      · rw [if_neg (by omega)] at hM2
        have HM2 := Lib.hid hM2
        have hP' : ¬ (1024 < PV) := by omega
        clear hM2
        obtain ⟨N, hN⟩ : ∃ N, N = PV.toNat := ⟨_, rfl⟩
        rw [← hN] at HM2
        have hkf : Kept NoBlock (w.alloc found0) (w1.alloc (.cells #[.int .i64 1, .int .i64 0, .slice none 0 0, .string ⟨#[]⟩] 63)) := hk2
        have HKF := Lib.hid hkf
        have hN6 : N ≤ 1024 := by omega
        have HNN := Lib.hid hN
        clear hkf hk2 hk1 hg2 hN hk0
        go_wp2_with (go_at_call 33; refine (HPR.out _).mono ?_; rintro e w' ⟨rfl, rfl⟩)
        go_loopw [4, 8, 9] (fun vm vl vi wr => ∃ (j m : Nat) (L : List Bs), vm = .int .i64 m ∧ vi = .int .i64 j ∧ j ≤ N ∧ m ≤ n ∧ OwnS wr (w.heap.size + 1) vl L ∧ L.length = j ∧ bulksA parseV (N - j) m L (b.drop m) = MM ∧ Kept NoBlock (w.alloc found0) wr) (fun _ _ vi _ => N - (intOf vi).toNat)
        case atStart => exact ⟨0, i, [], rfl, rfl, Nat.zero_le _, hi2, OwnS.nil _ _, rfl, by rw [Nat.sub_zero]; exact HM2.out.symm, HKF.out⟩
        case round =>
          obtain ⟨j, m, L, rfl, rfl, hj, hm, hO, hL, hMM, hK⟩ := hrel
          obtain ⟨ap8, cap8, rfl, _⟩ := ownsRow_form hO
          have HO := Lib.hid hO
          have HL := Lib.hid hL
          have HMM := Lib.hid hMM
          have HK := Lib.hid hK
          have hL6 : L.length ≤ 1024 := by omega
          have hszr : w.heap.size + 1 ≤ wr.heap.size := by have := hK.size; simpa using this
          have hk0 : Kept NoBlock w wr := ((Kept.refl NoBlock w).alloc found0).trans hK
          have hgr := hK.heap (heap_alloc_new w found0) (fun h => h)
          clear HM2 HKF hL hMM hK hi1 hi2 hs1 hne
          by_cases hlt : j < N
          · have hltI : (j : Int) < PV := by have := HNN.out; omega
            have hcall := rbulk (.slice ap n cap) b m wr (HB.out.keptNo hk0) (by rw [← HN.out]; exact hb) (by rw [← HN.out]; exact hm)
            have hMM2 : (match bulk parseV (b.drop m) with | .wait => .wait | .wrong f => .wrong f | .ok (s, n) => bulksA parseV (N - (j + 1)) (m + n) (L ++ [s]) ((b.drop m).drop n)) = MM := by
              rw [← HMM.out, show N - j = (N - (j + 1)) + 1 by omega, bulksA]
              rcases bulk parseV (b.drop m) with _ | _ | ⟨s, n⟩ <;> rfl
            have hbo := fun s q => bulk_ok parseV (b := b.drop m) (s := s) (n := q)
            rw [List.length_drop, ← HN.out] at hbo
            generalize bulk parseV (b.drop m) = Z at *
            have HC := Lib.hid hcall
            have HM3 := Lib.hid hMM2
            have HBO := Lib.hid hbo
            clear hcall hMM2 hbo HMM hO
            go_wp2_with fail
            refine HC.out.mono ?_
            rintro e w2 ⟨hk2, hend⟩
            have HK2 := Lib.hid (HK.out.trans hk2)
            have hkw := hk0.trans hk2
            have hs2 := hk2.size
            have hne : ¬ (w.heap.size = w2.heap.size) := by omega
            have hg2 := hk2.heap hgr (fun h => h)
            rcases Z with _ | f | ⟨s, q⟩
            · obtain rfl : Got.wait = MM := HM3.out
              obtain rfl := hend
              obtain ⟨d0, d1, d2, d3, f0, f1, f2, f3⟩ := blk4 (((Kept.refl NoBlock w2).alloc (.cells #[.int .i64 0, .int .i64 0, .slice none 0 0, .string ⟨#[]⟩] 63)).heap hg2 (fun h => h))
              clear hgr hg2
              go_wp2
              refine bodyPost_ret (v := foundV 0 0 (.slice none 0 0) []) ((results_cell rfl _ _ _).trans ?_) rfl ⟨(hkw.alloc _).own4 (Nat.le_refl _) _ _ _ _, rfl⟩
              go_simp
            · obtain rfl : Got.wrong f = MM := HM3.out
              obtain rfl := hend
              obtain ⟨d0, d1, d2, d3, f0, f1, f2, f3⟩ := blk4 (((Kept.refl NoBlock w2).alloc (.cells #[.int .i64 2, .int .i64 0, .slice none 0 0, .string ⟨f.toArray⟩] 63)).heap hg2 (fun h => h))
              clear hgr hg2
              go_wp2
              refine bodyPost_ret (v := foundV 2 0 (.slice none 0 0) f) ((results_cell rfl _ _ _).trans ?_) rfl ⟨(hkw.alloc _).own4 (Nat.le_refl _) _ _ _ _, rfl⟩
              go_simp
            · obtain rfl := hend
              obtain ⟨hq1, hq2⟩ := HBO.out s q rfl
              have hM4 : bulksA parseV (N - (j + 1)) (m + q) (L ++ [s]) (b.drop (m + q)) = MM := by
                have h1 := HM3.out
                simp only [List.drop_drop] at h1
                exact h1
              have hOS : OwnS w2 (w.heap.size + 1) (.slice ap8 L.length cap8) L := OwnS.kept2 HO.out hk2
              have HM4 := Lib.hid hM4
              have hal : Kept NoBlock w2 (w2.alloc (.cells #[.int .i64 1, .int .i64 0, .slice none 0 0, .string ⟨#[]⟩] 63)) := (Kept.refl _ w2).alloc _
              clear hM4 HM3 HC HO HBO hgr hg2 hk2 hkw hk0
              go_wp2_with (at_builtin; refine wpList_appS rfl _ _ rfl (w.heap.size + 1) _ L rfl ((hOS.kept2 hal).kept2 ((Kept.refl _ _).alloc _)) _ s rfl (heap_new1 _ _ _) (by omega) (by simp; omega) ?_; intro v5 w3 happ; refine Hid.out ?_)
              have hk3 := happ.kept ((hOS.kept2 hal).kept2 ((Kept.refl _ _).alloc _)) (by simp) ((HK2.out.trans hal).alloc _)
              have HAP := Lib.hid happ
              have HK3 := Lib.hid hk3
              clear happ hk3 hOS hal
              refine Lib.hid ?_
              go_wp2
              go_roundw
              case rel => exact ⟨j + 1, m + q, L ++ [s], rfl, by go_num, by omega, by omega, HAP.out.own, by rw [List.length_append, List.length_singleton, HL.out], HM4.out, HK3.out⟩
              case measure => simp [intOf]; omega
          · have hltI : ¬ ((j : Int) < PV) := by have := HNN.out; omega
            obtain rfl : j = N := by omega
            have hM4 : Got.ok (L, m) = MM := by rw [← HMM.out, Nat.sub_self, bulksA]
            subst hM4
            have HO2 := Lib.hid hO
            obtain ⟨d0, d1, d2, d3, f0, f1, f2, f3⟩ := blk4 hgr
            clear HMM hO HO hgr
            go_wp2
            refine bodyPost_ret (v := foundV 1 m (.slice ap8 L.length cap8) []) ((results_cell rfl _ _ _).trans ?_) rfl ⟨hk0.own4 (Nat.le_refl _) _ _ _ _, _, rfl, ownsRow_lower (OwnS.own4 HO2.out (Nat.lt_succ_self _) _ _ _ _) (Nat.le_succ _)⟩
            go_simp
      · have hP' : 1024 < PV := by omega
        rw [if_pos (.inr hP')] at hM2
        subst hM2
        go_wp2_with (first | (go_at_call 33; refine (HPR.out _).mono ?_; rintro e w' ⟨rfl, rfl⟩) | (go_at_call 34; refine (HWR.out _).mono ?_; rintro e w3 ⟨rfl, hk3⟩; refine Hid.out ?_))
        obtain ⟨d0, d1, d2, d3, f0, f1, f2, f3⟩ := blk4 (hk3.heap hg2 (fun h => h))
        refine Lib.hid ?_
        go_wp2
        refine bodyPost_ret (v := foundV 2 0 (.slice none 0 0) fBadM) ((results_cell rfl _ _ _).trans ?_) rfl ⟨(hk0.trans hk3).own4 (Nat.le_refl _) _ _ _ _, rfl⟩
        go_simp
    · have hPE : (PE != 0) = true := by simpa using hE
      rw [if_pos (.inl hE)] at hM2
      subst hM2
      clear hE
      go_wp2_with (first | (go_at_call 33; refine (HPR.out _).mono ?_; rintro e w' ⟨rfl, rfl⟩) | (go_at_call 34; refine (HWR.out _).mono ?_; rintro e w3 ⟨rfl, hk3⟩; refine Hid.out ?_))
      obtain ⟨d0, d1, d2, d3, f0, f1, f2, f3⟩ := blk4 (hk3.heap hg2 (fun h => h))
      refine Lib.hid ?_
      go_wp2
      refine bodyPost_ret (v := foundV 2 0 (.slice none 0 0) fBadM) ((results_cell rfl _ _ _).trans ?_) rfl ⟨(hk0.trans hk3).own4 (Nat.le_refl _) _ _ _ _, rfl⟩
      go_simp
end Go.Proofs.YtdfkdbdhaaiadaaDoor
