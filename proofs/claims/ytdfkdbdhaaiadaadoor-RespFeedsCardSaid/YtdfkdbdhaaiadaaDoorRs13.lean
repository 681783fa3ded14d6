/- The law of what a reader tells. -/
import Derived.Test.YtdfkdbdhaaiadaaDoorRs12
namespace Go.Proofs.YtdfkdbdhaaiadaaDoor
open Go.RowKit
attribute [local go_sem] fold_part fold_some fold_some' partAt_zero

theorem tyB_ne_S : (5 : TypeId) ≠ 42 := by decide
theorem tyB_ne_R : (5 : TypeId) ≠ 46 := by decide

/-- A reader is as it was, where a block of another type is written. -/
theorem RdrAt.other {w w' : World} {g h : Nat} {d : Bool} {l : Bs} {cs : Array Value} {fz : Nat × Nat} (hr : RdrAt w g d l) (hk : Kept (fun k => k = h) w w') (hne : g ≠ h) (hh : w.heap[h]? = some (.cells cs 42 fz)) : RdrAt w' g d l := by
  obtain ⟨v, hg, hv, hn, ht⟩ := hr
  have hb : ∀ k, vblk v = some k → k ≠ h := fun k e e2 => by
    obtain ⟨cs', h1⟩ := ht k e
    rw [e2, hh] at h1
    have := Option.some.inj h1
    injection this with _ h3 _
    exact tyB_ne_S h3.symm
  refine ⟨v, hk.heap hg hne, hv.kept hk (fun b e => hb b e), hn, fun k e => ?_⟩
  obtain ⟨cs', h1⟩ := ht k e
  exact ⟨cs', hk.heap h1 (hb k e)⟩
theorem RdrS.other {w w' : World} {g h : Nat} {d : Bool} {l : Bs} {cs : Array Value} {fz : Nat × Nat} (hr : RdrS w g d l) (hk : Kept (fun k => k = h) w w') (hne : g ≠ h) (hh : w.heap[h]? = some (.cells cs 46 fz)) : RdrS w' g d l := by
  obtain ⟨v, hg, hv, hn, ht⟩ := hr
  have hb : ∀ k, vblk v = some k → k ≠ h := fun k e e2 => by
    obtain ⟨cs', h1⟩ := ht k e
    rw [e2, hh] at h1
    have := Option.some.inj h1
    injection this with _ h3 _
    exact tyB_ne_R h3.symm
  refine ⟨v, hk.heap hg hne, hv.kept hk (fun b e => hb b e), hn, fun k e => ?_⟩
  obtain ⟨cs', h1⟩ := ht k e
  exact ⟨cs', hk.heap h1 (hb k e)⟩
theorem RdrS.drewN {w : World} {g : Nat} {d : Bool} {l : Bs} (h : RdrS w g d l) (n : Nat) : RdrS (w.drewN n) g d l := h
theorem RdrAt.drewN {w : World} {g : Nat} {d : Bool} {l : Bs} (h : RdrAt w g d l) (n : Nat) : RdrAt (w.drewN n) g d l := h

theorem pleft_q (g : Nat) (d : Bool) (l : Bs) (w : World) (h : RdrAt w g d l) : Calls Tryd.prog 18 #[.pointer (some ⟨g, 0, none⟩)] w fun e w' => e = .returned (.int .i64 l.length) ∧ w' = w := by
  obtain ⟨v, hg, hv, _⟩ := h
  exact (pleft g true d l v w hg hv).mono fun _ _ ⟨a, b⟩ => ⟨a, b.symm⟩

theorem ReqsV.none (w : World) : ReqsV w (.slice none 0 0) [] := ⟨[], RowV.nil w, rfl, fun p hp => (by cases hp), by simp⟩

/-- The two readers, side by side. -/
structure Both (w wr : World) (gr gs : Nat) (d : Bool) (K : Bs) : Prop where
  r : RdrAt wr gr d K
  s : RdrS wr gs d K
  k : Kept NoBlock w wr

set_option maxRecDepth 100000 in
set_option maxHeartbeats 6400000 in
theorem law_feeds (v : Value) (LB : List (Value × Bs)) (w : World) (hV : Vs w) (h : RowV w v (LB.map (·.1))) (hin : ∀ p ∈ LB, BytesV w p.1 p.2 ∧ p.2.length ≤ 140737488351232) (hN : LB.length ≤ 9223372036854775807) :
    Calls Tryd.prog 7 #[v] w fun e w' => e = .returned (.bool true) ∧ Kept NoBlock w w' := by
  obtain ⟨ap, cap, rfl, _, _⟩ := h.parts
  rw [List.length_map] at h ⊢
  have HA := Lib.hid (pawake w hV)
  have HV := Lib.hid hV
  have HR := Lib.hid h
  have HIN := Lib.hid hin
  obtain ⟨n, hn⟩ : ∃ n, n = LB.length := ⟨_, rfl⟩
  rw [← hn] at hN HR ⊢
  have HN := Lib.hid hn
  clear h hV hin hn
  go_enter Tryd.func7, Tryd.ntmps7
  go_wp2_with (first | (go_at_call 14; refine HA.out.mono ?_; rintro e w1 ⟨rfl, hk1⟩) | (go_at_call 15; refine (pnew w1).mono ?_; rintro e w2 ⟨rfl, _, rfl⟩))
  obtain ⟨W0, hW0⟩ : ∃ W0, (w1.alloc (.cells #[.bool true, .bool false, .slice none 0 0] 46)).alloc (.cells #[.slice none 0 0, .bool false] 42) = W0 := ⟨_, rfl⟩
  rw [hW0]
  have hb0 : Both w W0 w1.heap.size (w1.heap.size + 1) false [] := by
    rw [← hW0]
    refine ⟨⟨_, (heap_alloc_lt _ (by simp)).trans (heap_alloc_new w1 _), BytesV.nil _, by simp [vblk], fun k h => by cases h⟩, ⟨_, heap_new1 _ _ _, BytesV.nil _, by simp [vblk], fun k h => by cases h⟩, (hk1.alloc _).alloc _⟩
  have HB0 := Lib.hid hb0
  have hsz1 := hk1.size
  generalize w1.heap.size = gr at *
  clear hb0 hW0 hk1
  go_loopw [5, 6] (fun va vi wr => ∃ (i a : Nat) (d : Bool) (K : Bs), va = .int .i64 a ∧ vi = .int .i64 i ∧ i ≤ n ∧ i ≤ 200 ∧ a ≤ 300000 ∧ K.length ≤ a ∧ Both w wr gr (gr + 1) d K) (fun _ vi _ => 200 - (intOf vi).toNat)
  case atStart => exact ⟨0, 0, false, [], rfl, rfl, Nat.zero_le _, Nat.zero_le _, Nat.zero_le _, Nat.le_refl _, HB0.out⟩
  case round =>
    obtain ⟨i, a, d, K, rfl, rfl, hi, hi2, ha, hKa, hB⟩ := hrel
    have HB := Lib.hid hB
    clear HB0
    by_cases hlt : i < n
    · have hltI : (i : Int) < (n : Int) := by omega
      by_cases h200 : i < 200
      · have h200I : (i : Int) < 200 := by omega
        have hiL : i < LB.length := by rw [← HN.out]; exact hlt
        obtain ⟨ad, rfl, hcell⟩ := RowV.cell (HR.out.keptNo hB.k) (i := i) (v := LB[i].1) (by rw [List.getElem?_map, List.getElem?_eq_getElem hiL]; rfl)
        obtain ⟨hy, hyl⟩ := HIN.out LB[i] (List.getElem_mem _)
        obtain ⟨y, hyy⟩ : ∃ y, y = LB[i].2 := ⟨_, rfl⟩
        rw [← hyy] at hy hyl
        obtain ⟨apy, cy, hpy, _, _⟩ := hy.parts
        rw [hpy] at hcell hy
        have hyr := hy.keptNo hB.k
        have HY := Lib.hid hyr
        have HYW := Lib.hid hy
        clear hy hpy hyy
        obtain ⟨yl, hylen⟩ : ∃ yl, yl = y.length := ⟨_, rfl⟩
        rw [← hylen] at hcell hyl HY HYW
        have HYL := Lib.hid hylen
        clear hyr hylen
        by_cases hlong : 300000 < a + yl
        · have hl : (300000 : Int) < (a : Int) + (yl : Int) := by omega
          go_wp2
          go_ret
          exact ⟨rfl, HB.out.k⟩
        · have hl : ¬ (300000 : Int) < (a : Int) + (yl : Int) := by omega
          cases d with
          | true =>
            obtain ⟨x, hg, hx, _⟩ := hB.r
            have hS := hB.s
            have hc2 : ∀ q, (wr.drewN q).cell? (ad.add i) = some (.slice apy yl cy) := fun _ => hcell
            obtain ⟨xs, hgs, hxs, _⟩ := hB.s
            obtain ⟨aps, cs, rfl, _, _⟩ := hxs.parts
            obtain ⟨d0, d1, _, _⟩ := blk2 hgs
            have hsm := fun q => psame (.slice none 0 0) (.slice none 0 0) [] (wr.drewN q) (ReqsV.none _) (ReqsV.none _)
            have hlf := fun q => pleft_q gr true K (wr.drewN q) (hB.r.drewN q)
            have hfd := fun (u : Value) => pfeed_done gr u x wr hg
            have hfs := fun (u : Value) => rfeed_done (gr + 1) K u wr hS
            have HSM := Lib.hid hsm
            have HLF := Lib.hid hlf
            have HFD := Lib.hid hfd
            have HFS := Lib.hid hfs
            clear hS hsm hlf hfd hfs hg hx hgs hxs hB
            go_wp2_with (first | (go_at_call 16; refine (HFD.out _).mono ?_; rintro e w' ⟨rfl, rfl⟩) | (go_at_call 17; refine (HFS.out _).mono ?_; rintro e w' ⟨rfl, rfl⟩))
            go_quiet ((first | (go_at_call 13; exact Calls.quiet_of (HSM.out _)) | (go_at_call 18; exact Calls.quiet_of_same (HLF.out _))))
            go_wp2
            go_roundw
            case rel => exact ⟨i + 1, a + yl, true, K, by go_num, by go_num, by omega, by omega, by omega, by omega, ⟨HB.out.r.drewN _, HB.out.s.drewN _, HB.out.k.drewN _⟩⟩
            case measure => simp [intOf]; omega
          | false =>
            have hlen : K.length + y.length ≤ 300000 := by rw [← HYL.out]; omega
            have hgrw : w.heap.size ≤ gr := hsz1
            have hgs : gr + 1 < wr.heap.size := by obtain ⟨_, hg, _⟩ := hB.s; exact lt_of_heap hg
            have hrb : ∃ cs fz, wr.heap[gr]? = some (.cells cs 46 fz) := by obtain ⟨_, hg, _⟩ := hB.r; exact ⟨_, _, hg⟩
            have hsb : ∃ cs fz, wr.heap[gr + 1]? = some (.cells cs 42 fz) := by obtain ⟨_, hg, _⟩ := hB.s; exact ⟨_, _, hg⟩
            have hfd := pfeed gr _ K y wr (HV.out.below hB.k.toB) hB.r HY.out (by omega)
            have hfs := fun W (h1 : RdrS W (gr + 1) false K) (h2 : BytesV W (.slice apy yl cy) y) => rfeed (gr + 1) _ K y W h1 h2 (by omega)
            have hle := split_le parseV (K ++ y)
            have htl : (K ++ y).length ≤ a + yl := by rw [List.length_append, ← HYL.out]; omega
            generalize split parseV (K ++ y) = M at *
            generalize K ++ y = t at *
            obtain ⟨M1, M2, M3⟩ := M
            have HFD := Lib.hid hfd
            have HFS := Lib.hid hfs
            have HBS := Lib.hid hB.s
            have HRB := Lib.hid hrb
            have HSB := Lib.hid hsb
            have hkw := hB.k
            have HKW := Lib.hid hkw
            clear hfd hfs hB hrb hsb hkw hlen
            go_wp2_with fail
            refine HFD.out.mono ?_
            rintro e w2 ⟨hk2, va, oa, rfl, hoa, hma, hra⟩
            obtain ⟨_, _, hrb⟩ := HRB.out
            obtain ⟨_, _, hsb⟩ := HSB.out
            have hS2 := HBS.out.other hk2 (by omega) hrb
            have hkw2 : Kept NoBlock w w2 := HKW.out.trans' hk2 (fun q hq e => by omega)
            have hsb2 := hk2.heap hsb (by omega)
            have hfs2 := HFS.out w2 hS2 (HYW.out.keptNo hkw2)
            have hc2 : w2.cell? (ad.add i) = some (.slice apy yl cy) := by
              obtain ⟨ad', e1, h⟩ := RowV.cell (HR.out.keptNo hkw2) (i := i) (v := LB[i].1) (by rw [List.getElem?_map, List.getElem?_eq_getElem hiL]; rfl)
              obtain ⟨ad'', e2, h3⟩ := RowV.cell (HR.out.keptNo HKW.out) (i := i) (v := LB[i].1) (by rw [List.getElem?_map, List.getElem?_eq_getElem hiL]; rfl)
              cases e1; cases e2
              rw [h, ← h3, hcell]
            have HFS2 := Lib.hid hfs2
            have hsz2 := hk2.size
            have hqa := hoa
            have HOA := Lib.hid hqa
            have HMA := Lib.hid hma
            have HRA := Lib.hid hra
            have HSB2 := Lib.hid hsb2
            have HKW2 := Lib.hid hkw2
            obtain ⟨apv, cv, hfa, _⟩ := (hoa.reqs hma).form
            subst hfa
            clear hk2 hoa hma hra hrb hsb hS2 hkw2 hsb2 hfs2 hqa HFS HFD HBS HRB HSB HKW hcell
            go_wp2_with fail
            refine HFS2.out.mono ?_
            rintro e w3 ⟨hk3, vb, ob, rfl, hob, hmb, hrb⟩
            have hra3 : (M3 = [] ∧ RdrAt w3 gr false (t.drop M2)) ∨ (M3 ≠ [] ∧ RdrAt w3 gr true []) := HRA.out.imp (fun ⟨h1, h2⟩ => ⟨h1, h2.other hk3 (by omega) HSB2.out⟩) (fun ⟨h1, h2⟩ => ⟨h1, h2.other hk3 (by omega) HSB2.out⟩)
            have hpair : ∃ d' K', RdrAt w3 gr d' K' ∧ RdrS w3 (gr + 1) d' K' ∧ K'.length ≤ a + yl := by
              rcases hra3 with ⟨h1, h2⟩ | ⟨h1, h2⟩
              · rcases hrb with ⟨h3, h4⟩ | ⟨h3, h4⟩
                · exact ⟨false, _, h2, h4, by rw [List.length_drop]; omega⟩
                · exact absurd h1 h3
              · rcases hrb with ⟨h3, h4⟩ | ⟨h3, h4⟩
                · exact absurd h3 h1
                · exact ⟨true, [], h2, h4, Nat.zero_le _⟩
            obtain ⟨d', K', hr', hs', hK'⟩ := hpair
            have hqa := (HOA.out.keptS hk3 (fun q hq e => by omega)).reqs HMA.out
            have hqb := hob.reqs hmb
            obtain ⟨apw, cw, hfb, _⟩ := hqb.form
            subst hfb
            have hsm := fun q => psame _ _ M1 (w3.drewN q) (hqa.keptNo ((Kept.refl _ w3).drewN q)) (hqb.keptNo ((Kept.refl _ w3).drewN q))
            have hlf := fun q => pleft_q gr d' K' (w3.drewN q) (hr'.drewN q)
            have hk3w : Kept NoBlock w w3 := HKW2.out.trans' hk3 (fun q hq e => by omega)
            have HBB := Lib.hid (show Both w w3 gr (gr + 1) d' K' from ⟨hr', hs', hk3w⟩)
            obtain ⟨xs, hgs', hxs, _⟩ := hs'
            obtain ⟨aps, cs, rfl, _, _⟩ := hxs.parts
            obtain ⟨d0, d1, _, _⟩ := blk2 hgs'
            have HSM := Lib.hid hsm
            have HLF := Lib.hid hlf
            clear hr' hqa hqb hsm hlf hk3w hgs' hxs hk3 hob hmb hrb hra3 HRA HOA HMA HSB2 HKW2 HFS2 hc2 hsz2 hle
            simp only [strV] at *
            generalize (⟨M3.toArray⟩ : ByteArray) = F at *
            generalize M1.length = mn at *
            go_wp2
            go_quiet ((first | (go_at_call 13; exact Calls.quiet_of (HSM.out _)) | (go_at_call 18; exact Calls.quiet_of_same (HLF.out _))))
            go_wp2
            go_roundw
            case rel => exact ⟨i + 1, a + yl, d', K', by go_num, by go_num, by omega, by omega, by omega, hK', ⟨HBB.out.r.drewN _, HBB.out.s.drewN _, HBB.out.k.drewN _⟩⟩
            case measure => simp [intOf]; omega
      · have h200I : ¬ (i : Int) < 200 := by omega
        go_wp2
        go_ret
        exact ⟨rfl, HB.out.k⟩
    · have hltI : ¬ (i : Int) < (n : Int) := by omega
      go_wp2
      go_ret
      exact ⟨rfl, HB.out.k⟩
end Go.Proofs.YtdfkdbdhaaiadaaDoor
