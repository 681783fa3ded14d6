/- Merged: The law of there and back. -/
import Derived.Test.YtdinkdmkbfbjbaaDoorZLt
set_option linter.all false
namespace Go.Proofs.YtdinkdmkbfbjbaaDoor
open Go.RowKit
attribute [local go_sem] fold_part fold_some fold_some' partAt_zero

theorem fewP_short {ps : List (Deed × Value)} (h : NumsL ps) : ∀ d ∈ (fewP ps).map (·.1), d.Fits ∧ d.b.length ≤ 2000 := by
  intro d hd
  obtain ⟨q, hq, rfl⟩ := List.mem_map.1 hd
  refine ⟨fewP_fits h q hq, ?_⟩
  obtain ⟨p, _, rfl⟩ := List.mem_map.1 hq
  show (p.1.b.take 2000).length ≤ 2000
  rw [List.length_take]; omega

set_option maxRecDepth 100000 in
set_option maxHeartbeats 3200000 in
theorem law_back (c : Conf) (hc : c.Fits) (v u : Value) (ps : List (Deed × Value)) (b0 : Bs) (w : World) (hV : Vs w) (hM : Mx w) (h : DeedsV w v ps) (hb : BsV w ps) (hn : NumsL ps) (hlen : ps.length ≤ 9223372036854775807) (hbb : BytesV w u b0) :
    Calls Tryd.prog 6 #[confV c, v, u] w fun e w' => e = .returned (.bool true) ∧ Kept NoBlock w w' := by
  have cf := fun W (hk : Kept NoBlock w W) => lfew v ps W (h.kept hk) (hb.kept hk) (fun p hp => (hn p hp).2) hlen
  have cp := fun v' W (hk : Kept NoBlock w W) (h' : DeedsV W v' (fewP ps)) => pprint c hc v' (fewP ps) W (hV.below hk.toB) h' ((fewP_bytes hb).kept hk) (fewP_fits hn) (fewP_len ps)
  have cal := fun W (hk : Kept NoBlock w W) => lalive W (hV.below hk.toB) (hM.kept hk)
  have ctx := fun q (hq : q ∈ fewP ps) v W (hk : Kept NoBlock w W) (h : DeedV W v q.1) => ptext v q.1 W (hV.below hk.toB) h (fewP_fits hn q hq)
  have cpa := fun l (hl : l.length ≤ 9000) W (hk : Kept NoBlock w W) => pparse l hl W (hV.below hk.toB) (hM.kept hk)
  have hsh := fewP_short hn
  have hbf := fewP_bytes (w := w) hb
  have hfl := fewP_len ps
  have hrd := fun (hbad : ((fewP ps).map (·.1)).any badT = false) => read_print hc hsh hbad
  have hshp := short_print hc hsh
  have hlin := lines_short _ hsh
  have hhl := headC_len hc
  have cre := fun s (hs : s.length ≤ 300000) (hsl : ShortL s) W (hk : Kept NoBlock w W) => pread s hs hsl W (hV.below hk.toB) (hM.kept hk)
  have csa := fun v' u' W qs (h1 : DeedsV W v' (fewP ps)) (b1 : BsV W (fewP ps)) (h2 : DeedsV W u' qs) (b2 : BsV W qs) (hq : qs.map (·.1) = (fewP ps).map (·.1)) => rsameall v' u' (fewP ps) qs W h1 b1 h2 b2 (by omega) (by have := congrArg List.length hq; rw [List.length_map, List.length_map] at this; omega)
  obtain ⟨ap, cap, rfl, _⟩ := h
  obtain ⟨bp, bc, rfl, hbc, _⟩ := hbb.parts
  have ccb := fun W => lcutV bp bc b0 W hbc
  have hx1 : BytesV w (.slice bp (b0.take 2000).length bc) (b0.take 2000) := by have := hbb.front (b0.take 2000).length (by rw [List.length_take]; omega); rwa [take_len] at this
  have hbl : (b0.take 2000).length ≤ 2000 := by rw [List.length_take]; omega
  generalize b0.take 2000 = b at *
  have cq := fun u W (h : BytesV W u b) => pquote u b W h (by omega)
  have hql : (quote b).length ≤ 8010 := by have := (quoteA_len b).2; simp only [quote, List.length_cons, List.length_append, List.length_nil]; omega
  have cuq := fun W => punq (quote b) (by omega) W
  rw [unq_quote] at cuq
  generalize (⟨(quote b).toArray⟩ : ByteArray) = Q at *
  have hq0 : ∀ q ∈ fewP ps, ∃ ap c, q.2 = .slice ap q.1.b.length c := fun q hq => by
    obtain ⟨ap, cap, e, _⟩ := BytesV.parts (hbf q hq); exact ⟨ap, cap, e⟩
  have hlin2 : (linesA ((fewP ps).map (·.1))).length ≤ 250000 := by rw [List.length_map] at hlin; omega
  have hpr : printD c ((fewP ps).map (·.1)) = if (((fewP ps).map (·.1)).any badT) = true then ([], 251) else (headC c ++ [10] ++ linesA ((fewP ps).map (·.1)), 0) := rfl
  have hgd : ((fewP ps).map (·.1)).any badT = false → ∀ q ∈ fewP ps, textD q.1 = (lineD q.1, 0) ∧ parseP (lineD q.1) = some q.1 ∧ (lineD q.1).length ≤ 9000 := fun hbad q hq => by
    have hm : q.1 ∈ (fewP ps).map (·.1) := List.mem_map.2 ⟨q, hq, rfl⟩
    have hbd : badT q.1 = false := by
      cases h : badT q.1 with
      | false => rfl
      | true => rw [List.any_eq_false] at hbad; exact absurd h (hbad _ hm)
    have hle : (lineD q.1).length ≤ 9000 := Nat.le_trans (line_short (hsh _ hm).1 (hsh _ hm).2) (by decide)
    exact ⟨textD_good hbd, parse_text (hsh _ hm).1 hbd hle, hle⟩
  have hofew : (ps.take 30).map cutP = fewP ps := rfl
  rw [hofew] at cf
  generalize fewP ps = qs at *
  generalize ps.length = pn at *
  generalize hX : headC c ++ [10] ++ linesA (qs.map (·.1)) = X at *
  have hXl : X.length ≤ 300000 := by rw [← hX]; simp only [List.length_append, List.length_singleton]; omega
  have cr0 := cre X hXl hshp
  have CF := Lib.hid cf
  have CP := Lib.hid cp
  have CAL := Lib.hid cal
  have CTX := Lib.hid ctx
  have CPA := Lib.hid cpa
  have CRE := Lib.hid cr0
  have CSA := Lib.hid csa
  have CCB := Lib.hid ccb
  have CQ := Lib.hid cq
  have CUQ := Lib.hid cuq
  have HX1 := Lib.hid hx1
  have HRD := Lib.hid hrd
  have HPR := Lib.hid hpr
  have HGD := Lib.hid hgd
  have HBF := Lib.hid hbf
  have HQ0 := Lib.hid hq0
  have HFL := Lib.hid hfl
  generalize (b : Bs).length = bl at *
  generalize b0.length = b0l at *
  clear cf cp cal ctx cpa cre cr0 csa ccb cq cuq hx1 hrd hpr hgd hbf hq0 hfl hsh hshp hlin hlin2 hhl hX hXl hV hM hb hn hlen hbb hbc hbl hql hc hofew
  have HK1 := Lib.hid (Kept.allocd w (.cells #[.int .i64 c.c0, .int .i64 c.c1, .int .i64 c.c2, .int .i64 c.c3, .int .i64 c.c4] 52))
  have HG1 := Lib.hid (heap_alloc_new w (.cells #[.int .i64 c.c0, .int .i64 c.c1, .int .i64 c.c2, .int .i64 c.c3, .int .i64 c.c4] 52))
  unfold confV at CP CRE ⊢
  go_enter Tryd.func6, Tryd.ntmps6
  go_wp2_with fail
  generalize w.alloc (.cells #[.int .i64 c.c0, .int .i64 c.c1, .int .i64 c.c2, .int .i64 c.c3, .int .i64 c.c4] 52) = W1 at *
  refine (CF.out _ HK1.out).mono ?_
  rintro e w2 ⟨v', rfl, ho, hk⟩
  obtain ⟨ap2, cap2, rfl, _⟩ := ho.form
  have HO2 := Lib.hid ho.deeds
  have HK2 := Lib.hid (HK1.out.trans hk)
  have HG2 := Lib.hid (hk.heap HG1.out (fun h => h))
  clear ho hk
  go_wp2_with fail
  refine (CCB.out _).mono ?_
  rintro e w2 ⟨rfl, rfl⟩
  go_wp2_with fail
  refine (CQ.out _ _ (HX1.out.keptNo HK2.out)).mono ?_
  rintro e w3 ⟨rfl, hk⟩
  have HO3 := Lib.hid (HO2.out.kept hk)
  have HK3 := Lib.hid (HK2.out.trans hk)
  have HG3 := Lib.hid (hk.heap HG2.out (fun h => h))
  clear hk HK2 HG2 HO2
  go_wp2_with fail
  refine (CUQ.out _).mono ?_
  rintro e w4 ⟨hk, v2, rfl, ho2⟩
  have HO4 := Lib.hid (HO3.out.kept hk)
  have HK4 := Lib.hid (HK3.out.trans hk)
  have HG4 := Lib.hid (hk.heap HG3.out (fun h => h))
  have hb4 := ho2.bytes
  obtain ⟨xap, xcap, rfl, _⟩ := hb4.parts
  have e1 := conv_of hb4
  have e2 := conv_of (HX1.out.keptNo HK4.out)
  generalize (⟨b.toArray⟩ : ByteArray) = BB at *
  generalize b.length = bl2 at *
  clear hk HK3 HG3 HO3 ho2 hb4
  obtain ⟨c0, c1, c2, c3, c4⟩ := blk5 HG4.out
  go_wp2_with fail
  refine (CP.out _ _ HK4.out HO4.out).mono ?_
  rintro e w5 ⟨rfl, hk⟩
  have HO5 := Lib.hid (HO4.out.kept hk)
  have HK5 := Lib.hid (HK4.out.trans hk)
  have HG5 := Lib.hid (hk.heap HG4.out (fun h => h))
  clear hk HK4 HG4 HO4 e1 e2 c0 c1 c2 c3 c4
  generalize hT : printD c (qs.map (·.1)) = T at *
  have hpr := HPR.out
  cases hbad : (qs.map (·.1)).any badT with
  | true =>
    rw [hbad, if_pos rfl] at hpr
    subst hpr
    have hem : (⟨#[]⟩ : ByteArray).toList.isEmpty = true := by rw [Go.ByteArray.toList_eq]; rfl
    go_wp2_with fail
    refine (CAL.out _ HK5.out).mono ?_
    rintro e w6 ⟨rfl, hk⟩
    go_wp2_with fail
    go_ret
    exact ⟨rfl, HK5.out.trans hk⟩
  | false =>
    rw [hbad, if_neg (by decide)] at hpr
    subst hpr
    have hgd := HGD.out hbad
    have hrd := HRD.out hbad
    clear HGD HRD HPR hbad
    rw [hrd] at CRE
    simp only
    have HGD := Lib.hid hgd
    have HRD := Lib.hid hrd
    obtain ⟨SX, hSX⟩ : ∃ S : ByteArray, S = ⟨X.toArray⟩ := ⟨_, rfl⟩
    rw [← hSX] at CRE ⊢
    obtain ⟨n, hN⟩ : ∃ n, n = qs.length := ⟨_, rfl⟩
    have hn : n ≤ 30 := by have := HFL.out; omega
    rw [← hN] at HO5 ⊢
    have HN := Lib.hid hN
    clear hgd hrd hSX hN
    go_wp2_with fail
    go_loopw [12] (fun vi wr => ∃ i : Nat, vi = .int .i64 i ∧ i ≤ n ∧ Kept NoBlock w5 wr) (fun vi _ => n - (intOf vi).toNat)
    case atStart => exact ⟨0, rfl, Nat.zero_le _, Kept.refl _ _⟩
    case round =>
      obtain ⟨i, rfl, hi, hk⟩ := hrel
      have HK := Lib.hid hk
      have HKw := Lib.hid (HK5.out.trans hk)
      have HOr := Lib.hid (HO5.out.kept hk)
      clear hk
      by_cases hlt : i < n
      · have hltI : (i : Int) < (n : Int) := by omega
        have hi1 : i < qs.length := by have := HN.out; omega
        obtain ⟨q, hq⟩ : ∃ q, qs[i]? = some q := ⟨qs[i], List.getElem?_eq_getElem hi1⟩
        have hqm := List.mem_of_getElem? hq
        have HQ := Lib.hid hq
        obtain ⟨ad, rfl, a0, a1, a2, a3, a4⟩ := HOr.out.at hq
        have hb1 := (HBF.out q hqm).keptNo HKw.out
        have htx := CTX.out q hqm
        obtain ⟨g1, g2, g3⟩ := HGD.out q hqm
        have hpa := CPA.out (lineD q.1) g3
        rw [g2] at hpa
        rw [g1] at htx
        obtain ⟨d, bv⟩ := q
        simp only at a0 a1 a2 a3 a4 hb1 htx hpa
        obtain ⟨bp2, bc2, rfl, _⟩ := hb1.parts
        generalize (⟨(lineD d).toArray⟩ : ByteArray) = L at *
        have HB1 := Lib.hid hb1
        have HTX := Lib.hid htx
        have HPA := Lib.hid hpa
        clear hi1 hq hqm hb1 htx hpa g1 g2 g3
        go_wp2_with fail
        refine (HTX.out _ _ HKw.out ⟨_, rfl, HB1.out⟩).mono ?_
        rintro e w6 ⟨rfl, hk6⟩
        have HK6 := Lib.hid (HKw.out.trans hk6)
        have HKr6 := Lib.hid hk6
        clear hk6
        go_wp2_with fail
        refine (HPA.out _ HK6.out).mono ?_
        rintro e w7 ⟨hk7, bv7, rfl, hb7, _⟩
        obtain ⟨bp7, bc7, rfl, _⟩ := hb7.parts
        have hk7r := HKr6.out.trans hk7
        have HKr8 := Lib.hid (hk7r.alloc (.cells #[.int .i64 d.kind, .int .i64 d.a, .int .i64 d.n, .int .u64 d.draw, .slice bp7 d.b.length bc7] 36))
        have hka := Kept.allocd w7 (.cells #[.int .i64 d.kind, .int .i64 d.a, .int .i64 d.n, .int .u64 d.draw, .slice bp7 d.b.length bc7] 36)
        have HG8 := Lib.hid (heap_alloc_new w7 (.cells #[.int .i64 d.kind, .int .i64 d.a, .int .i64 d.n, .int .u64 d.draw, .slice bp7 d.b.length bc7] 36))
        have HB8 := Lib.hid (hb7.keptNo hka)
        clear hk7 hb7 hk7r hka a0 a1 a2 a3 a4
        go_wp2_with fail
        generalize w7.alloc (.cells #[.int .i64 d.kind, .int .i64 d.a, .int .i64 d.n, .int .u64 d.draw, .slice bp7 d.b.length bc7] 36) = W8 at *
        generalize w7.heap.size = g8 at *
        obtain ⟨ad', he, a0, a1, a2, a3, a4⟩ := (HOr.out.kept HKr8.out).at HQ.out
        obtain rfl := Option.some.inj he
        simp only at a0 a1 a2 a3 a4
        obtain ⟨y0, y1, y2, y3, y4⟩ := blk5 HG8.out
        refine wp_plan 0 [1, 2, 3, 4, 5, 6, 7, 8, 9, 10, 11] 12 [] [13, 14] (by kernel_rfl) (by kernel_rfl) ?_
        simp only [wpPlan, pick, List.filterMap_cons, List.filterMap_nil, List.getElem?_cons_succ, List.getElem?_cons_zero]
        repeat (quiet_step (fail))
        refine wpQuiet_nil ?_
        rintro _ ⟨q1, rfl⟩
        go_wp2_with fail
        refine (rsame _ _ d d (W8.drewN q1) ⟨_, rfl, HB8.out⟩ ⟨_, rfl, HB1.out.keptNo (HKr8.out.drewN q1)⟩).mono ?_
        rintro e w9 ⟨rfl, hk9⟩
        have HKr9 := Lib.hid ((HKr8.out.drewN q1).trans hk9)
        have hsd := sameD_refl d
        rw [hsd]
        clear hk9 a0 a1 a2 a3 a4 y0 y1 y2 y3 y4
        go_wp2_with fail
        refine Halt.mk ?_
        repeat (quiet_step (fail))
        refine wpQuiet_nil ?_
        rintro _ ⟨q2, rfl⟩
        go_wp2
        go_roundw
        case rel => exact ⟨i + 1, by go_num, by omega, HK.out.trans (HKr9.out.drewN q2)⟩
        case measure => simp [intOf]; omega
      · go_wp2_with fail
        refine (CRE.out _ HKw.out).mono ?_
        rintro e w6 ⟨hk6, v6, qs6, rfl, hm6, hd6, hb6⟩
        unfold confV
        have HK6 := Lib.hid (HKw.out.trans hk6)
        have HO6 := Lib.hid (HOr.out.kept hk6)
        have HG6 := Lib.hid ((HK.out.trans hk6).heap HG5.out (fun h => h))
        have HD6 := Lib.hid hd6
        have HB6 := Lib.hid hb6
        have HM6 := Lib.hid hm6
        have hform := hd6
        obtain ⟨ap6, cap6, rfl, _⟩ := hform
        generalize qs6.length = n6 at *
        clear hk6 hd6 hb6 hm6
        have hka := Kept.allocd w6 (.cells #[.int .i64 c.c0, .int .i64 c.c1, .int .i64 c.c2, .int .i64 c.c3, .int .i64 c.c4] 52)
        have HK7 := Lib.hid (HK6.out.alloc (.cells #[.int .i64 c.c0, .int .i64 c.c1, .int .i64 c.c2, .int .i64 c.c3, .int .i64 c.c4] 52))
        have HO7 := Lib.hid (HO6.out.kept hka)
        have HD7 := Lib.hid (HD6.out.kept hka)
        have HB7 := Lib.hid (HB6.out.kept hka)
        obtain ⟨c0, c1, c2, c3, c4⟩ := blk5 HG6.out
        have hlt6 : w.heap.size < w6.heap.size := lt_of_heap HG6.out
        have hsame := fun W (hk : Kept NoBlock (w6.alloc (.cells #[.int .i64 c.c0, .int .i64 c.c1, .int .i64 c.c2, .int .i64 c.c3, .int .i64 c.c4] 52)) W) => CSA.out _ _ W qs6 (HO7.out.kept hk) ((HBF.out.kept HK7.out).kept hk) (HD7.out.kept hk) (HB7.out.kept hk) HM6.out
        rw [HM6.out, sameL_refl] at hsame
        have HS := Lib.hid hsame
        clear hsame hka
        go_wp2_with fail
        refine (HS.out _ (Kept.refl _ _)).mono ?_
        rintro e w8 ⟨rfl, hk8⟩
        have HK8 := Lib.hid (HK7.out.trans hk8)
        clear hk8 c0 c1 c2 c3 c4
        go_wp2_with fail
        refine (CAL.out _ HK8.out).mono ?_
        rintro e w9 ⟨rfl, hk9⟩
        go_wp2_with fail
        go_ret
        exact ⟨rfl, HK8.out.trans hk9⟩
end Go.Proofs.YtdinkdmkbfbjbaaDoor
