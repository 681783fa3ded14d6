/- A reader of requests: bulks. -/
import Derived.Test.YtdfkdbdhaaiadaaDoorRe9
namespace Go.Proofs.YtdfkdbdhaaiadaaDoor
open Go.RowKit
attribute [local go_sem] fold_part fold_some fold_some' partAt_zero

theorem pskip_wait (g : Nat) (B : Option Nat) (l : Bs) (u n : Nat) (w : World) (h : RdAt w g B l u) (hn : l.length < n) :
    Calls Tryd.prog 43 #[.pointer (some ⟨g, 0, none⟩), .int .i64 n] w fun e w' => e = .panicked waitE ∧ w = w' := by
  obtain ⟨v, hg, hv, hB, hBg⟩ := h
  obtain ⟨ap, cap, rfl, hc1, hc2⟩ := hv.parts
  obtain ⟨c0, c1, f0, f1⟩ := blk2 hg
  clear hv hB hBg hc2 hg
  generalize l.length = len at *
  go_enter Tryd.func43, Tryd.ntmps43
  go_wp2
  exact ⟨rfl, rfl, rfl⟩

theorem str_app (x y : Bs) : (⟨x.toArray⟩ : ByteArray) ++ ⟨y.toArray⟩ = ⟨(x ++ y).toArray⟩ := by
  apply ByteArray.ext
  rw [ByteArray.data_append]
  simp

def retStr (s : Bs) (v : Value) (_ : World) : Prop := v = strV s

theorem ends_wait2 {α : Type} {g : Nat} {B : Option Nat} {l : Bs} {u : Nat} {ret : α → Value → World → Prop} {w w' : World} (h : Bx2 w' g) (hk : Kept (fun k => k = g) w w') : Ends g B l u .wait ret w (.panicked waitE) w' :=
  ⟨hk, rfl, h⟩

theorem RdAt.first {w : World} {g : Nat} {B : Option Nat} {c : UInt8} {r : Bs} {u : Nat} (h : RdAt w g B (c :: r) u) : ∃ ad cap, w.heap[g]? = some (.cells #[.slice (some ad) (r.length + 1) cap, .int .i64 u] 57 (0, 0)) ∧ w.cell? ad = some (.int .u8 c.toNat) ∧ r.length + 1 ≤ cap := by
  obtain ⟨v, hg, hv, hB, hBg⟩ := h
  obtain ⟨ad, cap, rfl, hcap⟩ := hv.first
  exact ⟨ad, cap, hg, hv.at0, hcap⟩

set_option maxRecDepth 100000 in
set_option maxHeartbeats 3200000 in
theorem pbulk (W0 : World) (g : Nat) (B : Option Nat) (l : Bs) (u : Nat) (w : World) (hE : Env W0 w) (hW : W0.heap.size ≤ g) (h : RdAt w g B l u) (hlu : u + l.length ≤ 100000000) :
    Calls Tryd.prog 41 #[.pointer (some ⟨g, 0, none⟩)] w (Ends g B l u (bulk parseV l) retStr w) := by
  have HR := Lib.hid h
  have HLU := Lib.hid hlu
  cases l with
  | nil =>
    obtain ⟨v, hg, hv, hB, hBg⟩ := h
    obtain ⟨ap, cap, rfl, hc1, hc2⟩ := hv.parts
    obtain ⟨c0, c1, f0, f1⟩ := blk2 hg
    obtain ⟨MM, hMM⟩ : ∃ MM, MM = bulk parseV [] := ⟨_, rfl⟩
    rw [← hMM]
    obtain rfl : MM = Got.wait := by rw [hMM]; rfl
    clear hv hB hBg hc2 hg hMM hlu
    simp only [List.length_nil] at *
    go_enter Tryd.func41, Tryd.ntmps41
    go_wp2
    exact ⟨rfl, ends_wait HR.out (Kept.refl _ w)⟩
  | cons c r =>
    obtain ⟨ad, cap, hg, hc0, hcap⟩ := h.first
    obtain ⟨c0, c1, f0, f1⟩ := blk2 hg
    by_cases hc : c = 36
    · subst hc
      have hM : bulk parseV (36 :: r) = match count parseV fBigB fBadB 0 65536 (36 :: r) with
          | .wait => .wait
          | .wrong f => .wrong f
          | .ok (n, i) => if (36 :: r).length < i + n.toNat + 2 then .wait else .ok (((36 :: r).drop i).take n.toNat, i + n.toNat + 2) := by
        unfold bulk
        simp only [List.head?_cons]
        rw [if_neg (by simp)]
        rcases count parseV fBigB fBadB 0 65536 (36 :: r) with _ | _ | ⟨n, i⟩ <;> rfl
      have hcnt := pcount W0 g B (36 :: r) u ⟨fBigB.toArray⟩ ⟨fBadB.toArray⟩ fBigB fBadB rfl rfl 0 65536 w hE hW HR.out hlu 36 rfl (by decide)
      have hok := fun n i => count_ok parseV (big := fBigB) (bad := fBadB) (least := 0) (most := 65536) (b := 36 :: r) (n := n) (i := i)
      generalize bulk parseV (36 :: r) = MM at *
      have HM := Lib.hid hM.symm
      generalize count parseV fBigB fBadB 0 65536 (36 :: r) = Z at *
      have hc36 : w.cell? ad = some (.int .u8 36) := hc0
      have HC := Lib.hid hcnt
      have HOK := Lib.hid hok
      have hr6 : u + (r.length + 1) ≤ 100000000 := by simp only [List.length_cons] at hlu; omega
      clear hM hcnt hok hg hc0 h hlu
      generalize hn : r.length = n at *
      have HN := Lib.hid hn
      clear hn
      go_enter Tryd.func41, Tryd.ntmps41
      go_wp2_with fail
      refine HC.out.mono ?_
      rintro e w1 ⟨hk1, hend⟩
      have HK1 := Lib.hid hk1
      rcases Z with _ | f | ⟨k, i⟩
      · obtain rfl : Got.wait = MM := HM.out
        obtain ⟨rfl, hb⟩ := hend
        exact ⟨rfl, ends_wait2 hb HK1.out⟩
      · obtain rfl : Got.wrong f = MM := HM.out
        obtain ⟨rfl, hb⟩ := hend
        exact ⟨rfl, ends_wrong2 hb HK1.out⟩
      · obtain ⟨v, rfl, rfl, hR1⟩ := hend
        obtain ⟨hi1, hi2, hk0, hk6⟩ := HOK.out k i rfl
        obtain ⟨K, rfl⟩ : ∃ K : Nat, k = K := ⟨k.toNat, by omega⟩
        have hM2 := HM.out
        simp only [Int.toNat_natCast] at hM2
        have HM2 := Lib.hid hM2
        have HR1 := Lib.hid hR1
        have hdl : ((36 :: r).drop i).length = n + 1 - i := by rw [List.length_drop, List.length_cons, HN.out]
        have hKl : K ≤ 65536 := by omega
        rw [List.length_cons, HN.out] at hi2
        clear hM2 hR1 hk1 HM HC HOK hk0 hk6 c0 c1 f0 f1 hc36
        by_cases h1 : n + 1 - i < K
        · obtain rfl : Got.wait = MM := by rw [← HM2.out, List.length_cons, HN.out, if_pos (by omega)]
          have hw1 := pskip_wait g B ((36 :: r).drop i) (u + i) K w1 HR1.out (by rw [hdl]; exact h1)
          clear hdl
          go_wp2_with fail
          refine hw1.mono ?_
          rintro e w2 ⟨rfl, rfl⟩
          exact ⟨rfl, ends_wait2 HR1.out.bx HK1.out⟩
        · have hs1 := pskip g B ((36 :: r).drop i) (u + i) K w1 HR1.out (by rw [hdl]; omega) (by rw [hdl]; omega)
          clear hdl
          go_wp2_with fail
          refine hs1.mono ?_
          rintro e w2 ⟨v2, rfl, hb2, hB2, hR2, hk2⟩
          have HR2 := Lib.hid hR2
          have HK2 := Lib.hid (HK1.out.trans hk2)
          have hl2 : (((36 :: r).drop i).take K).length = K := by rw [List.length_take, List.length_drop, List.length_cons, HN.out]; omega
          obtain ⟨ap2, cap2, rfl, _, _⟩ := hb2.parts
          have hconv : (convert 22 9 (.slice ap2 (((36 :: r).drop i).take K).length cap2)).run Tryd.prog w2 = .ok (.string ⟨(((36 :: r).drop i).take K).toArray⟩) w2 :=
            conv_bytes w2 22 9 5 Tryd.underlying22 Tryd.underlying5 Tryd.underlying9 cap2 (RowV.holds hb2).1
          rw [hl2] at hconv ⊢
          have hd2 : (((36 :: r).drop i).drop K).length = n + 1 - i - K := by rw [List.length_drop, List.length_drop, List.length_cons, HN.out]
          clear hs1 hb2 hB2 hR2 hk2 hl2
          by_cases h2 : n + 1 - i - K < 2
          · obtain rfl : Got.wait = MM := by rw [← HM2.out, List.length_cons, HN.out, if_pos (by omega)]
            have hw2 := pskip_wait g B (((36 :: r).drop i).drop K) (u + i + K) 2 w2 HR2.out (by rw [hd2]; exact h2)
            have HW2 := Lib.hid hw2
            clear hw2 hd2
            go_wp2_with fail
            refine HW2.out.mono ?_
            rintro e w3 ⟨rfl, rfl⟩
            exact ⟨rfl, ends_wait2 HR2.out.bx HK2.out⟩
          · have hM4 : Got.ok (((36 :: r).drop i).take K, i + K + 2) = MM := by rw [← HM2.out, List.length_cons, HN.out, if_neg (by omega)]
            subst hM4
            have hs2 := pskip g B (((36 :: r).drop i).drop K) (u + i + K) 2 w2 HR2.out (by rw [hd2]; omega) (by rw [hd2]; omega)
            have HS2 := Lib.hid hs2
            clear hs2 hd2 HM2
            go_wp2_with fail
            refine HS2.out.mono ?_
            rintro e w3 ⟨v3, rfl, _, _, hR3, hk3⟩
            have HR3 := Lib.hid hR3
            have HK3 := Lib.hid (HK2.out.trans hk3)
            clear hR3 hk3 HS2
            go_wp2
            go_ret
            refine ⟨HK3.out, _, rfl, rfl, ?_⟩
            have e1 : ((((36 : UInt8) :: r).drop i).drop K).drop 2 = ((36 : UInt8) :: r).drop (i + K + 2) := by simp only [List.drop_drop]
            have e2 : u + i + K + 2 = u + (i + K + 2) := by omega
            have e3 := HR3.out
            rw [e1, e2] at e3
            exact e3
    · have hM : bulk parseV (c :: r) = .wrong (fExp ++ shown c ++ [39]) := by
        unfold bulk
        simp only [List.head?_cons]
        rw [if_pos hc]
      rw [hM]
      have hc' : ((c.toNat : Int) != 36) = true := by
        have : ¬ (c.toNat : Int) = 36 := fun e => hc (UInt8.toNat_inj.1 (by show c.toNat = 36; omega))
        simpa using this
      have hsh := pshown c w
      have hsz : (⟨(shown c).toArray⟩ : ByteArray).size = 1 := by
        show (shown c).toArray.size = 1
        rw [List.size_toArray]; unfold shown; split <;> rfl
      have happ1 : (⟨fExp.toArray⟩ : ByteArray) ++ ⟨(shown c).toArray⟩ = ⟨(fExp ++ shown c).toArray⟩ := str_app _ _
      have happ2 : (⟨(fExp ++ shown c).toArray⟩ : ByteArray) ++ ⟨[39].toArray⟩ = ⟨(fExp ++ shown c ++ [39]).toArray⟩ := str_app _ _
      have hfe : faultE (fExp ++ shown c ++ [39]) = [{ v := .iface 69 (.string ((⟨fExp.toArray⟩ : ByteArray) ++ ⟨(shown c).toArray⟩ ++ ⟨[39].toArray⟩)), recovered := false }] := by
        rw [happ1, happ2]; rfl
      have HFE := Lib.hid hfe
      generalize (⟨(shown c).toArray⟩ : ByteArray) = S at *
      clear hM happ1 happ2 hfe hg h hlu
      generalize r.length = n at *
      go_enter Tryd.func41, Tryd.ntmps41
      go_wp2_with (go_at_call 53; refine hsh.mono ?_; rintro e w' ⟨rfl, rfl⟩)
      refine ⟨rfl, Kept.refl _ _, ?_, HR.out.bx⟩
      rw [← List.append_assoc, HFE.out]
      rfl

theorem RdAt.keptS {S : Nat → Prop} {w w' : World} {g : Nat} {B : Option Nat} {l : Bs} {u : Nat} (h : RdAt w g B l u) (hk : Kept S w w') (hg : ¬ S g) (hB : ∀ b, B = some b → ¬ S b) : RdAt w' g B l u := by
  obtain ⟨v, h0, hv, h1, h2⟩ := h
  exact ⟨v, hk.heap h0 hg, hv.kept hk (fun b e => hB b (by rw [← h1, e])), h1, h2⟩

theorem OwnS.keptS {S : Nat → Prop} {w w' : World} {base : Nat} {v : Value} {L : List Bs} (h : OwnS w base v L) (hk : Kept S w w') (hS : ∀ k, base ≤ k → ¬ S k) : OwnS w' base v L := by
  refine ⟨h.1, ?_⟩
  rcases h.2 with h' | ⟨g, cap, cur, e1, e2, e3, rest⟩
  · exact .inl h'
  · exact .inr ⟨g, cap, cur, e1, e2, hk.heap e3 (hS g e2), rest⟩

theorem AppS.keptRow {base : Nat} {v : Value} {L L' : List Bs} {w : World} {v' : Value} {w' : World} (h : AppS base v L' w v' w') (hown : OwnS w base v L) : Kept (fun k => base ≤ k) w w' :=
  (Kept.refl _ w).grown h.grow (fun k e _ => (hown.lt k e).1)

set_option maxRecDepth 100000 in
set_option maxHeartbeats 3200000 in
theorem pbulks (W0 : World) (g : Nat) (B : Option Nat) (l : Bs) (u : Nat) (w : World) (hE : Env W0 w) (hW : W0.heap.size ≤ g) (h : RdAt w g B l u) (hlu : u + l.length ≤ 100000000) (hBw : ∀ b, B = some b → b < w.heap.size) (c : UInt8) (hc : l.head? = some c) (hc13 : c ≠ 13) :
    Calls Tryd.prog 30 #[.pointer (some ⟨g, 0, none⟩)] w (Ends g B l u (bulks parseV l) (retS w.heap.size) w) := by
  have hM : bulks parseV l = match count parseV fBigM fBadM (-9223372036854775808) 1024 l with
      | .wait => .wait
      | .wrong f => .wrong f
      | .ok (n, i) => bulksA parseV n.toNat i [] (l.drop i) := by
    unfold bulks
    rcases count parseV fBigM fBadM (-9223372036854775808) 1024 l with _ | _ | ⟨n, i⟩ <;> rfl
  have hcnt := pcount W0 g B l u ⟨fBigM.toArray⟩ ⟨fBadM.toArray⟩ fBigM fBadM rfl rfl (-9223372036854775808) 1024 w hE hW h hlu c hc hc13
  have hok := fun n i => count_ok parseV (big := fBigM) (bad := fBadM) (least := -9223372036854775808) (most := 1024) (b := l) (n := n) (i := i)
  have hglt := h.lt
  generalize bulks parseV l = MM at *
  have HM := Lib.hid hM.symm
  generalize count parseV fBigM fBadM (-9223372036854775808) 1024 l = Z at *
  have HC := Lib.hid hcnt
  have HOK := Lib.hid hok
  have HBw := Lib.hid hBw
  have HLU := Lib.hid hlu
  clear hM hcnt hok h hc hc13 hBw hlu
  go_enter Tryd.func30, Tryd.ntmps30
  go_wp2_with fail
  refine HC.out.mono ?_
  rintro e w1 ⟨hk1, hend⟩
  have HK1 := Lib.hid hk1
  rcases Z with _ | f | ⟨k, i⟩
  · obtain rfl : Got.wait = MM := HM.out
    obtain ⟨rfl, hb⟩ := hend
    exact ⟨rfl, ends_wait2 hb HK1.out⟩
  · obtain rfl : Got.wrong f = MM := HM.out
    obtain ⟨rfl, hb⟩ := hend
    exact ⟨rfl, ends_wrong2 hb HK1.out⟩
  · obtain ⟨v, rfl, rfl, hR1⟩ := hend
    obtain ⟨hi1, hi2, hk0, hk6⟩ := HOK.out k i rfl
    have hM2 := HM.out
    simp only at hM2
    have HM2 := Lib.hid hM2
    have HR1 := Lib.hid hR1
    obtain ⟨N, hN⟩ : ∃ N, N = k.toNat := ⟨_, rfl⟩
    rw [← hN] at HM2
    have hmx : (if (k : Int) < 0 then (0 : Int) else k) = N := by split <;> omega
    have hmx2 : max k 0 = (N : Int) := by omega
    have hN6 : N ≤ 1024 := by omega
    clear hM2 hR1 hk1 HM HC HOK hk0 hk6 hN
    have hsz1 : w.heap.size ≤ w1.heap.size := HK1.out.size
    go_wp2
    go_loopw [4, 9] (fun vl vi wr => ∃ (j m : Nat) (L : List Bs), vi = .int .i64 j ∧ j ≤ N ∧ m ≤ l.length ∧ RdAt wr g B (l.drop m) (u + m) ∧ OwnS wr w.heap.size vl L ∧ L.length = j ∧ bulksA parseV (N - j) m L (l.drop m) = MM ∧ Kept (fun k => k = g) w wr) (fun _ vi _ => N - (intOf vi).toNat)
    case atStart => exact ⟨0, i, [], rfl, Nat.zero_le _, hi2, HR1.out, OwnS.nil _ _, rfl, HM2.out, HK1.out⟩
    case round =>
      obtain ⟨j, m, L, rfl, hj, hm, hR, hO, hL, hMM, hK⟩ := hrel
      have HR := Lib.hid hR
      have HO := Lib.hid hO
      have HL := Lib.hid hL
      have HMM := Lib.hid hMM
      have HK := Lib.hid hK
      have hL6 : L.length ≤ 1024 := by omega
      have hszr : w.heap.size ≤ wr.heap.size := hK.size
      clear hmx hmx2 HR1 HM2 HK1 hR hL hMM hK hi1 hi2 hsz1
      by_cases hlt : j < N
      · have hcall := pbulk W0 g B (l.drop m) (u + m) wr (hE.step HK.out (fun q hq e => by omega)) hW HR.out (by rw [List.length_drop]; have := HLU.out; omega)
        have hMM2 : (match bulk parseV (l.drop m) with | .wait => .wait | .wrong f => .wrong f | .ok (s, n) => bulksA parseV (N - (j + 1)) (m + n) (L ++ [s]) ((l.drop m).drop n)) = MM := by
          rw [← HMM.out, show N - j = (N - (j + 1)) + 1 by omega, bulksA]
          rcases bulk parseV (l.drop m) with _ | _ | ⟨s, n⟩ <;> rfl
        have hbo := fun s n => bulk_ok parseV (b := l.drop m) (s := s) (n := n)
        have hlt' : (j : Int) < (N : Int) := by omega
        generalize bulk parseV (l.drop m) = Z at *
        have HC := Lib.hid hcall
        have HM2 := Lib.hid hMM2
        have HBO := Lib.hid hbo
        clear hcall hMM2 hbo HMM hO
        go_wp2_with fail
        refine HC.out.mono ?_
        rintro e w2 ⟨hk2, hend⟩
        have HK2 := Lib.hid (HK.out.trans hk2)
        rcases Z with _ | f | ⟨s, n⟩
        · obtain rfl : Got.wait = MM := HM2.out
          obtain ⟨rfl, hb⟩ := hend
          exact ⟨rfl, ends_wait2 hb HK2.out⟩
        · obtain rfl : Got.wrong f = MM := HM2.out
          obtain ⟨rfl, hb⟩ := hend
          exact ⟨rfl, ends_wrong2 hb HK2.out⟩
        · obtain ⟨v, rfl, hv, hR2⟩ := hend
          obtain rfl : v = .string ⟨s.toArray⟩ := hv
          obtain ⟨hn1, hn2⟩ := HBO.out s n rfl
          have hOS : OwnS w2 w.heap.size u4 L := HO.out.keptS hk2 (fun q hq e => by omega)
          have HR2 := Lib.hid hR2
          have HM3 := Lib.hid (show bulksA parseV (N - (j + 1)) (m + n) (L ++ [s]) ((l.drop m).drop n) = MM from HM2.out)
          have hsz2 : w.heap.size ≤ w2.heap.size := HK2.out.size
          rw [List.length_drop] at hn2
          clear hR2 hk2 HM2 HC HO HR HBO
          go_wp2_with (at_builtin; refine wpList_appS rfl _ _ rfl w.heap.size u4 L rfl (hOS.kept2 ((Kept.refl _ w2).alloc _)) w2.heap.size s rfl (heap_alloc_new w2 _) (by omega) (by simp; omega) ?_; intro v5 w3 happ; refine Hid.out ?_)
          refine Lib.hid ?_
          have hk3 := happ.kept (hOS.kept2 ((Kept.refl _ w2).alloc _)) (Nat.le_refl _) (HK2.out.alloc _)
          have hR3 : RdAt w3 g B (l.drop (m + n)) (u + (m + n)) := by
            have h1 := (HR2.out.keptNo ((Kept.refl _ w2).alloc _)).keptS (happ.keptRow (hOS.kept2 ((Kept.refl _ w2).alloc _))) (by omega) (fun b e => by have := HBw.out b e; omega)
            rw [List.drop_drop, Nat.add_assoc] at h1
            exact h1
          have hM4 : bulksA parseV (N - (j + 1)) (m + n) (L ++ [s]) (l.drop (m + n)) = MM := by
            have h1 := HM3.out
            rw [List.drop_drop] at h1
            exact h1
          have HAP := Lib.hid happ
          have HK3 := Lib.hid hk3
          have HR3 := Lib.hid hR3
          have HM4 := Lib.hid hM4
          clear happ hk3 hR3 hM4 hOS
          go_wp2
          go_roundw
          case rel => exact ⟨j + 1, m + n, L ++ [s], by go_num, by omega, by omega, HR3.out, HAP.out.own, by rw [List.length_append, List.length_singleton, HL.out], HM4.out, HK3.out⟩
          case measure => simp [intOf]; omega
      · obtain rfl : j = N := by omega
        have hM4 : Got.ok (L, m) = MM := by
          rw [← HMM.out, Nat.sub_self, bulksA]
        subst hM4
        have HO2 := Lib.hid hO
        clear HMM hO HO
        go_wp2
        go_ret
        exact ⟨HK.out, _, rfl, HO2.out, HR.out⟩
end Go.Proofs.YtdfkdbdhaaiadaaDoor
