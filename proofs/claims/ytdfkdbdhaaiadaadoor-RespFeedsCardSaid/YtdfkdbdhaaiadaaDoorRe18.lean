/- The law of beginnings. -/
import Derived.Test.YtdfkdbdhaaiadaaDoorRe17
import Derived.Test.YtdfkdbdhaaiadaaDoorSp2
namespace Go.Proofs.YtdfkdbdhaaiadaaDoor
open Go.RowKit
attribute [local go_sem] fold_part fold_some fold_some' partAt_zero

theorem pcut (v : Value) (b : Bs) (w : World) (h : BytesV w v b) : Calls Tryd.prog 10 #[v] w fun e w' => ∃ u, e = .returned u ∧ BytesV w u (b.take 300000) ∧ w = w' ∧ vblk u = vblk v := by
  obtain ⟨ap, cap, rfl, hc, _⟩ := h.parts
  have HB := Lib.hid h
  clear h
  by_cases hl : 300000 < b.length
  · generalize hn : b.length = n at *
    have HN := Lib.hid hn
    clear hn
    go_enter Tryd.func10, Tryd.ntmps10
    go_wp2
    go_ret
    exact ⟨_, rfl, HB.out.front 300000 (by omega), rfl, (vblk_slice ap 300000 cap).trans (vblk_slice ap n cap).symm⟩
  · generalize hn : b.length = n at *
    have HN := Lib.hid hn
    clear hn
    go_enter Tryd.func10, Tryd.ntmps10
    go_wp2
    go_ret
    exact ⟨_, rfl, by rw [List.take_of_length_le (by rw [HN.out]; omega)]; exact HB.out, rfl, rfl⟩

theorem ReqsV.front {w : World} {ap : Option Addr} {n c : Nat} {LL : List (List Bs)} (h : ReqsV w (.slice ap n c) LL) (m : Nat) (hm : m ≤ n) : ReqsV w (.slice ap m c) (LL.take m) := by
  obtain ⟨out, h1, h2, h3, h4⟩ := h
  refine ⟨out.take m, ?_, by rw [List.map_take, h2], fun p hp => h3 p (List.mem_of_mem_take hp), by rw [List.length_take]; omega⟩
  rw [List.map_take]
  exact RowV.front h1 m hm

/-- 'Split' as the laws ask it. -/
theorem psplit' (v : Value) (b : Bs) (w : World) (hV : Vs w) (h : BytesV w v b) (hlen : b.length ≤ 100000000) (hlt : ∀ k, vblk v = some k → k < w.heap.size) :
    Calls Tryd.prog 11 #[v] w fun e w' => Kept NoBlock w w' ∧ ∃ ap c, e = .returned (.tuple #[.slice ap (split parseV b).1.length c, .int .i64 ((split parseV b).2.1 : Nat), strV (split parseV b).2.2]) ∧ (split parseV b).1.length ≤ c ∧ ReqsV w' (.slice ap (split parseV b).1.length c) (split parseV b).1 := by
  refine (psplit v _ b w hV h rfl hlt hlen).mono ?_
  rintro e w' ⟨hk, va, out, rfl, ho, hm⟩
  have hq := ho.reqs hm
  obtain ⟨ap, c, rfl, hc⟩ := hq.form
  exact ⟨hk, ap, c, rfl, hc, hq⟩

set_option maxRecDepth 100000 in
set_option maxHeartbeats 3200000 in
theorem law_begins (v : Value) (b0 : Bs) (n : Nat) (hn : n ≤ 65535) (w : World) (hV : Vs w) (h : BytesV w v b0) (hlt : ∀ k, vblk v = some k → k < w.heap.size) :
    Calls Tryd.prog 5 #[v, .int .u16 n] w fun e w' => e = .returned (.bool true) ∧ Kept NoBlock w w' := by
  obtain ⟨ap0, cap0, rfl, _, _⟩ := h.parts
  have HB := Lib.hid h
  have HLT := Lib.hid hlt
  have HV := Lib.hid hV
  clear h hlt hV
  generalize b0.length = n0 at *
  go_enter Tryd.func5, Tryd.ntmps5
  go_wp2_with (first | (go_at_call 14; refine (pawake w HV.out).mono ?_; rintro e w1 ⟨rfl, hk1⟩) | (go_at_call 10; refine (pcut _ b0 w1 (HB.out.keptNo hk1)).mono ?_; rintro e w' ⟨u, rfl, hu, rfl, hub⟩; refine Hid.out ?_))
  obtain ⟨b, hb⟩ : ∃ b, b = b0.take 300000 := ⟨_, rfl⟩
  have hbl : b.length ≤ 300000 := by rw [hb, List.length_take]; omega
  rw [← hb] at hu
  have HTK := Lib.hid (List.take_of_length_le hbl)
  have hV1 := HV.out.below hk1.toB
  have hlt1 : ∀ k, vblk u = some k → k < w1.heap.size := fun k e => by have := HLT.out k (by rw [← hub]; exact e); have := hk1.size; omega
  have hs1 := psplit' u b w1 hV1 hu (by omega) hlt1
  obtain ⟨k, hkk⟩ : ∃ k, k = min n b.length := ⟨_, rfl⟩
  have hkl : k ≤ b.length := by omega
  obtain ⟨S, hS⟩ : ∃ S, S = split parseV b := ⟨_, rfl⟩
  obtain ⟨T, hT⟩ : ∃ T, T = split parseV (b.take k) := ⟨_, rfl⟩
  have hst := split_begins (P := parseV) (b.take k) (b.drop k)
  rw [List.take_append_drop, ← hS, ← hT] at hst
  rw [← hS] at hs1
  obtain ⟨⟨r, hr⟩, hst2, hst3⟩ := hst
  obtain ⟨apu, cu, rfl, hcu, _⟩ := hu.parts
  have hNB : b.length = b.length := rfl
  have hm1 : min (n : Int) ((b.length : Nat) : Int) = (k : Int) := by omega
  have hTS : T.1.length ≤ S.1.length := by rw [hr, List.length_append]; omega
  have hfin : T.2.2 = [] ∨ strV T.2.2 = strV S.2.2 := hst3.imp_right fun h => by rw [h]
  have HS1 := Lib.hid hs1
  have HU := Lib.hid hu
  have HV1 := Lib.hid hV1
  have HL1 := Lib.hid hlt1
  have HK1 := Lib.hid hk1
  have HR := Lib.hid hr
  have HT := Lib.hid hT
  have HS := Lib.hid hS
  have HST := Lib.hid hst3
  clear hs1 hu hV1 hlt1 hk1 hr hT hS hst3 hfin HB HLT HV hb hub
  refine Lib.hid ?_
  go_wp2_with (go_at_call 11; refine HS1.out.mono ?_; rintro e w2 ⟨hk2, ap2, c2, rfl, hc2, hq2⟩; refine Hid.out ?_)
  have hs2 := psplit' (.slice apu k cu) (b.take k) w2 (HV1.out.below hk2.toB) ((HU.out.front k hkl).keptNo hk2) (by rw [List.length_take]; omega) (fun j e => by have := HL1.out j (by rw [← e, vblk_slice, vblk_slice]); have := hk2.size; omega)
  rw [← HT.out] at hs2
  have HS2 := Lib.hid hs2
  have HK2 := Lib.hid (HK1.out.trans hk2)
  have HV2 := Lib.hid (HV1.out.below hk2.toB)
  have HU2 := Lib.hid (HU.out.keptNo hk2)
  have HQ2 := Lib.hid hq2
  have hsz2 := hk2.size
  clear hs2 hk2 hq2 HS1 HK1
  generalize b.length = nb at *
  refine Lib.hid ?_
  go_wp2_with fail
  rw [← hkk]
  refine HS2.out.mono ?_
  rintro e w3 ⟨hk3, ap3, c3, rfl, hc3, hq3⟩
  have hqa := (HQ2.out.keptNo hk3).front T.1.length hTS
  rw [HR.out, List.take_left] at hqa
  have hsm := fun q => psame _ _ T.1 (w3.drewN q) hq3 hqa
  have hs3 := fun q => psplit' (.slice apu nb cu) b (w3.drewN q) ((HV2.out.below hk3.toB).drewN q) (HU2.out.keptNo (hk3.drewN q)) (by rw [← HTK.out, List.length_take]; omega) (fun j e => by have := HL1.out j e; have := hk3.size; show j < w3.heap.size; omega)
  rw [← HS.out] at hs3
  have HSM := Lib.hid hsm
  have HS3 := Lib.hid hs3
  have HK3 := Lib.hid (HK2.out.trans hk3)
  clear hqa hsm hs3 hk3 hq3 HQ2 HK2 HU2 HV2 HS2 HU HV1 HL1
  have hf' : (⟨T.2.2.toArray⟩ : ByteArray) = ⟨#[]⟩ ∨ (⟨T.2.2.toArray⟩ : ByteArray) = ⟨S.2.2.toArray⟩ := HST.out.imp (fun h => by rw [h]) (fun h => by rw [h])
  simp only [strV] at *
  clear HST
  generalize (⟨T.2.2.toArray⟩ : ByteArray) = tf at *
  generalize (⟨S.2.2.toArray⟩ : ByteArray) = sf at *
  generalize T.1.length = tn at *
  generalize S.1.length = sn at *
  generalize T.2.1 = tu at *
  generalize S.2.1 = su at *
  rcases hf' with rfl | rfl
  · go_wp2_with (first | (go_at_call 13; refine (HSM.out 0).mono ?_; rintro e w4 ⟨rfl, q, rfl⟩) | (go_at_call 11; refine (HS3.out q).mono ?_; rintro e w5 ⟨hk5, ap5, c5, rfl, _, _⟩))
    all_goals first | (exfalso; omega) | (go_ret; exact ⟨rfl, (HK3.out.drewN _).trans hk5⟩)
  · by_cases he : tf = ⟨#[]⟩
    · subst he
      go_wp2_with (first | (go_at_call 13; refine (HSM.out 0).mono ?_; rintro e w4 ⟨rfl, q, rfl⟩) | (go_at_call 11; refine (HS3.out q).mono ?_; rintro e w5 ⟨hk5, ap5, c5, rfl, _, _⟩))
      all_goals first | (exfalso; omega) | (go_ret; exact ⟨rfl, (HK3.out.drewN _).trans hk5⟩)
    · go_wp2_with (first | (go_at_call 13; refine (HSM.out 0).mono ?_; rintro e w4 ⟨rfl, q, rfl⟩) | (go_at_call 11; refine (HS3.out q).mono ?_; rintro e w5 ⟨hk5, ap5, c5, rfl, _, _⟩))
      all_goals first | (exfalso; omega) | (go_ret; exact ⟨rfl, (HK3.out.drewN _).trans hk5⟩)
end Go.Proofs.YtdfkdbdhaaiadaaDoor
