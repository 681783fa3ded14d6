/- Merged: What is read of any bytes with the right head and sum: the law. -/
import Derived.Test.YtfhlhpknobkplaaDoorZLr
set_option linter.all false
namespace Go.Proofs.YtfhlhpknobkplaaDoor
open Go.RowKit
attribute [local go_sem] fold_part fold_some fold_some' partAt_zero

/-- Bytes with head and sum. -/
def sealB (Y : Bs) : Bs := signB ++ Y ++ leB 4 (sumB (signB ++ Y))
theorem four_cells (s : Nat) (hs : s < 2 ^ 32) : ((leB 4 s).map bv).toArray = #[.int .u8 ((s : Int) % 256), .int .u8 ((s : Int) / 256 % 256), .int .u8 ((s : Int) / 65536 % 256), .int .u8 ((s : Int) / 16777216)] := by
  have h4 : (s : Int) / 16777216 = (s : Int) / 16777216 % 256 := by omega
  rw [h4]
  have e : ∀ y : Nat, bv (UInt8.ofNat (y % 256)) = Value.int .u8 ((y : Int) % 256) := fun y => (byte_of y).symm
  simp only [leB, List.map_cons, List.map_nil, e, Nat.div_div_eq_div_mul]
  rfl

set_option maxRecDepth 100000 in
set_option maxHeartbeats 1600000 in
theorem lsealed (va : Value) (Y : Bs) (w : World) (h : BytesV w va Y) (hl : Y.length ≤ 131072) :
    Calls Tryd.prog 17 #[va] w fun e w' => ∃ v, e = .returned v ∧ BytesV w' v (sealB Y) ∧ Kept NoBlock w w' := by
  obtain ⟨ap, cap, rfl, _⟩ := h.parts
  have HY := Lib.hid h
  obtain ⟨n, hn⟩ : ∃ n, n = Y.length := ⟨_, rfl⟩
  rw [← hn] at HY ⊢
  have HN := Lib.hid hn
  have hcv : (convert 22 22 (.slice (some ⟨w.heap.size, 0, none⟩) 9 9)).run Tryd.prog (w.alloc (.cells #[.int .u8 77, .int .u8 73, .int .u8 76, .int .u8 76, .int .u8 80, .int .u8 79, .int .u8 78, .int .u8 68, .int .u8 1] 5)) = .ok (.slice (some ⟨w.heap.size, 0, none⟩) 9 9) (w.alloc (.cells #[.int .u8 77, .int .u8 73, .int .u8 76, .int .u8 76, .int .u8 80, .int .u8 79, .int .u8 78, .int .u8 68, .int .u8 1] 5 (9, 10))) :=
    Joins.run_convert_bytes_const_at w 22 5 #[.int .u8 77, .int .u8 73, .int .u8 76, .int .u8 76, .int .u8 80, .int .u8 79, .int .u8 78, .int .u8 68, .int .u8 1] 9 9 w.heap.size rfl Tryd.underlying22 Tryd.underlying5
  have ho0 : OwnT (w.alloc (.cells #[.int .u8 77, .int .u8 73, .int .u8 76, .int .u8 76, .int .u8 80, .int .u8 79, .int .u8 78, .int .u8 68, .int .u8 1] 5 (9, 10))) w.heap.size (.slice (some ⟨w.heap.size, 0, none⟩) 9 9) [77, 73, 76, 76, 80, 79, 78, 68, 1] := const_own w 5 [.int .u8 77, .int .u8 73, .int .u8 76, .int .u8 76, .int .u8 80, .int .u8 79, .int .u8 78, .int .u8 68, .int .u8 1] (by decide)
  have HO0 := Lib.hid ho0
  have HK0 := Lib.hid (Kept.allocd w (.cells #[.int .u8 77, .int .u8 73, .int .u8 76, .int .u8 76, .int .u8 80, .int .u8 79, .int .u8 78, .int .u8 68, .int .u8 1] 5 (9, 10)))
  clear h hn ho0
  go_enter Tryd.func17, Tryd.ntmps17
  go_wp2_with (at_builtin; refine wpList_appL rfl _ _ (by rfl) w.heap.size _ [77, 73, 76, 76, 80, 79, 78, 68, 1] (by rfl) HO0.out _ Y (by rfl) (HY.out.keptNo HK0.out) (by simp only [List.length_cons, List.length_nil]; omega) HK0.out.size ?_; intro v2 w2 ho2 hg2; refine Hid.out ?_)
  have hr1 : Rw w _ _ [77, 73, 76, 76, 80, 79, 78, 68, 1] := ⟨HK0.out, HO0.out⟩
  have hr2 := hr1.grown hg2 ho2
  rw [show [77, 73, 76, 76, 80, 79, 78, 68, 1] = signB from rfl] at hr2
  obtain ⟨X, hX⟩ : ∃ X, X = signB ++ Y := ⟨_, rfl⟩
  rw [← hX] at hr2
  have hXl : Hid (X.length = n + 9) := Lib.hid (by rw [hX, List.length_append, HN.out]; have : signB.length = 9 := rfl; omega)
  obtain ⟨ap2, cap2, hv2, _⟩ := hr2.2.bytes.parts
  subst hv2
  obtain ⟨lx, hlx⟩ : ∃ l, l = X.length := ⟨_, rfl⟩
  rw [← hlx] at hr2 ⊢
  have HLX := Lib.hid hlx
  have HX := Lib.hid hX
  have HR2 := Lib.hid hr2
  have hka := Kept.allocd w2 (.cells #[.slice ap2 lx cap2] 22)
  have hga := heap_alloc_new w2 (.cells #[.slice ap2 lx cap2] 22)
  have HRA := Lib.hid (hr2.kept hka)
  have hmat : MatV (w2.alloc (.cells #[.slice ap2 lx cap2] 22)) (.slice (some ⟨w2.heap.size, 0, none⟩) 1 1) [(.slice ap2 lx cap2, X)] := by
    refine ⟨RowV.mk ⟨rfl, fun _ => ⟨_, rfl, fun j v hj => ?_⟩⟩ (Nat.le_refl _) (fun h => by cases h), fun p hp => ?_⟩
    · rw [addr_add, Nat.zero_add]
      exact cellB hga (by simpa using hj)
    · obtain rfl := List.mem_singleton.1 hp
      exact HRA.out.2.bytes
  have hps := rsum _ [(.slice ap2 lx cap2, X)] _ hmat (by simp) (fun p hp => by obtain rfl := List.mem_singleton.1 hp; have := hXl.out; have := HN.out; simp only; omega)
  rw [sum_one] at hps
  have hsb := sumB_lt X
  obtain ⟨sv, hsv⟩ : ∃ sv, sv = sumB X := ⟨_, rfl⟩
  rw [← hsv] at hps hsb
  have HPS := Lib.hid hps
  have HSV := Lib.hid hsv
  clear hr1 hr2 ho2 hg2 HO0 HK0 hcv hX hlx hka hga hmat hps hsv
  refine Lib.hid ?_
  go_wp2_with fail
  (with_reducible refine HPS.out.mono ?_)
  rintro e w3 ⟨rfl, rfl⟩
  generalize w2.alloc (.cells #[.slice ap2 lx cap2] 22) = w3 at *
  have hf := bytes_fresh w3 (leB 4 sv)
  rw [leB_len, four_cells sv hsb] at hf
  have HF := Lib.hid hf
  have HR4 := Lib.hid (HRA.out.kept (Kept.allocd w3 (.cells #[.int .u8 ((sv : Int) % 256), .int .u8 ((sv : Int) / 256 % 256), .int .u8 ((sv : Int) / 65536 % 256), .int .u8 ((sv : Int) / 16777216)] 5)))
  clear hf
  go_wp2_with (at_builtin; refine wpList_appL rfl _ _ (by rfl) w.heap.size _ X (by rfl) HR4.out.2 _ _ (by rfl) HF.out (by rw [leB_len]; have := hXl.out; have := HN.out; omega) HR4.out.1.size ?_; intro v5 w5 ho5 hg5; refine Hid.out ?_)
  have hr5 := HR4.out.grown hg5 ho5
  have HR5 := Lib.hid hr5
  clear hr5 ho5 hg5
  refine Lib.hid ?_
  go_wp2_with fail
  go_ret
  refine ⟨_, rfl, ?_, HR5.out.1⟩
  unfold sealB
  rw [← HX.out, ← HSV.out]
  exact HR5.out.2.bytes

set_option maxRecDepth 100000 in
set_option maxHeartbeats 1600000 in
theorem law_sealed (va : Value) (a : Bs) (w : World) (hV : Vs w) (ha : BytesV w va a) :
    Calls Tryd.prog 5 #[va] w fun e w' => e = .returned (.bool true) ∧ Kept NoBlock w w' := by
  have hca := pcutB va a w ha
  have hal := cutB_le a
  have HV0 := Lib.hid hV
  have HCA := Lib.hid hca
  clear hV hca ha
  go_enter Tryd.func5, Tryd.ntmps5
  go_wp2_with fail
  (with_reducible refine HCA.out.mono ?_)
  rintro e W ⟨⟨ua, rfl, hA, _⟩, rfl⟩
  generalize hX : cutB a = Y at *
  clear hX
  go_wp2_with fail
  (with_reducible refine (lsealed _ Y _ hA hal).mono ?_)
  rintro e W' ⟨uv, rfl, hSe, hkS⟩
  have HKW := Lib.hid hkS
  obtain ⟨X, hX⟩ : ∃ X, X = sealB Y := ⟨_, rfl⟩
  rw [← hX] at hSe
  have HXL : Hid (X.length ≤ 67108864) := Lib.hid (by rw [hX]; unfold sealB; simp only [List.length_append, leB_len]; have : signB.length = 9 := rfl; omega)
  have HV := Lib.hid (HV0.out.kept hkS)
  have HX := Lib.hid hSe
  obtain ⟨apu, capu, rfl, _⟩ := hSe.parts
  clear hX hkS hSe hA HCA HV0
  have HPD := Lib.hid (fun w' (hk : Kept NoBlock W' w') => pDecode _ X w' (HV.out.kept hk) (HX.out.keptNo hk) HXL.out)
  have HRD := Lib.hid (fun w' (hk : Kept NoBlock W' w') => rDecode _ X w' (HX.out.keptNo hk) HXL.out)
  obtain ⟨M, hM⟩ : ∃ M, M = decB X := ⟨_, rfl⟩
  rw [← hM] at HPD HRD
  have HDD := Lib.hid hM.symm
  clear hM
  obtain ⟨n, hn⟩ : ∃ n, n = X.length := ⟨_, rfl⟩
  rw [← hn] at HPD HRD ⊢
  clear hn
  go_wp2_with fail
  (with_reducible refine (HPD.out W' (Kept.refl _ _)).mono ?_)
  rintro e w3 ⟨hk3, he⟩
  cases M with
  | error c =>
    have he := he
    subst he
    have HK3 := Lib.hid (hk3.alloc (.cells #[.int .u64 0, .int .i64 0, .int .u64 0, .int .i64 0] 32))
    have HG3 := Lib.hid (heap_alloc_new w3 (.cells #[.int .u64 0, .int .i64 0, .int .u64 0, .int .i64 0] 32))
    clear hk3
    go_wp2_with fail
    generalize w3.alloc (.cells #[.int .u64 0, .int .i64 0, .int .u64 0, .int .i64 0] 32) = w4 at *
    generalize w3.heap.size = g3 at *
    (with_reducible refine (HRD.out w4 HK3.out).mono ?_)
    rintro e w5 ⟨hk5, he⟩
    subst he
    have HK5 := Lib.hid ((HK3.out.trans hk5).alloc (.cells #[.int .u64 0, .int .i64 0, .int .u64 0, .int .i64 0] 32))
    have HG5 := Lib.hid ((hk5.alloc (.cells #[.int .u64 0, .int .i64 0, .int .u64 0, .int .i64 0] 32)).heap HG3.out (fun h => h))
    have HG6 := Lib.hid (heap_alloc_new w5 (.cells #[.int .u64 0, .int .i64 0, .int .u64 0, .int .i64 0] 32))
    have HRS := Lib.hid (rsame (.slice none 0 0) (.slice none 0 0) [] [] (w5.alloc (.cells #[.int .u64 0, .int .i64 0, .int .u64 0, .int .i64 0] 32)) ⟨RowK.nil _, fun m hm => by cases hm⟩ ⟨RowK.nil _, fun m hm => by cases hm⟩ rfl (by decide) (fun m hm => by cases hm))
    clear hk5
    obtain ⟨a0, a1, a2, a3⟩ := blk4 HG5.out
    obtain ⟨b0, b1, b2, b3⟩ := blk4 HG6.out
    go_wp2_with fail
    (with_reducible refine HRS.out.mono ?_)
    rintro e w7 ⟨rfl, hk7⟩
    have HK7 := Lib.hid (HK5.out.trans hk7)
    have HA := Lib.hid (lawake w7 (HV.out.kept HK7.out))
    clear hk7 a0 a1 a2 a3 b0 b1 b2 b3
    go_wp2_with fail
    (with_reducible refine HA.out.mono ?_)
    rintro e w8 ⟨rfl, hk8⟩
    have HK8 := Lib.hid (HK7.out.trans hk8)
    clear hk8
    go_wp2_with fail
    go_ret
    exact ⟨rfl, HKW.out.trans HK8.out⟩
  | ok p =>
    have HD := Lib.hid HDD.out
    obtain ⟨id, off, l⟩ := p
    obtain ⟨v3, ms3, rfl, hme3, hes3⟩ := he
    obtain ⟨hll, hls⟩ := decB_sized HD.out
    obtain ⟨ap3, cap3, rfl, _⟩ := hes3.1.parts
    have HE3 := Lib.hid hes3
    have HK3 := Lib.hid (hk3.alloc (.cells #[.int .u64 id, .int .i64 off, .int .u64 0, .int .i64 0] 32))
    have HG3 := Lib.hid (heap_alloc_new w3 (.cells #[.int .u64 id, .int .i64 off, .int .u64 0, .int .i64 0] 32))
    have HE4 := Lib.hid (HE3.out.kept (Kept.allocd w3 (.cells #[.int .u64 id, .int .i64 off, .int .u64 0, .int .i64 0] 32)))
    clear hk3 hes3
    go_wp2_with fail
    generalize w3.alloc (.cells #[.int .u64 id, .int .i64 off, .int .u64 0, .int .i64 0] 32) = w4 at *
    generalize w3.heap.size = g3 at *
    (with_reducible refine (HRD.out w4 HK3.out).mono ?_)
    rintro e w5 ⟨hk5, he⟩
    obtain ⟨v5, ms5, rfl, hme5, hes5⟩ := he
    obtain ⟨ap5, cap5, rfl, _⟩ := hes5.1.parts
    have HK5 := Lib.hid ((HK3.out.trans hk5).alloc (.cells #[.int .u64 id, .int .i64 off, .int .u64 0, .int .i64 0] 32))
    have HG5 := Lib.hid ((hk5.alloc (.cells #[.int .u64 id, .int .i64 off, .int .u64 0, .int .i64 0] 32)).heap HG3.out (fun h => h))
    have HG6 := Lib.hid (heap_alloc_new w5 (.cells #[.int .u64 id, .int .i64 off, .int .u64 0, .int .i64 0] 32))
    have HRS := Lib.hid (rsame _ _ ms3 ms5 (w5.alloc (.cells #[.int .u64 id, .int .i64 off, .int .u64 0, .int .i64 0] 32)) (HE4.out.kept (hk5.alloc (.cells #[.int .u64 id, .int .i64 off, .int .u64 0, .int .i64 0] 32))) (hes5.kept (Kept.allocd w5 (.cells #[.int .u64 id, .int .i64 off, .int .u64 0, .int .i64 0] 32))) (hme3.trans hme5.symm) (by have h1 := congrArg List.length hme3; rw [List.length_map] at h1; have := HXL.out; omega) (fun m hm => (hls m.e (by rw [← hme3]; exact List.mem_map_of_mem hm)).sized (by have := HXL.out; omega)))
    clear hk5 hes5 hme3 hme5 hll hls
    obtain ⟨a0, a1, a2, a3⟩ := blk4 HG5.out
    obtain ⟨b0, b1, b2, b3⟩ := blk4 HG6.out
    go_wp2_with fail
    (with_reducible refine HRS.out.mono ?_)
    rintro e w7 ⟨rfl, hk7⟩
    have HK7 := Lib.hid (HK5.out.trans hk7)
    have HA := Lib.hid (lawake w7 (HV.out.kept HK7.out))
    clear hk7 a0 a1 a2 a3 b0 b1 b2 b3
    go_wp2_with fail
    (with_reducible refine HA.out.mono ?_)
    rintro e w8 ⟨rfl, hk8⟩
    have HK8 := Lib.hid (HK7.out.trans hk8)
    clear hk8
    go_wp2_with fail
    go_ret
    exact ⟨rfl, HKW.out.trans HK8.out⟩
end Go.Proofs.YtfhlhpknobkplaaDoor
