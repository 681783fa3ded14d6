/- Merged: The document's bytes: numbers, texts; The document's bytes of an entry; The document's bytes of a snapshot; The document's Encode, Size; The bytes of any store: the law. -/
import Derived.Test.YtfhlhpknobkplaaDoorZRc5
set_option linter.all false
namespace Go.Proofs.YtfhlhpknobkplaaDoor
open Go.RowKit
attribute [local go_sem] fold_part fold_some fold_some' partAt_zero

theorem leB_snoc : ∀ (i x : Nat), leB (i + 1) x = leB i x ++ [UInt8.ofNat (x / 256 ^ i % 256)]
  | 0, x => by simp [leB]
  | i + 1, x => by
    rw [leB, leB_snoc i (x / 256), leB, Nat.div_div_eq_div_mul]
    rw [show 256 * 256 ^ i = 256 ^ (i + 1) by rw [Nat.pow_succ, Nat.mul_comm]]
    rfl
theorem byte_of (y : Nat) : Value.int .u8 ((y : Int) % 256) = bv (UInt8.ofNat (y % 256)) := by
  unfold bv
  have : (UInt8.ofNat (y % 256)).toNat = y % 256 := by simp
  rw [this]
  rfl

/-- Nothing but blocks of bytes has turned. -/
def UK (w w' : World) : Prop := Kept (fun k => U8 w k) w w'
theorem Kept.uk {w w' : World} (h : Kept NoBlock w w') : UK w w' := h.anyS
theorem UK.trans {w w' w'' : World} (h : UK w w') (h' : UK w' w'') : UK w w'' := by
  refine ⟨h'.os.trans h.os, h'.tape.trans h.tape, h'.output.trans h.output, Nat.le_trans h.size h'.size, fun k hk hn => ?_⟩
  have e := h.block k hk hn
  rw [h'.block k (Nat.lt_of_lt_of_le hk h.size) (fun hu => hn (by
    obtain ⟨cs, fz, hu⟩ := hu
    exact ⟨cs, fz, by rw [← e]; exact hu⟩)), e]
theorem UK.heap {w w' : World} (h : UK w w') {k : Nat} {cs : Array Value} {T : TypeId} {fz : Nat × Nat} (hk : w.heap[k]? = some (.cells cs T fz)) (hT : ¬ (T = 5)) : w'.heap[k]? = some (.cells cs T fz) :=
  Kept.heap h hk (fun hu => by
    obtain ⟨cs', fz', h⟩ := hu
    rw [hk] at h; cases h; exact hT rfl)
/-- A row of bytes that is written behind W0. -/
def Rw (W0 w : World) (v : Value) (x : Bs) : Prop := Kept NoBlock W0 w ∧ OwnT w W0.heap.size v x
theorem Rw.kept {W0 w w' : World} {v : Value} {x : Bs} (h : Rw W0 w v x) (hk : Kept NoBlock w w') : Rw W0 w' v x := ⟨h.1.trans hk, h.2.kept hk⟩
theorem Rw.grown {W0 w w' : World} {v v' : Value} {x y : Bs} (h : Rw W0 w v x) (hg : w.grownBy w' v.ownBlock) (ho : OwnT w' W0.heap.size v' y) : Rw W0 w' v' y :=
  ⟨h.1.grown hg (fun k e hlt => by have := OwnM.lt h.2 k e; omega), ho⟩
theorem ownBlock_vblk (v : Value) (k : Nat) (h : v.ownBlock = some k) : vblk v = some k := by
  unfold Value.ownBlock at h
  split at h
  · cases h; rfl
  · cases h
theorem Rw.uk {W0 w w' : World} {v : Value} {x : Bs} (h : Rw W0 w v x) (hg : w.grownBy w' v.ownBlock) : UK w w' :=
  ⟨hg.os, hg.tape, hg.output, hg.size, fun k hk hn => hg.block k hk (fun e => hn (OwnM.typed h.2 k (ownBlock_vblk _ _ e.symm)))⟩
def RwEnd (W0 w : World) (x : Bs) (e : Ending) (w' : World) : Prop := ∃ v, e = .returned v ∧ Rw W0 w' v x ∧ UK w w'

theorem byte_row {w : World} {b : Nat} {y : Nat} {T : TypeId} (h : w.heap[b]? = some (.cells #[.int .u8 ((y : Int) % 256)] T (0, 0))) : BytesV w (.slice (some ⟨b, 0, none⟩) 1 1) [UInt8.ofNat (y % 256)] := by
  refine RowV.mk ⟨rfl, fun _ => ⟨_, rfl, fun j v hj => ?_⟩⟩ (Nat.le_refl _) (fun h => by cases h)
  rw [addr_add, Nat.zero_add]
  rw [byte_of] at h
  exact cellB h (by simpa using hj)

set_option maxRecDepth 100000 in
theorem rnumber (W0 w : World) (v : Value) (xs : Bs) (x n : Nat) (h : Rw W0 w v xs) (hx : x < 18446744073709551616) (hn : n ≤ 8) (hl : xs.length ≤ 900000000) :
    Calls Tryd.prog 29 #[v, .int .u64 x, .int .i64 n] w (RwEnd W0 w (xs ++ leB n x)) := by
  have HL := Lib.hid h
  have HX := Lib.hid hx
  clear h hx
  go_enter Tryd.func29, Tryd.ntmps29
  go_wp2_with fail
  go_loopw [0, 1, 7] (fun v0 v1 v7 wr => ∃ i y : Nat, v7 = .int .i64 i ∧ v1 = .int .u64 y ∧ i ≤ n ∧ y = x / 256 ^ i ∧ Rw W0 wr v0 (xs ++ leB i x) ∧ UK w wr) (fun _ _ v7 _ => n - (intOf v7).toNat)
  case atStart => exact ⟨0, x, rfl, rfl, Nat.zero_le _, by simp, by simpa [leB] using HL.out, (Kept.refl _ _).uk⟩
  case round =>
    obtain ⟨i, y, rfl, rfl, hi, hy, hrw, huk⟩ := hrel
    obtain ⟨ap, cap, rfl, _⟩ := hrw.2.bytes.parts
    have hyx : y < 18446744073709551616 := by have := HX.out; have := Nat.div_le_self x (256 ^ i); omega
    have HRW := Lib.hid hrw
    have HUK := Lib.hid huk
    have HY := Lib.hid hy
    rw [List.length_append, leB_len] at HRW ⊢
    clear hrw huk hy
    by_cases hlt : i < n
    · obtain ⟨q, hq⟩ : ∃ q : Nat, q = y / 256 := ⟨_, rfl⟩
      have hqq : (y : Int) / 256 = (q : Int) := by omega
      have HQ := Lib.hid hq
      clear hq
      have hka := Kept.allocd wr (.cells #[.int .u8 ((y : Int) % 256)] 5)
      have hga := heap_alloc_new wr (.cells #[.int .u8 ((y : Int) % 256)] 5)
      have HR2 := Lib.hid (HRW.out.kept hka)
      have HB2 := Lib.hid (byte_row hga)
      have HU2 := Lib.hid (HUK.out.trans hka.uk)
      clear hka hga
      generalize hxi : xs ++ leB i x = X at *
      have hXl : xs.length + i = X.length := by rw [← hxi, List.length_append, leB_len]
      rw [hXl] at HRW HR2 ⊢
      go_wp2_with (at_builtin; refine wpList_appL rfl _ _ (by rfl) W0.heap.size _ X (by rfl) HR2.out.2 _ _ (by rfl) HB2.out (by simp only [List.length_cons, List.length_nil]; omega) HR2.out.1.size ?_; intro v3 w3 ho3 hg3; refine Hid.out ?_)
      have HR3 := Lib.hid (HR2.out.grown hg3 ho3)
      have HU3 := Lib.hid (HU2.out.trans (HR2.out.uk hg3))
      obtain ⟨ap3, cap3, rfl, _⟩ := ho3.bytes.parts
      clear ho3 hg3
      refine Lib.hid ?_
      go_wp2_with fail
      go_roundw
      case rel =>
        refine ⟨i + 1, q, by go_num, rfl, by omega, by rw [HQ.out, HY.out, Nat.div_div_eq_div_mul, Nat.pow_succ], ?_, HU3.out⟩
        rw [leB_snoc, ← List.append_assoc, hxi, ← HY.out]
        exact HR3.out
      case measure => simp [intOf]; omega
    · obtain rfl : i = n := by omega
      go_wp2_with fail
      go_ret
      exact ⟨_, rfl, by have := HRW.out; exact this, HUK.out⟩

set_option maxRecDepth 100000 in
theorem rtext (W0 w : World) (v : Value) (xs s : Bs) (h : Rw W0 w v xs) (hl : xs.length + s.length ≤ 800000000) :
    Calls Tryd.prog 62 #[v, strV s] w (RwEnd W0 w (xs ++ textB s)) := by
  have hnu := rnumber W0 w v xs s.length 4 h (by omega) (by decide) (by omega)
  obtain ⟨S, hS⟩ : ∃ S : ByteArray, S = ⟨s.toArray⟩ := ⟨_, rfl⟩
  have hsz := str_size hS
  have hw : IntKind.u64.wrap ((S.size : Nat) : Int) = ((S.size : Nat) : Int) := u64_wrap_id _ (by omega) (by omega)
  rw [← hsz, show (((4 : Nat) : Int)) = 4 from rfl] at hnu
  unfold strV
  rw [← hS]
  have HS := Lib.hid hS
  have HNU := Lib.hid hnu
  clear hS hnu h hsz
  go_enter Tryd.func62, Tryd.ntmps62
  go_wp2_with fail
  (with_reducible refine HNU.out.mono ?_)
  rintro e w2 ⟨v2, rfl, hr2, hu2⟩
  obtain ⟨ap2, cap2, rfl, _⟩ := hr2.2.bytes.parts
  rw [List.length_append, leB_len] at hr2 ⊢
  have HR2 := Lib.hid hr2
  have HU2 := Lib.hid hu2
  have HW0 := Lib.hid hr2.1.size
  clear hr2 hu2 hw
  go_wp2_with (at_builtin; refine wpList_appT rfl _ _ (by rfl) W0.heap.size _ _ (by rfl) HR2.out.2 s S HS.out (by rfl) (by rw [List.length_append, leB_len]; omega) HW0.out ?_; intro v3 w3 ho3 hg3; refine Hid.out ?_)
  have HR3 := Lib.hid (HR2.out.grown hg3 ho3)
  have HU3 := Lib.hid (HU2.out.trans (HR2.out.uk hg3))
  clear ho3 hg3
  refine Lib.hid ?_
  go_wp2_with fail
  go_ret
  refine ⟨_, rfl, ?_, HU3.out⟩
  unfold textB
  rw [← str_size HS.out, ← List.append_assoc]
  exact HR3.out
end Go.Proofs.YtfhlhpknobkplaaDoor
namespace Go.Proofs.YtfhlhpknobkplaaDoor
open Go.RowKit
attribute [local go_sem] fold_part fold_some fold_some' partAt_zero

/-- A text behind others, at a string of the model's. -/
theorem rtextS {W0 w : World} {v : Value} {xs s : Bs} {S : ByteArray} (hS : S = ⟨s.toArray⟩) (h : Rw W0 w v xs) (hl : xs.length + s.length ≤ 800000000) :
    Calls Tryd.prog 62 #[v, .string S] w (RwEnd W0 w (xs ++ textB s)) := by
  have := rtext W0 w v xs s h hl
  unfold strV at this
  rw [← hS] at this
  exact this

set_option maxRecDepth 100000 in
set_option maxHeartbeats 3200000 in
theorem rentryB (W0 w : World) (v : Value) (xs : Bs) (m : EntM) (h : Rw W0 w v xs) (hs : SubsV W0 m) (hk : 1 ≤ m.e.v.kind ∧ m.e.v.kind ≤ 5) (hl : xs.length + (entB m.e).length ≤ 700000000) :
    Calls Tryd.prog 55 #[v, entA m] w (RwEnd W0 w (xs ++ entB m.e)) := by
  obtain ⟨⟨key, ⟨kk, s, L, Z, H⟩, till⟩, vL, vZ, vH⟩ := m
  simp only at hs hk hl
  unfold entA
  simp only
  obtain ⟨hL, hZ, hH⟩ := hs
  simp only at hL hZ hH
  obtain ⟨apL, capL, rfl, _⟩ := hL.parts
  obtain ⟨apZ, capZ, rfl, _⟩ := hZ.parts
  obtain ⟨apH, capH, rfl, _⟩ := hH.parts
  obtain ⟨ap0, cap0, rfl, _⟩ := h.2.bytes.parts
  rw [List.length_map] at hL ⊢
  have hcx : ∃ c : UInt8, kk = (c.toNat : Int) := by
    refine ⟨UInt8.ofNat kk.toNat, ?_⟩
    have : (UInt8.ofNat kk.toNat).toNat = kk.toNat % 256 := by simp
    rw [this]
    omega
  obtain ⟨c, rfl⟩ := hcx
  generalize hB : entB ⟨key, ⟨(c.toNat : Int), s, L, Z, H⟩, till⟩ = B at *
  have hcc : UInt8.ofNat ((c.toNat : Int) % 256).toNat = c := by
    have hc := c.toNat_lt
    have : ((c.toNat : Int) % 256).toNat = c.toNat := by omega
    rw [this]; simp
  have hB2 : B = [c] ++ (leB 8 (wrapU till) ++ (textB key ++ bodyV ⟨(c.toNat : Int), s, L, Z, H⟩)) := by rw [← hB]; simp [entB, hcc]
  have hBl : B.length = 1 + (8 + (4 + key.length + (bodyV ⟨(c.toNat : Int), s, L, Z, H⟩).length)) := by rw [hB2]; simp only [List.length_append, leB_len, textB, List.length_singleton]
  rw [hBl] at hl
  subst hB2
  obtain ⟨K, hK⟩ : ∃ S : ByteArray, S = ⟨key.toArray⟩ := ⟨_, rfl⟩
  obtain ⟨S, hS⟩ : ∃ S : ByteArray, S = ⟨s.toArray⟩ := ⟨_, rfl⟩
  unfold strV
  rw [← hK, ← hS]
  have HKY := Lib.hid hK
  have HST := Lib.hid hS
  obtain ⟨nL, hnL⟩ : ∃ n, n = L.length := ⟨_, rfl⟩
  obtain ⟨nZ, hnZ⟩ : ∃ n, n = Z.length := ⟨_, rfl⟩
  obtain ⟨nH, hnH⟩ : ∃ n, n = H.length := ⟨_, rfl⟩
  rw [← hnL] at hL
  rw [← hnZ] at hZ
  rw [← hnH] at hH
  rw [← hnL, ← hnZ, ← hnH]
  have HNL := Lib.hid hnL
  have HNZ := Lib.hid hnZ
  have HNH := Lib.hid hnH
  have hba := Kept.allocd w (.cells #[.string K, .int .i64 (c.toNat : Int), .string S, .slice apL nL capL, .slice apZ nZ capZ, .slice apH nH capH, .int .i64 till] 56)
  have hbg := heap_alloc_new w (.cells #[.string K, .int .i64 (c.toNat : Int), .string S, .slice apL nL capL, .slice apZ nZ capZ, .slice apH nH capH, .int .i64 till] 56)
  have hsz : (w.alloc (.cells #[.string K, .int .i64 (c.toNat : Int), .string S, .slice apL nL capL, .slice apZ nZ capZ, .slice apH nH capH, .int .i64 till] 56)).heap.size = w.heap.size + 1 := World.size_alloc _ _
  have HW1 := Lib.hid (h.kept hba)
  have HBG := Lib.hid hbg
  have HBU := Lib.hid hba.uk
  have HLN := Lib.hid hl
  have HL := Lib.hid hL
  have HZ := Lib.hid hZ
  have HH := Lib.hid hH
  generalize hBV : bodyV ⟨(c.toNat : Int), s, L, Z, H⟩ = BV at *
  have HBV := Lib.hid hBV
  obtain ⟨G, hG⟩ : ∃ G, G = xs ++ ([c] ++ (leB 8 (wrapU till) ++ (textB key ++ BV))) := ⟨_, rfl⟩
  rw [← hG]
  have HG := Lib.hid hG
  clear hG
  have hba2 := Kept.allocd (w.alloc (.cells #[.string K, .int .i64 (c.toNat : Int), .string S, .slice apL nL capL, .slice apZ nZ capZ, .slice apH nH capH, .int .i64 till] 56)) (.cells #[.int .u8 (c.toNat : Int)] 5)
  have hbg2 := heap_alloc_new (w.alloc (.cells #[.string K, .int .i64 (c.toNat : Int), .string S, .slice apL nL capL, .slice apZ nZ capZ, .slice apH nH capH, .int .i64 till] 56)) (.cells #[.int .u8 (c.toNat : Int)] 5)
  rw [hsz] at hbg2
  have hbr : BytesV ((w.alloc (.cells #[.string K, .int .i64 (c.toNat : Int), .string S, .slice apL nL capL, .slice apZ nZ capZ, .slice apH nH capH, .int .i64 till] 56)).alloc (.cells #[.int .u8 (c.toNat : Int)] 5)) (.slice (some ⟨w.heap.size + 1, 0, none⟩) 1 1) [c] := by
    refine RowV.mk ⟨rfl, fun _ => ⟨_, rfl, fun j v hj => ?_⟩⟩ (Nat.le_refl _) (fun h => by cases h)
    rw [addr_add, Nat.zero_add]
    exact cellB hbg2 (by simpa [bv] using hj)
  have HBR := Lib.hid hbr
  have HW2 := Lib.hid ((h.kept hba).kept hba2)
  have HBG2 := Lib.hid (hba2.heap hbg (fun h => h))
  have HBU2 := Lib.hid (hba.uk.trans hba2.uk)
  clear hl hL hZ hH hB hBl hba hbg h hsz hcc hBV hK hS hnL hnZ hnH hba2 hbg2 hbr
  go_enter Tryd.func55, Tryd.ntmps55
  go_wp2_with (at_builtin; refine wpList_appL rfl _ _ (by rfl) W0.heap.size _ xs (by rfl) HW2.out.2 _ _ (by rfl) HBR.out (by have := HLN.out; simp only [List.length_cons, List.length_nil]; omega) HW2.out.1.size ?_; intro v2 w2 ho2 hg2; refine Hid.out ?_)
  obtain ⟨x2, hx2⟩ : ∃ x, x = xs ++ [c] := ⟨_, rfl⟩
  rw [← hx2] at ho2
  have hx2l : Hid (x2.length = xs.length + 1) := Lib.hid (by rw [hx2, List.length_append, List.length_singleton])
  have HX2 := Lib.hid hx2
  clear hx2
  have HR2 := Lib.hid (HW2.out.grown hg2 ho2)
  have hu2 := HW2.out.uk hg2
  have HU2 := Lib.hid (HBU2.out.trans hu2)
  have HBX2 := Lib.hid (hu2.heap HBG2.out (by decide))
  generalize w.heap.size = g at *
  obtain ⟨ap2, cap2, rfl, _⟩ := ho2.bytes.parts
  clear ho2 hg2 hu2 HW1 HBG HBU HBR HW2 HBG2 HBU2
  obtain ⟨a0, a1, a2, a3, a4, a5, a6⟩ := blk7 HBX2.out
  have hwu := wrap_u64 till
  refine Lib.hid ?_
  go_wp2_with fail
  have hnu := rnumber W0 w2 _ _ (wrapU till) 8 HR2.out (by have := wrapU_lt till; omega) (by decide) (by have := HLN.out; have := hx2l.out; omega)
  rw [show (((8 : Nat) : Int)) = 8 from rfl] at hnu
  (with_reducible refine hnu.mono ?_)
  rintro e w3 ⟨v3, rfl, hr3, hu3⟩
  obtain ⟨x3, hx3⟩ : ∃ x, x = x2 ++ leB 8 (wrapU till) := ⟨_, rfl⟩
  rw [← hx3] at hr3
  have hx3l : Hid (x3.length = xs.length + 9) := Lib.hid (by rw [hx3, List.length_append, leB_len, hx2l.out])
  have HX3 := Lib.hid hx3
  clear hx3
  have HBX3 := Lib.hid (hu3.heap HBX2.out (by decide))
  have HR3 := Lib.hid hr3
  have HU3 := Lib.hid (HU2.out.trans hu3)
  obtain ⟨ap3, cap3, rfl, _⟩ := hr3.2.bytes.parts
  clear hnu hr3 hu3 hwu a0 a1 a2 a3 a4 a5 a6
  obtain ⟨a0, a1, a2, a3, a4, a5, a6⟩ := blk7 HBX3.out
  go_wp2_with fail
  (with_reducible refine (rtextS HKY.out HR3.out (by have := HLN.out; have := hx3l.out; omega)).mono ?_)
  rintro e w4 ⟨v4, rfl, hr4, hu4⟩
  have HBX4 := Lib.hid (hu4.heap HBX3.out (by decide))
  have HU4 := Lib.hid (HU3.out.trans hu4)
  have HX4 : ∃ x4, x4 = x3 ++ textB key := ⟨_, rfl⟩
  obtain ⟨x4, hx4⟩ := HX4
  rw [← hx4] at hr4
  have HR4 := Lib.hid hr4
  obtain ⟨ap4, cap4, rfl, _⟩ := hr4.2.bytes.parts
  have hx4l : Hid (x4.length = xs.length + (1 + (8 + (4 + key.length)))) := Lib.hid (by rw [hx4]; simp only [List.length_append, leB_len, textB]; have := hx3l.out; omega)
  have hxe : G = x4 ++ BV := by rw [HG.out, hx4, HX3.out, HX2.out]; simp only [List.append_assoc]
  have HXE := Lib.hid hxe
  have HBB : Hid (x4.length + BV.length ≤ 700000000) := Lib.hid (by have := HLN.out; have := hx4l.out; omega)
  clear hx4 hx4l HX3 HX2 hx3l hx2l hr4 hxe hu4 HR2 HR3 HU2 HU3 HBX2 HBX3 HLN a0 a1 a2 a3 a4 a5 a6
  obtain ⟨a0, a1, a2, a3, a4, a5, a6⟩ := blk7 HBX4.out
  have hkk : (c.toNat : Int) = 1 ∨ (c.toNat : Int) = 2 ∨ (c.toNat : Int) = 3 ∨ (c.toNat : Int) = 4 ∨ (c.toNat : Int) = 5 := by omega
  have hbv := HBV.out
  unfold bodyV at hbv
  simp only at hbv
  rcases hkk with hkk | hkk | hkk | hkk | hkk
  · rw [hkk] at a1 hbv
    simp only [show ¬ ((1 : Int) = 4) by decide, show ¬ ((1 : Int) = 5) by decide, if_false, if_true] at hbv
    go_wp2_with fail
    have h1 := HBB.out
    rw [← hbv] at h1
    (with_reducible refine (rtextS HST.out HR4.out (by simp only [textB, List.length_append, leB_len] at h1; omega)).mono ?_)
    rintro e w5 ⟨v5, rfl, hr5, hu5⟩
    clear a0 a1 a2 a3 a4 a5 a6
    go_wp2_with fail
    go_ret
    refine ⟨_, rfl, ?_, HU4.out.trans hu5⟩
    rw [HXE.out, ← hbv]
    exact hr5
  · rw [hkk] at a1 hbv
    simp only [show ¬ ((2 : Int) = 1) by decide, show ¬ ((2 : Int) = 4) by decide, show ¬ ((2 : Int) = 5) by decide, if_false, if_true] at hbv
    have HBVE := Lib.hid hbv
    have HM1 : Hid (nL ≤ 700000000) := Lib.hid (by
      have h1 := HBB.out
      rw [← hbv, List.length_append] at h1
      have h2 := flat_many textB (xs := L) (fun x => by simp only [textB, List.length_append, leB_len]; omega)
      have := HNL.out
      omega)
    have hnb := HM1.out
    clear hbv HBV
    have hwn : IntKind.u64.wrap (nL : Int) = (nL : Int) := u64_wrap_id _ (by omega) (by have := HM1.out; omega)
    go_wp2_with fail
    have hnu := rnumber W0 w4 _ _ nL 4 HR4.out (by have := HM1.out; omega) (by decide) (by have := HBB.out; omega)
    rw [show (((4 : Nat) : Int)) = 4 from rfl] at hnu
    (with_reducible refine hnu.mono ?_)
    rintro e w5 ⟨v5, rfl, hr5, hu5⟩
    obtain ⟨x5, hx5⟩ : ∃ x, x = x4 ++ leB 4 nL := ⟨_, rfl⟩
    rw [← hx5] at hr5
    have HX5 := Lib.hid hx5
    clear hx5
    have HBX5 := Lib.hid (hu5.heap HBX4.out (by decide))
    have HR5 := Lib.hid hr5
    have HU5 := Lib.hid (HU4.out.trans hu5)
    have HU5W := Lib.hid hu5
    obtain ⟨ap5, cap5, rfl, _⟩ := hr5.2.bytes.parts
    clear hnu hr5 hu5 hwn a0 a1 a2 a3 a4 a5 a6
    go_wp2_with fail
    go_loopw [0, 7] (fun v0 vi wr => ∃ i : Nat, vi = .int .i64 i ∧ i ≤ nL ∧ Rw W0 wr v0 (x5 ++ (L.take i).flatMap textB) ∧ UK w4 wr) (fun _ vi _ => nL - (intOf vi).toNat)
    case atStart => exact ⟨0, rfl, Nat.zero_le _, by simpa using HR5.out, HU5W.out⟩
    case round =>
      obtain ⟨i, rfl, hi, hrw, huk⟩ := hrel
      obtain ⟨apr, capr, rfl, _⟩ := hrw.2.bytes.parts
      obtain ⟨xr, hxr⟩ : ∃ x, x = x5 ++ (L.take i).flatMap textB := ⟨_, rfl⟩
      rw [← hxr] at hrw ⊢
      have HXR := Lib.hid hxr
      have hxrl : Hid (xr.length = x4.length + 4 + ((L.take i).flatMap textB).length) := Lib.hid (by rw [hxr, HX5.out, List.length_append, List.length_append, leB_len])
      have HRW := Lib.hid hrw
      have HUW := Lib.hid huk
      clear hxr
      have HBXW := Lib.hid (huk.heap HBX4.out (by decide))
      have HKW := Lib.hid hrw.1
      clear hrw huk
      obtain ⟨a0, a1, a2, a3, a4, a5, a6⟩ := blk7 HBXW.out
      by_cases hlt : i < nL
      · have hil : i < L.length := by have := HNL.out; omega
        obtain ⟨z, hz⟩ : ∃ z, L[i]? = some z := ⟨L[i], List.getElem?_eq_getElem hil⟩
        obtain ⟨hfa, hfs⟩ := flat_take textB hz
        have hfl : x4.length + 4 + ((L.take i).flatMap textB).length + (textB z).length ≤ 700000000 := by
          have h1 := HBB.out
          rw [← HBVE.out, List.length_append, leB_len, hfa, List.length_append, List.length_append] at h1
          try simp only [List.length_append] at h1 ⊢
          omega
        have HFS := Lib.hid hfs
        rw [← hxrl.out] at hfl
        have HFL := Lib.hid hfl
        clear hfa hfs hfl hxrl
        obtain ⟨ad, rfl, b0⟩ := RowV.cell (HL.out.keptNo HKW.out) (row_map hz)
        obtain ⟨T, hT⟩ : ∃ S : ByteArray, S = ⟨z.toArray⟩ := ⟨_, rfl⟩
        unfold strV at b0
        rw [← hT] at b0
        have HT := Lib.hid hT
        clear hT hz hil
        go_wp2_with fail
        (with_reducible refine (rtextS HT.out HRW.out (by have := HFL.out; simp only [textB, List.length_append, leB_len] at this; omega)).mono ?_)
        rintro e w6 ⟨v6, rfl, hr6, hu6⟩
        have HE : Hid (Rw W0 w6 v6 (x5 ++ (L.take (i + 1)).flatMap textB) ∧ UK w4 w6) := Lib.hid ⟨by rw [HFS.out, ← List.append_assoc, ← HXR.out]; exact hr6, HUW.out.trans hu6⟩
        clear hr6 hu6 a0 a1 a2 a3 a4 a5 a6 b0
        go_wp2_with fail
        go_roundw
        case rel => exact ⟨i + 1, by go_num, by omega, HE.out.1, HE.out.2⟩
        case measure => simp [intOf]; omega
      · obtain rfl : i = nL := by omega
        go_wp2_with fail
        go_ret
        refine ⟨_, rfl, ?_, HU4.out.trans HUW.out⟩
        rw [HXE.out, ← HBVE.out, ← List.append_assoc, ← HNL.out, ← HX5.out]
        have hT : x5 ++ L.flatMap textB = xr := by rw [HXR.out, List.take_of_length_le (by have := HNL.out; omega)]
        rw [hT]
        exact HRW.out
  · rw [hkk] at a1 hbv
    simp only [show ¬ ((3 : Int) = 1) by decide, show ¬ ((3 : Int) = 4) by decide, show ¬ ((3 : Int) = 5) by decide, if_false, if_true] at hbv
    have HBVE := Lib.hid hbv
    have HM1 : Hid (nL ≤ 700000000) := Lib.hid (by
      have h1 := HBB.out
      rw [← hbv, List.length_append] at h1
      have h2 := flat_many textB (xs := L) (fun x => by simp only [textB, List.length_append, leB_len]; omega)
      have := HNL.out
      omega)
    have hnb := HM1.out
    clear hbv HBV
    have hwn : IntKind.u64.wrap (nL : Int) = (nL : Int) := u64_wrap_id _ (by omega) (by have := HM1.out; omega)
    go_wp2_with fail
    have hnu := rnumber W0 w4 _ _ nL 4 HR4.out (by have := HM1.out; omega) (by decide) (by have := HBB.out; omega)
    rw [show (((4 : Nat) : Int)) = 4 from rfl] at hnu
    (with_reducible refine hnu.mono ?_)
    rintro e w5 ⟨v5, rfl, hr5, hu5⟩
    obtain ⟨x5, hx5⟩ : ∃ x, x = x4 ++ leB 4 nL := ⟨_, rfl⟩
    rw [← hx5] at hr5
    have HX5 := Lib.hid hx5
    clear hx5
    have HBX5 := Lib.hid (hu5.heap HBX4.out (by decide))
    have HR5 := Lib.hid hr5
    have HU5 := Lib.hid (HU4.out.trans hu5)
    have HU5W := Lib.hid hu5
    obtain ⟨ap5, cap5, rfl, _⟩ := hr5.2.bytes.parts
    clear hnu hr5 hu5 hwn a0 a1 a2 a3 a4 a5 a6
    go_wp2_with fail
    go_loopw [0, 7] (fun v0 vi wr => ∃ i : Nat, vi = .int .i64 i ∧ i ≤ nL ∧ Rw W0 wr v0 (x5 ++ (L.take i).flatMap textB) ∧ UK w4 wr) (fun _ vi _ => nL - (intOf vi).toNat)
    case atStart => exact ⟨0, rfl, Nat.zero_le _, by simpa using HR5.out, HU5W.out⟩
    case round =>
      obtain ⟨i, rfl, hi, hrw, huk⟩ := hrel
      obtain ⟨apr, capr, rfl, _⟩ := hrw.2.bytes.parts
      obtain ⟨xr, hxr⟩ : ∃ x, x = x5 ++ (L.take i).flatMap textB := ⟨_, rfl⟩
      rw [← hxr] at hrw ⊢
      have HXR := Lib.hid hxr
      have hxrl : Hid (xr.length = x4.length + 4 + ((L.take i).flatMap textB).length) := Lib.hid (by rw [hxr, HX5.out, List.length_append, List.length_append, leB_len])
      have HRW := Lib.hid hrw
      have HUW := Lib.hid huk
      clear hxr
      have HBXW := Lib.hid (huk.heap HBX4.out (by decide))
      have HKW := Lib.hid hrw.1
      clear hrw huk
      obtain ⟨a0, a1, a2, a3, a4, a5, a6⟩ := blk7 HBXW.out
      by_cases hlt : i < nL
      · have hil : i < L.length := by have := HNL.out; omega
        obtain ⟨z, hz⟩ : ∃ z, L[i]? = some z := ⟨L[i], List.getElem?_eq_getElem hil⟩
        obtain ⟨hfa, hfs⟩ := flat_take textB hz
        have hfl : x4.length + 4 + ((L.take i).flatMap textB).length + (textB z).length ≤ 700000000 := by
          have h1 := HBB.out
          rw [← HBVE.out, List.length_append, leB_len, hfa, List.length_append, List.length_append] at h1
          try simp only [List.length_append] at h1 ⊢
          omega
        have HFS := Lib.hid hfs
        rw [← hxrl.out] at hfl
        have HFL := Lib.hid hfl
        clear hfa hfs hfl hxrl
        obtain ⟨ad, rfl, b0⟩ := RowV.cell (HL.out.keptNo HKW.out) (row_map hz)
        obtain ⟨T, hT⟩ : ∃ S : ByteArray, S = ⟨z.toArray⟩ := ⟨_, rfl⟩
        unfold strV at b0
        rw [← hT] at b0
        have HT := Lib.hid hT
        clear hT hz hil
        go_wp2_with fail
        (with_reducible refine (rtextS HT.out HRW.out (by have := HFL.out; simp only [textB, List.length_append, leB_len] at this; omega)).mono ?_)
        rintro e w6 ⟨v6, rfl, hr6, hu6⟩
        have HE : Hid (Rw W0 w6 v6 (x5 ++ (L.take (i + 1)).flatMap textB) ∧ UK w4 w6) := Lib.hid ⟨by rw [HFS.out, ← List.append_assoc, ← HXR.out]; exact hr6, HUW.out.trans hu6⟩
        clear hr6 hu6 a0 a1 a2 a3 a4 a5 a6 b0
        go_wp2_with fail
        go_roundw
        case rel => exact ⟨i + 1, by go_num, by omega, HE.out.1, HE.out.2⟩
        case measure => simp [intOf]; omega
      · obtain rfl : i = nL := by omega
        go_wp2_with fail
        go_ret
        refine ⟨_, rfl, ?_, HU4.out.trans HUW.out⟩
        rw [HXE.out, ← HBVE.out, ← List.append_assoc, ← HNL.out, ← HX5.out]
        have hT : x5 ++ L.flatMap textB = xr := by rw [HXR.out, List.take_of_length_le (by have := HNL.out; omega)]
        rw [hT]
        exact HRW.out
  · rw [hkk] at a1 hbv
    simp only [show ¬ ((4 : Int) = 1) by decide, if_false, if_true] at hbv
    have HBVE := Lib.hid hbv
    have HM1 : Hid (nZ ≤ 700000000) := Lib.hid (by
      have h1 := HBB.out
      rw [← hbv, List.length_append] at h1
      have h2 := flat_many (fun z : Bs × Int => textB z.1 ++ leB 8 (wrapU z.2)) (xs := Z) (fun x => by simp only [textB, List.length_append, leB_len]; omega)
      have := HNZ.out
      omega)
    have hnb := HM1.out
    clear hbv HBV
    have hwn : IntKind.u64.wrap (nZ : Int) = (nZ : Int) := u64_wrap_id _ (by omega) (by have := HM1.out; omega)
    go_wp2_with fail
    have hnu := rnumber W0 w4 _ _ nZ 4 HR4.out (by have := HM1.out; omega) (by decide) (by have := HBB.out; omega)
    rw [show (((4 : Nat) : Int)) = 4 from rfl] at hnu
    (with_reducible refine hnu.mono ?_)
    rintro e w5 ⟨v5, rfl, hr5, hu5⟩
    obtain ⟨x5, hx5⟩ : ∃ x, x = x4 ++ leB 4 nZ := ⟨_, rfl⟩
    rw [← hx5] at hr5
    have HX5 := Lib.hid hx5
    clear hx5
    have HBX5 := Lib.hid (hu5.heap HBX4.out (by decide))
    have HR5 := Lib.hid hr5
    have HU5 := Lib.hid (HU4.out.trans hu5)
    have HU5W := Lib.hid hu5
    obtain ⟨ap5, cap5, rfl, _⟩ := hr5.2.bytes.parts
    clear hnu hr5 hu5 hwn a0 a1 a2 a3 a4 a5 a6
    go_wp2_with fail
    go_loopw [0, 5] (fun v0 vi wr => ∃ i : Nat, vi = .int .i64 i ∧ i ≤ nZ ∧ Rw W0 wr v0 (x5 ++ (Z.take i).flatMap (fun z : Bs × Int => textB z.1 ++ leB 8 (wrapU z.2))) ∧ UK w4 wr) (fun _ vi _ => nZ - (intOf vi).toNat)
    case atStart => exact ⟨0, rfl, Nat.zero_le _, by simpa using HR5.out, HU5W.out⟩
    case round =>
      obtain ⟨i, rfl, hi, hrw, huk⟩ := hrel
      obtain ⟨apr, capr, rfl, _⟩ := hrw.2.bytes.parts
      obtain ⟨xr, hxr⟩ : ∃ x, x = x5 ++ (Z.take i).flatMap (fun z : Bs × Int => textB z.1 ++ leB 8 (wrapU z.2)) := ⟨_, rfl⟩
      rw [← hxr] at hrw ⊢
      have HXR := Lib.hid hxr
      have hxrl : Hid (xr.length = x4.length + 4 + ((Z.take i).flatMap (fun z : Bs × Int => textB z.1 ++ leB 8 (wrapU z.2))).length) := Lib.hid (by rw [hxr, HX5.out, List.length_append, List.length_append, leB_len])
      have HRW := Lib.hid hrw
      have HUW := Lib.hid huk
      clear hxr
      have HBXW := Lib.hid (huk.heap HBX4.out (by decide))
      have HKW := Lib.hid hrw.1
      clear hrw huk
      obtain ⟨a0, a1, a2, a3, a4, a5, a6⟩ := blk7 HBXW.out
      by_cases hlt : i < nZ
      · have hil : i < Z.length := by have := HNZ.out; omega
        obtain ⟨z, hz⟩ : ∃ z, Z[i]? = some z := ⟨Z[i], List.getElem?_eq_getElem hil⟩
        obtain ⟨hfa, hfs⟩ := flat_take (fun z : Bs × Int => textB z.1 ++ leB 8 (wrapU z.2)) hz
        have hfl : x4.length + 4 + ((Z.take i).flatMap (fun z : Bs × Int => textB z.1 ++ leB 8 (wrapU z.2))).length + ((fun z : Bs × Int => textB z.1 ++ leB 8 (wrapU z.2)) z).length ≤ 700000000 := by
          have h1 := HBB.out
          rw [← HBVE.out, List.length_append, leB_len, hfa, List.length_append, List.length_append] at h1
          try simp only [List.length_append] at h1 ⊢
          omega
        have HFS := Lib.hid hfs
        rw [← hxrl.out] at hfl
        have HFL := Lib.hid hfl
        clear hfa hfs hfl hxrl
        have HZI := Lib.hid hz
        obtain ⟨ad, rfl, b0, b1⟩ := agg_two (fun _ => rfl) (HZ.out.kept HKW.out) hz rfl
        obtain ⟨z1, z2⟩ := z
        obtain ⟨T, hT⟩ : ∃ S : ByteArray, S = ⟨z1.toArray⟩ := ⟨_, rfl⟩
        unfold strV at b0
        simp only at b0 b1
        rw [← hT] at b0
        have HT := Lib.hid hT
        clear hT hz hil
        have hwu := wrap_u64 z2
        go_wp2_with fail
        refine wp_tree (fun W => W.cell? ⟨g, 4, none⟩ = some (.slice (some ad) nZ capZ) ∧ W.cell? (ad.add (i * 2)) = some (.string T) ∧ W.cell? ⟨(ad.add (i * 2)).block, (ad.add (i * 2)).off + 1, none⟩ = some (.int .i64 z2)) 17 (.flt 0 (.flt 1 (.flt 2 (.flt 3 (.flt 4 (.flt 5 (.flt 6 (.flt 7 (.flt 9 (.flt 10 (.flt 11 (.flt 12 (.flt 13 (.flt 14 (.flt 15 (.flt 16 (.seg 8 (.seg 17 (.fin [18]))))))))))))))))))) (by kernel_rfl) (by kernel_rfl) (fun _ _ _ dst _ h => by cases dst <;> exact h) (fun _ _ h => h) ⟨a4, b0, b1⟩ (fun n0 => ?_)
        repeat (refine tree_flt rfl rfl ?_; apply Exists.intro; refine ⟨fun w' hw' => ?_, ?_⟩; (obtain ⟨u0, u1, u2⟩ := hw'; go_simp; first | rfl | exact ⟨rfl, rfl⟩); simp only [Act.put, List.setIfInBounds_toArray, List.set_cons_succ, List.set_cons_zero])
        refine tree_seg rfl ?_
        go_wp2_with fail
        have hkd := (Kept.refl NoBlock wr).drewN n0
        (with_reducible refine (rtextS HT.out (HRW.out.kept hkd) (by have := HFL.out; simp only [textB, List.length_append, leB_len] at this; omega)).mono ?_)
        rintro e w6 ⟨v6, rfl, hr6, hu6⟩
        obtain ⟨x6, hx6⟩ : ∃ x, x = xr ++ textB z1 := ⟨_, rfl⟩
        rw [← hx6] at hr6
        have hx6l : Hid (x6.length = xr.length + (4 + z1.length)) := Lib.hid (by rw [hx6]; simp only [List.length_append, leB_len, textB])
        have HX6 := Lib.hid hx6
        clear hx6
        obtain ⟨ap6, cap6, rfl, _⟩ := hr6.2.bytes.parts
        have HU6 := Lib.hid (HUW.out.trans (hkd.uk.trans hu6))
        have HR6 := Lib.hid hr6
        have HBX6 := Lib.hid (HU6.out.heap HBX4.out (by decide))
        obtain ⟨d0, d1, d2, d3, d4, d5, d6⟩ := blk7 HBX6.out
        obtain ⟨adx, hadx, e0, e1⟩ := agg_two (fun _ => rfl) (HZ.out.kept HR6.out.1) HZI.out rfl
        obtain rfl := Option.some.inj hadx
        unfold strV at e0
        simp only at e0 e1
        rw [← HT.out] at e0
        clear hr6 hu6 hkd a0 a1 a2 a3 a4 a5 a6 b0 b1
        go_wp2_with fail
        refine Halt.mk ⟨.inr ⟨d4, e0, e1⟩, ?_⟩
        clear d0 d1 d2 d3 d4 d5 d6 e0 e1
        refine tree_seg rfl ?_
        go_wp2_with fail
        have hnu := rnumber W0 w6 _ _ (wrapU z2) 8 HR6.out (by have := wrapU_lt z2; omega) (by decide) (by have := HFL.out; simp only [textB, List.length_append, leB_len] at this; have := hx6l.out; omega)
        rw [show (((8 : Nat) : Int)) = 8 from rfl] at hnu
        (with_reducible refine hnu.mono ?_)
        rintro e w7 ⟨v7, rfl, hr7, hu7⟩
        have HE : Hid (Rw W0 w7 v7 (x5 ++ (Z.take (i + 1)).flatMap (fun z : Bs × Int => textB z.1 ++ leB 8 (wrapU z.2))) ∧ UK w4 w7) := Lib.hid ⟨by rw [HFS.out, ← List.append_assoc, ← HXR.out]; rw [HX6.out, List.append_assoc] at hr7; exact hr7, HU6.out.trans hu7⟩
        clear hr7 hu7 hnu
        go_wp2_with fail
        refine Halt.mk ⟨.inl trivial, ?_⟩
        refine tree_fin ?_
        simp only [pick, List.filterMap_cons, List.filterMap_nil, List.getElem?_cons_succ, List.getElem?_cons_zero]
        repeat (quiet_step (fail))
        refine wpQuiet_nil ?_
        rintro _ ⟨n9, rfl⟩
        go_wp2_with fail
        go_roundw
        case rel => exact ⟨i + 1, by go_num, by omega, HE.out.1.kept ((Kept.refl NoBlock w7).drewN n9), HE.out.2.trans ((Kept.refl NoBlock w7).drewN n9).uk⟩
        case measure => simp [intOf]; omega
      · obtain rfl : i = nZ := by omega
        go_wp2_with fail
        go_ret
        refine ⟨_, rfl, ?_, HU4.out.trans HUW.out⟩
        rw [HXE.out, ← HBVE.out, ← List.append_assoc, ← HNZ.out, ← HX5.out]
        have hT : x5 ++ Z.flatMap (fun z : Bs × Int => textB z.1 ++ leB 8 (wrapU z.2)) = xr := by rw [HXR.out, List.take_of_length_le (by have := HNZ.out; omega)]
        rw [hT]
        exact HRW.out
  · rw [hkk] at a1 hbv
    simp only [show ¬ ((5 : Int) = 1) by decide, show ¬ ((5 : Int) = 4) by decide, if_false, if_true] at hbv
    have HBVE := Lib.hid hbv
    have HM1 : Hid (nH ≤ 700000000) := Lib.hid (by
      have h1 := HBB.out
      rw [← hbv, List.length_append] at h1
      have h2 := flat_many (fun f : Bs × Bs => textB f.1 ++ textB f.2) (xs := H) (fun x => by simp only [textB, List.length_append, leB_len]; omega)
      have := HNH.out
      omega)
    have hnb := HM1.out
    clear hbv HBV
    have hwn : IntKind.u64.wrap (nH : Int) = (nH : Int) := u64_wrap_id _ (by omega) (by have := HM1.out; omega)
    go_wp2_with fail
    have hnu := rnumber W0 w4 _ _ nH 4 HR4.out (by have := HM1.out; omega) (by decide) (by have := HBB.out; omega)
    rw [show (((4 : Nat) : Int)) = 4 from rfl] at hnu
    (with_reducible refine hnu.mono ?_)
    rintro e w5 ⟨v5, rfl, hr5, hu5⟩
    obtain ⟨x5, hx5⟩ : ∃ x, x = x4 ++ leB 4 nH := ⟨_, rfl⟩
    rw [← hx5] at hr5
    have HX5 := Lib.hid hx5
    clear hx5
    have HBX5 := Lib.hid (hu5.heap HBX4.out (by decide))
    have HR5 := Lib.hid hr5
    have HU5 := Lib.hid (HU4.out.trans hu5)
    have HU5W := Lib.hid hu5
    obtain ⟨ap5, cap5, rfl, _⟩ := hr5.2.bytes.parts
    clear hnu hr5 hu5 hwn a0 a1 a2 a3 a4 a5 a6
    go_wp2_with fail
    go_loopw [0, 6] (fun v0 vi wr => ∃ i : Nat, vi = .int .i64 i ∧ i ≤ nH ∧ Rw W0 wr v0 (x5 ++ (H.take i).flatMap (fun f : Bs × Bs => textB f.1 ++ textB f.2)) ∧ UK w4 wr) (fun _ vi _ => nH - (intOf vi).toNat)
    case atStart => exact ⟨0, rfl, Nat.zero_le _, by simpa using HR5.out, HU5W.out⟩
    case round =>
      obtain ⟨i, rfl, hi, hrw, huk⟩ := hrel
      obtain ⟨apr, capr, rfl, _⟩ := hrw.2.bytes.parts
      obtain ⟨xr, hxr⟩ : ∃ x, x = x5 ++ (H.take i).flatMap (fun f : Bs × Bs => textB f.1 ++ textB f.2) := ⟨_, rfl⟩
      rw [← hxr] at hrw ⊢
      have HXR := Lib.hid hxr
      have hxrl : Hid (xr.length = x4.length + 4 + ((H.take i).flatMap (fun f : Bs × Bs => textB f.1 ++ textB f.2)).length) := Lib.hid (by rw [hxr, HX5.out, List.length_append, List.length_append, leB_len])
      have HRW := Lib.hid hrw
      have HUW := Lib.hid huk
      clear hxr
      have HBXW := Lib.hid (huk.heap HBX4.out (by decide))
      have HKW := Lib.hid hrw.1
      clear hrw huk
      obtain ⟨a0, a1, a2, a3, a4, a5, a6⟩ := blk7 HBXW.out
      by_cases hlt : i < nH
      · have hil : i < H.length := by have := HNH.out; omega
        obtain ⟨z, hz⟩ : ∃ z, H[i]? = some z := ⟨H[i], List.getElem?_eq_getElem hil⟩
        obtain ⟨hfa, hfs⟩ := flat_take (fun f : Bs × Bs => textB f.1 ++ textB f.2) hz
        have hfl : x4.length + 4 + ((H.take i).flatMap (fun f : Bs × Bs => textB f.1 ++ textB f.2)).length + ((fun f : Bs × Bs => textB f.1 ++ textB f.2) z).length ≤ 700000000 := by
          have h1 := HBB.out
          rw [← HBVE.out, List.length_append, leB_len, hfa, List.length_append, List.length_append] at h1
          try simp only [List.length_append] at h1 ⊢
          omega
        have HFS := Lib.hid hfs
        rw [← hxrl.out] at hfl
        have HFL := Lib.hid hfl
        clear hfa hfs hfl hxrl
        have HZI := Lib.hid hz
        obtain ⟨ad, rfl, b0, b1⟩ := agg_two (fun _ => rfl) (HH.out.kept HKW.out) hz rfl
        obtain ⟨z1, z2⟩ := z
        obtain ⟨T, hT⟩ : ∃ S : ByteArray, S = ⟨z1.toArray⟩ := ⟨_, rfl⟩
        obtain ⟨T2, hT2⟩ : ∃ S : ByteArray, S = ⟨z2.toArray⟩ := ⟨_, rfl⟩
        unfold strV at b0 b1
        simp only at b0 b1
        rw [← hT] at b0
        rw [← hT2] at b1
        have HT2 := Lib.hid hT2
        clear hT2
        have HT := Lib.hid hT
        clear hT hz hil
        go_wp2_with fail
        refine wp_tree (fun W => W.cell? ⟨g, 5, none⟩ = some (.slice (some ad) nH capH) ∧ W.cell? (ad.add (i * 2)) = some (.string T) ∧ W.cell? ⟨(ad.add (i * 2)).block, (ad.add (i * 2)).off + 1, none⟩ = some (.string T2)) 16 (.flt 0 (.flt 1 (.flt 2 (.flt 3 (.flt 4 (.flt 5 (.flt 6 (.flt 7 (.flt 9 (.flt 10 (.flt 11 (.flt 12 (.flt 13 (.flt 14 (.flt 15 (.seg 8 (.seg 16 (.fin [17])))))))))))))))))) (by kernel_rfl) (by kernel_rfl) (fun _ _ _ dst _ h => by cases dst <;> exact h) (fun _ _ h => h) ⟨a5, b0, b1⟩ (fun n0 => ?_)
        repeat (refine tree_flt rfl rfl ?_; apply Exists.intro; refine ⟨fun w' hw' => ?_, ?_⟩; (obtain ⟨u0, u1, u2⟩ := hw'; go_simp; first | rfl | exact ⟨rfl, rfl⟩); simp only [Act.put, List.setIfInBounds_toArray, List.set_cons_succ, List.set_cons_zero])
        refine tree_seg rfl ?_
        go_wp2_with fail
        have hkd := (Kept.refl NoBlock wr).drewN n0
        (with_reducible refine (rtextS HT.out (HRW.out.kept hkd) (by have := HFL.out; simp only [textB, List.length_append, leB_len] at this; omega)).mono ?_)
        rintro e w6 ⟨v6, rfl, hr6, hu6⟩
        obtain ⟨x6, hx6⟩ : ∃ x, x = xr ++ textB z1 := ⟨_, rfl⟩
        rw [← hx6] at hr6
        have hx6l : Hid (x6.length = xr.length + (4 + z1.length)) := Lib.hid (by rw [hx6]; simp only [List.length_append, leB_len, textB])
        have HX6 := Lib.hid hx6
        clear hx6
        obtain ⟨ap6, cap6, rfl, _⟩ := hr6.2.bytes.parts
        have HU6 := Lib.hid (HUW.out.trans (hkd.uk.trans hu6))
        have HR6 := Lib.hid hr6
        have HBX6 := Lib.hid (HU6.out.heap HBX4.out (by decide))
        obtain ⟨d0, d1, d2, d3, d4, d5, d6⟩ := blk7 HBX6.out
        obtain ⟨adx, hadx, e0, e1⟩ := agg_two (fun _ => rfl) (HH.out.kept HR6.out.1) HZI.out rfl
        obtain rfl := Option.some.inj hadx
        unfold strV at e0 e1
        simp only at e0 e1
        rw [← HT.out] at e0
        rw [← HT2.out] at e1
        clear hr6 hu6 hkd a0 a1 a2 a3 a4 a5 a6 b0 b1
        go_wp2_with fail
        refine Halt.mk ⟨.inr ⟨d5, e0, e1⟩, ?_⟩
        clear d0 d1 d2 d3 d4 d5 d6 e0 e1
        refine tree_seg rfl ?_
        go_wp2_with fail
        have hnu := rtextS HT2.out HR6.out (by have := HFL.out; simp only [textB, List.length_append, leB_len] at this; have := hx6l.out; omega)
        (with_reducible refine hnu.mono ?_)
        rintro e w7 ⟨v7, rfl, hr7, hu7⟩
        have HE : Hid (Rw W0 w7 v7 (x5 ++ (H.take (i + 1)).flatMap (fun f : Bs × Bs => textB f.1 ++ textB f.2)) ∧ UK w4 w7) := Lib.hid ⟨by rw [HFS.out, ← List.append_assoc, ← HXR.out]; rw [HX6.out, List.append_assoc] at hr7; exact hr7, HU6.out.trans hu7⟩
        clear hr7 hu7 hnu
        go_wp2_with fail
        refine Halt.mk ⟨.inl trivial, ?_⟩
        refine tree_fin ?_
        simp only [pick, List.filterMap_cons, List.filterMap_nil, List.getElem?_cons_succ, List.getElem?_cons_zero]
        repeat (quiet_step (fail))
        refine wpQuiet_nil ?_
        rintro _ ⟨n9, rfl⟩
        go_wp2_with fail
        go_roundw
        case rel => exact ⟨i + 1, by go_num, by omega, HE.out.1.kept ((Kept.refl NoBlock w7).drewN n9), HE.out.2.trans ((Kept.refl NoBlock w7).drewN n9).uk⟩
        case measure => simp [intOf]; omega
      · obtain rfl : i = nH := by omega
        go_wp2_with fail
        go_ret
        refine ⟨_, rfl, ?_, HU4.out.trans HUW.out⟩
        rw [HXE.out, ← HBVE.out, ← List.append_assoc, ← HNH.out, ← HX5.out]
        have hT : x5 ++ H.flatMap (fun f : Bs × Bs => textB f.1 ++ textB f.2) = xr := by rw [HXR.out, List.take_of_length_le (by have := HNH.out; omega)]
        rw [hT]
        exact HRW.out
end Go.Proofs.YtfhlhpknobkplaaDoor
namespace Go.Proofs.YtfhlhpknobkplaaDoor
open Go.RowKit
attribute [local go_sem] fold_part fold_some fold_some' partAt_zero

set_option maxRecDepth 100000 in
set_option maxHeartbeats 3200000 in
theorem rbytes (w : World) (id sec : Nat) (off fork : Int) (v : Value) (ms : List EntM) (h : EntsV w v ms) (hid : id < 18446744073709551616) (hkd : ∀ m ∈ ms, 1 ≤ m.e.v.kind ∧ m.e.v.kind ≤ 5) (hl : (writtenB id off (ms.map (·.e))).length ≤ 67108864) :
    Calls Tryd.prog 37 #[.agg #[.int .u64 id, .int .i64 off, .int .u64 sec, .int .i64 fork], v] w fun e w' => ∃ v', e = .returned v' ∧ OwnT w' w.heap.size v' (writtenB id off (ms.map (·.e)) ++ leB 4 (sumB (writtenB id off (ms.map (·.e))))) ∧ Kept NoBlock w w' := by
  obtain ⟨ap, cap, rfl, _⟩ := h.1.parts
  obtain ⟨X, hX⟩ : ∃ X, X = writtenB id off (ms.map (·.e)) := ⟨_, rfl⟩
  rw [← hX] at hl ⊢
  have hX2 := hX
  unfold writtenB frontB at hX2
  rw [List.length_map] at hX2
  obtain ⟨n, hn⟩ : ∃ n, n = ms.length := ⟨_, rfl⟩
  rw [← hn] at hX2
  have hnl : n ≤ 67108864 := by
    have h1 := flat_many entB (xs := ms.map (·.e)) (fun x => by unfold entB; simp)
    rw [List.length_map, ← hn] at h1
    rw [hX2, List.length_append] at hl
    omega
  have HX := Lib.hid hX2
  have HXL := Lib.hid hl
  have HE := Lib.hid h
  have HKD := Lib.hid hkd
  have HN := Lib.hid hn
  rw [← hn]
  have HK1 := Lib.hid (Kept.allocd w (.cells #[.int .u64 id, .int .i64 off, .int .u64 sec, .int .i64 fork] 32))
  have HG1 := Lib.hid (heap_alloc_new w (.cells #[.int .u64 id, .int .i64 off, .int .u64 sec, .int .i64 fork] 32))
  have HZ1 : (w.alloc (.cells #[.int .u64 id, .int .i64 off, .int .u64 sec, .int .i64 fork] 32)).heap.size = w.heap.size + 1 := World.size_alloc _ _
  have HWU := Lib.hid (wrap_u64 off)
  clear h hkd hl hX hX2 hn
  go_enter Tryd.func37, Tryd.ntmps37
  have hcv : (convert 22 22 (.slice (some ⟨w.heap.size + 1, 0, none⟩) 8 8)).run Tryd.prog ((w.alloc (.cells #[.int .u64 id, .int .i64 off, .int .u64 sec, .int .i64 fork] 32)).alloc (.cells #[.int .u8 77, .int .u8 73, .int .u8 76, .int .u8 76, .int .u8 80, .int .u8 79, .int .u8 78, .int .u8 68] 5)) = .ok (.slice (some ⟨w.heap.size + 1, 0, none⟩) 8 8) ((w.alloc (.cells #[.int .u64 id, .int .i64 off, .int .u64 sec, .int .i64 fork] 32)).alloc (.cells #[.int .u8 77, .int .u8 73, .int .u8 76, .int .u8 76, .int .u8 80, .int .u8 79, .int .u8 78, .int .u8 68] 5 (8, 9))) :=
    Joins.run_convert_bytes_const_at (w.alloc (.cells #[.int .u64 id, .int .i64 off, .int .u64 sec, .int .i64 fork] 32)) 22 5 #[.int .u8 77, .int .u8 73, .int .u8 76, .int .u8 76, .int .u8 80, .int .u8 79, .int .u8 78, .int .u8 68] 8 8 (w.heap.size + 1) (by simp) Tryd.underlying22 Tryd.underlying5
  have hf0 : OwnT ((w.alloc (.cells #[.int .u64 id, .int .i64 off, .int .u64 sec, .int .i64 fork] 32)).alloc (.cells #[.int .u8 77, .int .u8 73, .int .u8 76, .int .u8 76, .int .u8 80, .int .u8 79, .int .u8 78, .int .u8 68] 5 (8, 9))) (w.alloc (.cells #[.int .u64 id, .int .i64 off, .int .u64 sec, .int .i64 fork] 32)).heap.size (.slice (some ⟨(w.alloc (.cells #[.int .u64 id, .int .i64 off, .int .u64 sec, .int .i64 fork] 32)).heap.size, 0, none⟩) 8 8) [77, 73, 76, 76, 80, 79, 78, 68] := const_own (w.alloc (.cells #[.int .u64 id, .int .i64 off, .int .u64 sec, .int .i64 fork] 32)) 5 [.int .u8 77, .int .u8 73, .int .u8 76, .int .u8 76, .int .u8 80, .int .u8 79, .int .u8 78, .int .u8 68] (by decide)
  have ha0 := Kept.allocd (w.alloc (.cells #[.int .u64 id, .int .i64 off, .int .u64 sec, .int .i64 fork] 32)) (.cells #[.int .u8 77, .int .u8 73, .int .u8 76, .int .u8 76, .int .u8 80, .int .u8 79, .int .u8 78, .int .u8 68] 5 (8, 9))
  have hs0 : ((w.alloc (.cells #[.int .u64 id, .int .i64 off, .int .u64 sec, .int .i64 fork] 32)).alloc (.cells #[.int .u8 77, .int .u8 73, .int .u8 76, .int .u8 76, .int .u8 80, .int .u8 79, .int .u8 78, .int .u8 68] 5 (8, 9))).heap.size = w.heap.size + 2 := by rw [World.size_alloc, World.size_alloc]
  have ho0 : OwnT ((w.alloc (.cells #[.int .u64 id, .int .i64 off, .int .u64 sec, .int .i64 fork] 32)).alloc (.cells #[.int .u8 77, .int .u8 73, .int .u8 76, .int .u8 76, .int .u8 80, .int .u8 79, .int .u8 78, .int .u8 68] 5 (8, 9))) w.heap.size (.slice (some ⟨w.heap.size + 1, 0, none⟩) 8 8) [77, 73, 76, 76, 80, 79, 78, 68] := by
    rw [HZ1] at hf0
    exact OwnM.lower hf0 (by omega)
  have ha1 := Kept.allocd ((w.alloc (.cells #[.int .u64 id, .int .i64 off, .int .u64 sec, .int .i64 fork] 32)).alloc (.cells #[.int .u8 77, .int .u8 73, .int .u8 76, .int .u8 76, .int .u8 80, .int .u8 79, .int .u8 78, .int .u8 68] 5 (8, 9))) (.cells #[.int .u8 1] 5)
  have hb1 := bytes_fresh ((w.alloc (.cells #[.int .u64 id, .int .i64 off, .int .u64 sec, .int .i64 fork] 32)).alloc (.cells #[.int .u8 77, .int .u8 73, .int .u8 76, .int .u8 76, .int .u8 80, .int .u8 79, .int .u8 78, .int .u8 68] 5 (8, 9))) [1]
  rw [hs0] at hb1
  have HO1 := Lib.hid (ho0.kept ha1)
  have HB1 := Lib.hid hb1
  have HKA := Lib.hid ((HK1.out.trans ha0).trans ha1)
  have HGA := Lib.hid (ha1.heap (ha0.heap HG1.out (fun h => h)) (fun h => h))
  clear hf0 ha0 hs0 ho0 ha1 hb1 HZ1 HK1 HG1
  go_wp2_with (at_builtin; refine wpList_appL rfl _ _ (by rfl) w.heap.size _ [77, 73, 76, 76, 80, 79, 78, 68] (by rfl) HO1.out _ _ (by rfl) HB1.out (by decide) HKA.out.size ?_; intro v2 w2 ho2 hg2; refine Hid.out ?_)
  have hr1 : Rw w _ _ [77, 73, 76, 76, 80, 79, 78, 68] := ⟨HKA.out, HO1.out⟩
  have hr2 := hr1.grown hg2 ho2
  have hu2 := hr1.uk hg2
  have HG2 := Lib.hid (hu2.heap HGA.out (by decide))
  rw [show [77, 73, 76, 76, 80, 79, 78, 68] ++ [1] = signB from rfl] at hr2
  obtain ⟨ap2, cap2, hv2, _⟩ := hr2.2.bytes.parts
  rw [show List.length signB = 9 from rfl] at hv2
  subst hv2
  have HR2 := Lib.hid hr2
  clear hr1 hr2 ho2 hg2 hu2 HO1 HB1 HKA HGA
  refine Lib.hid ?_
  generalize hgg : w.heap.size = g at *
  obtain ⟨c0, c1, c2, c3⟩ := blk4 HG2.out
  have hwu := HWU.out
  go_wp2_with fail
  refine wp_tree (fun W => W.cell? ⟨g, 0, none⟩ = some (.int .u64 id) ∧ W.cell? ⟨g, 1, none⟩ = some (.int .i64 off)) 7 (.flt 0 (.flt 1 (.flt 2 (.flt 4 (.flt 5 (.flt 6 (.seg 3 (.seg 7 (.fin [8]))))))))) (by kernel_rfl) (by kernel_rfl) (fun _ _ _ dst _ h => by cases dst <;> exact h) (fun _ _ h => h) ⟨c0, c1⟩ (fun n0 => ?_)
  repeat (refine tree_flt rfl rfl ?_; apply Exists.intro; refine ⟨fun w' hw' => ?_, ?_⟩; (obtain ⟨u0, u1⟩ := hw'; go_simp; first | rfl | exact ⟨rfl, rfl⟩); simp only [Act.put, List.setIfInBounds_toArray, List.set_cons_succ, List.set_cons_zero])
  refine tree_seg rfl ?_
  go_wp2_with fail
  have hkd := (Kept.refl NoBlock w2).drewN n0
  have hnu := rnumber w _ _ _ id 8 (HR2.out.kept hkd) hid (by decide) (by decide)
  rw [show (((8 : Nat) : Int)) = 8 from rfl] at hnu
  (with_reducible refine hnu.mono ?_)
  rintro e w3 ⟨v3, rfl, hr3, hu3⟩
  obtain ⟨x3, hx3⟩ : ∃ x, x = signB ++ leB 8 id := ⟨_, rfl⟩
  rw [← hx3] at hr3
  have hx3l : Hid (x3.length = 17) := Lib.hid (by rw [hx3, List.length_append, leB_len]; rfl)
  obtain ⟨ap3, cap3, hv3, _⟩ := hr3.2.bytes.parts
  rw [hx3l.out] at hv3
  subst hv3
  have HX3 := Lib.hid hx3
  have HR3 := Lib.hid hr3
  have hg3 := hu3.heap (hkd.heap HG2.out (fun h => h)) (by decide)
  obtain ⟨d0, d1, _, _⟩ := blk4 hg3
  clear hx3 hr3 hu3 hkd hnu hwu c0 c1 c2 c3
  go_wp2_with fail
  refine Halt.mk ⟨.inr ⟨d0, d1⟩, ?_⟩
  clear d0 d1 hg3
  refine tree_seg rfl ?_
  go_wp2_with fail
  have hnu := rnumber w w3 _ _ (wrapU off) 8 HR3.out (by have := wrapU_lt off; omega) (by decide) (by rw [hx3l.out]; decide)
  rw [show (((8 : Nat) : Int)) = 8 from rfl] at hnu
  (with_reducible refine hnu.mono ?_)
  rintro e w4 ⟨v4, rfl, hr4, hu4⟩
  obtain ⟨x4, hx4⟩ : ∃ x, x = x3 ++ leB 8 (wrapU off) := ⟨_, rfl⟩
  rw [← hx4] at hr4
  have hx4l : Hid (x4.length = 25) := Lib.hid (by rw [hx4, List.length_append, leB_len, hx3l.out])
  obtain ⟨ap4, cap4, hv4, _⟩ := hr4.2.bytes.parts
  rw [hx4l.out] at hv4
  subst hv4
  have HX4 := Lib.hid hx4
  have HR4 := Lib.hid hr4
  clear hx4 hr4 hu4 hnu
  go_wp2_with fail
  refine Halt.mk ⟨.inl trivial, ?_⟩
  refine tree_fin ?_
  simp only [pick, List.filterMap_cons, List.filterMap_nil, List.getElem?_cons_succ, List.getElem?_cons_zero]
  repeat (quiet_step (fail))
  refine wpQuiet_nil ?_
  rintro _ ⟨n9, rfl⟩
  have HR5 := Lib.hid (HR4.out.kept ((Kept.refl NoBlock w4).drewN n9))
  generalize w4.drewN n9 = w5 at *
  have hwn : IntKind.u64.wrap (n : Int) = (n : Int) := u64_wrap_id _ (by omega) (by omega)
  go_wp2_with fail
  have hnu := rnumber w w5 _ _ n 4 HR5.out (by omega) (by decide) (by rw [hx4l.out]; decide)
  rw [show (((4 : Nat) : Int)) = 4 from rfl] at hnu
  (with_reducible refine hnu.mono ?_)
  rintro e w6 ⟨v6, rfl, hr6, hu6⟩
  obtain ⟨x6, hx6⟩ : ∃ x, x = x4 ++ leB 4 n := ⟨_, rfl⟩
  rw [← hx6] at hr6
  have HXX : Hid (X = x6 ++ (ms.map (·.e)).flatMap entB) := Lib.hid (by rw [HX.out, hx6, HX4.out, HX3.out])
  obtain ⟨ap6, cap6, rfl, _⟩ := hr6.2.bytes.parts
  have HR6 := Lib.hid hr6
  clear hx6 hr6 hu6 hnu hwn HX HX3 HX4 HR2 HR3 HR4 HR5
  go_wp2_with fail
  go_loopw [5, 6] (fun v5 vi wr => ∃ i : Nat, vi = .int .i64 i ∧ i ≤ n ∧ Rw w wr v5 (x6 ++ ((ms.map (·.e)).take i).flatMap entB)) (fun _ vi _ => n - (intOf vi).toNat)
  case atStart => exact ⟨0, rfl, Nat.zero_le _, by simpa using HR6.out⟩
  case round =>
    obtain ⟨i, rfl, hi, hrw⟩ := hrel
    obtain ⟨xr, hxr⟩ : ∃ x, x = x6 ++ ((ms.map (·.e)).take i).flatMap entB := ⟨_, rfl⟩
    rw [← hxr] at hrw
    obtain ⟨apr, capr, rfl, _⟩ := hrw.2.bytes.parts
    have HXR := Lib.hid hxr
    have HRW := Lib.hid hrw
    have hxrl : xr.length ≤ X.length := by
      rw [hxr, HXX.out, List.length_append, List.length_append]
      have h1 := List.take_append_drop i (ms.map (·.e))
      have h2 : ((ms.map (·.e)).flatMap entB).length = (((ms.map (·.e)).take i).flatMap entB).length + (((ms.map (·.e)).drop i).flatMap entB).length := by
        rw [← List.length_append, ← List.flatMap_append, h1]
      omega
    have HXRL := Lib.hid hxrl
    clear hxr hrw hxrl
    obtain ⟨lr, hlr⟩ : ∃ l, l = xr.length := ⟨_, rfl⟩
    rw [← hlr] at HRW ⊢
    have hll : lr ≤ 67108864 := by have h1 := HXRL.out; have h2 := HXL.out; omega
    have HLR := Lib.hid hlr
    clear hlr
    by_cases hlt : i < n
    · have hil : i < ms.length := by have := HN.out; omega
      obtain ⟨m, hm⟩ : ∃ a, ms[i]? = some a := ⟨ms[i], List.getElem?_eq_getElem hil⟩
      have hme : (ms.map (·.e))[i]? = some m.e := by rw [List.getElem?_map, hm]; rfl
      obtain ⟨hfa, hfs⟩ := flat_take entB hme
      have hfl : xr.length + (entB m.e).length ≤ 67108864 := by
        have h1 := HXL.out
        rw [HXX.out, List.length_append, hfa, List.length_append, List.length_append] at h1
        rw [HXR.out, List.length_append]
        omega
      obtain ⟨ad, rfl, a0, a1, a2, a3, a4, a5, a6⟩ := RowK.at7 (HE.out.1.kept HRW.out.1) hm
      have hmm := List.mem_of_getElem? hm
      have hen := rentryB w wr _ xr m HRW.out (HE.out.2 m hmm) (HKD.out m hmm) (by omega)
      unfold entA at hen
      have HEN := Lib.hid hen
      have HFS := Lib.hid hfs
      clear hm hme hfa hfs hfl hmm hen hil
      go_wp2_with fail
      clear a0 a1 a2 a3 a4 a5 a6
      (with_reducible refine HEN.out.mono ?_)
      rintro e w7 ⟨v7, rfl, hr7, _⟩
      have HE7 := Lib.hid (show Rw w w7 v7 (x6 ++ ((ms.map (·.e)).take (i + 1)).flatMap entB) from by rw [HFS.out, ← List.append_assoc, ← HXR.out]; exact hr7)
      clear hr7
      go_wp2_with fail
      go_roundw
      case rel => exact ⟨i + 1, by go_num, by omega, HE7.out⟩
      case measure => simp [intOf]; omega
    · obtain rfl : i = n := by omega
      have hxX : xr = X := by rw [HXR.out, HXX.out, List.take_of_length_le (by rw [List.length_map]; have := HN.out; omega)]
      subst hxX
      have hka := Kept.allocd wr (.cells #[.slice apr lr capr] 22)
      have hga := heap_alloc_new wr (.cells #[.slice apr lr capr] 22)
      have HRA := Lib.hid (HRW.out.kept hka)
      have hmat : MatV (wr.alloc (.cells #[.slice apr lr capr] 22)) (.slice (some ⟨wr.heap.size, 0, none⟩) 1 1) [(.slice apr lr capr, xr)] := by
        refine ⟨RowV.mk ⟨rfl, fun _ => ⟨_, rfl, fun j v hj => ?_⟩⟩ (Nat.le_refl _) (fun h => by cases h), fun p hp => ?_⟩
        · rw [addr_add, Nat.zero_add]
          exact cellB hga (by simpa using hj)
        · obtain rfl := List.mem_singleton.1 hp
          exact HRA.out.2.bytes
      have hps := rsum _ [(.slice apr lr capr, xr)] _ hmat (by simp) (fun p hp => by obtain rfl := List.mem_singleton.1 hp; have := HLR.out; simp only; omega)
      rw [sum_one] at hps
      have HPS := Lib.hid hps
      have hsb := sumB_lt xr
      have HSB := Lib.hid hsb
      have hwrp : IntKind.u64.wrap ((sumB xr : Nat) : Int) = ((sumB xr : Nat) : Int) := u64_wrap_id _ (by omega) (by omega)
      clear hka hga hmat hps hsb
      go_wp2_with fail
      (with_reducible refine HPS.out.mono ?_)
      rintro e w6 ⟨rfl, rfl⟩
      go_wp2_with fail
      have hnu := rnumber w _ _ xr (sumB xr) 4 HRA.out (by have := HSB.out; omega) (by decide) (by have := HLR.out; omega)
      rw [show (((4 : Nat) : Int)) = 4 from rfl] at hnu
      (with_reducible refine hnu.mono ?_)
      rintro e w8 ⟨v8, rfl, hr8, _⟩
      have HR8 := Lib.hid hr8
      clear hr8 hnu hwrp
      go_wp2_with fail
      go_ret
      exact ⟨_, rfl, hgg ▸ HR8.out.2, HR8.out.1⟩
end Go.Proofs.YtfhlhpknobkplaaDoor
namespace Go.Proofs.YtfhlhpknobkplaaDoor
open Go.RowKit
attribute [local go_sem] fold_part fold_some fold_some' partAt_zero

def EncT (w : World) (r : Except Int Bs) (e : Ending) (w' : World) : Prop :=
  match r with
  | .ok b => ∃ v, e = .returned (.tuple #[v, .int .i64 0]) ∧ OwnT w' w.heap.size v b ∧ Kept NoBlock w w'
  | .error c => e = .returned (.tuple #[.slice none 0 0, .int .i64 c]) ∧ Kept NoBlock w w'

set_option maxRecDepth 100000 in
set_option maxHeartbeats 1600000 in
theorem rEncode (w : World) (id sec : Nat) (off fork : Int) (v : Value) (ms : List EntM) (h : EntsV w v ms) (hid : id < 18446744073709551616) (hn : ms.length ≤ 70000000) (hz : ∀ m ∈ ms, SizedM m.e)
    (hl : checkE (ms.map (·.e)) = 0 → (writtenB id off (ms.map (·.e))).length + 4 ≤ 67108864) :
    Calls Tryd.prog 20 #[.agg #[.int .u64 id, .int .i64 off, .int .u64 sec, .int .i64 fork], v] w (EncT w (encB id off (ms.map (·.e)))) := by
  have hch := fun w' (hk : Kept NoBlock w w') => rcheck v ms w' (h.kept hk) hn hz
  have hwr := fun w' (hk : Kept NoBlock w w') (hc : checkE (ms.map (·.e)) = 0) => rbytes w' id sec off fork v ms (h.kept hk) hid (fun m hm => valOk_kind (by
    have := (checkE_ok hc).2 m.e (List.mem_map_of_mem hm)
    unfold entOk at this
    simp only [Bool.and_eq_true] at this
    exact this.2)) (by have := hl hc; omega)
  obtain ⟨ap, cap, rfl, _⟩ := h.1.parts
  generalize hR : encB id off (ms.map (·.e)) = R
  have hR2 := hR
  unfold encB at hR2
  generalize ms.length = n at *
  generalize hC : checkE (ms.map (·.e)) = C at *
  generalize hX : writtenB id off (ms.map (·.e)) = X at *
  have HCH := Lib.hid hch
  have HWR := Lib.hid hwr
  have HL := Lib.hid hl
  have HK1 := Lib.hid (Kept.allocd w (.cells #[.int .u64 id, .int .i64 off, .int .u64 sec, .int .i64 fork] 32))
  have HG1 := Lib.hid (heap_alloc_new w (.cells #[.int .u64 id, .int .i64 off, .int .u64 sec, .int .i64 fork] 32))
  clear hch hwr hl h hR hC hX hz
  by_cases hc : C = 0
  · rw [if_neg (by simp [hc])] at hR2
    subst hc
    by_cases hi : id = 0
    · rw [if_pos hi] at hR2
      subst hi hR2
      go_enter Tryd.func20, Tryd.ntmps20
      go_wp2_with fail
      refine (HCH.out _ HK1.out).mono ?_
      rintro e w2 ⟨rfl, hk⟩
      have HK2 := Lib.hid (HK1.out.trans hk)
      have HG2 := Lib.hid (hk.heap HG1.out (fun h => h))
      clear hk
      obtain ⟨a0, a1, a2, a3⟩ := blk4 HG2.out
      go_wp2_with fail
      go_ret2
      exact ⟨rfl, HK2.out⟩
    · rw [if_neg hi] at hR2
      have hif : ((id : Int) == 0) = false := by simpa using hi
      by_cases ho : off < 0 ∨ 1125899906842624 < off
      · rw [if_pos ho] at hR2
        subst hR2
        have HO := Lib.hid ho
        clear hi ho
        by_cases ho1 : off < 0
        · go_enter Tryd.func20, Tryd.ntmps20
          go_wp2_with fail
          (with_reducible refine (HCH.out _ HK1.out).mono ?_)
          rintro e w2 ⟨rfl, hk⟩
          have HK2 := Lib.hid (HK1.out.trans hk)
          have HG2 := Lib.hid (hk.heap HG1.out (fun h => h))
          clear hk
          obtain ⟨a0, a1, a2, a3⟩ := blk4 HG2.out
          go_wp2_with fail
          go_ret2
          exact ⟨rfl, HK2.out⟩
        · have ho2 : 1125899906842624 < off := by have := HO.out; omega
          go_enter Tryd.func20, Tryd.ntmps20
          go_wp2_with fail
          (with_reducible refine (HCH.out _ HK1.out).mono ?_)
          rintro e w2 ⟨rfl, hk⟩
          have HK2 := Lib.hid (HK1.out.trans hk)
          have HG2 := Lib.hid (hk.heap HG1.out (fun h => h))
          clear hk
          obtain ⟨a0, a1, a2, a3⟩ := blk4 HG2.out
          go_wp2_with fail
          go_ret2
          exact ⟨rfl, HK2.out⟩
      · rw [if_neg ho] at hR2
        have ho1 : 0 ≤ off := by omega
        have ho2 : off ≤ 1125899906842624 := by omega
        subst hR2
        clear hi ho
        go_enter Tryd.func20, Tryd.ntmps20
        go_wp2_with fail
        (with_reducible refine (HCH.out _ HK1.out).mono ?_)
        rintro e w2 ⟨rfl, hk⟩
        have HK2 := Lib.hid (HK1.out.trans hk)
        have HG2 := Lib.hid (hk.heap HG1.out (fun h => h))
        clear hk
        obtain ⟨a0, a1, a2, a3⟩ := blk4 HG2.out
        go_wp2_with fail
        clear a0 a1 a2 a3
        (with_reducible refine (HWR.out _ HK2.out trivial).mono ?_)
        rintro e w3 ⟨v3, rfl, ho3, hk3⟩
        have HO3 := Lib.hid (OwnM.lower ho3 HK2.out.size)
        have HK3 := Lib.hid (HK2.out.trans hk3)
        obtain ⟨ap3, cap3, rfl, _⟩ := ho3.bytes.parts
        obtain ⟨m, hm⟩ : ∃ m, m = (X ++ leB 4 (sumB X)).length := ⟨_, rfl⟩
        have hml : ¬ ((67108864 : Int) < (m : Int)) := by
          have := HL.out trivial
          rw [List.length_append, leB_len] at hm
          omega
        have HM := Lib.hid hm
        rw [← hm] at HO3 ⊢
        clear ho3 hk3 hm HL
        go_wp2_with fail
        go_ret2
        refine ⟨_, rfl, ?_, HK3.out⟩
        unfold OwnT
        rw [← HM.out]
        exact HO3.out
  · rw [if_pos hc] at hR2
    subst hR2
    go_enter Tryd.func20, Tryd.ntmps20
    go_wp2_with fail
    (with_reducible refine (HCH.out _ HK1.out).mono ?_)
    rintro e w2 ⟨rfl, hk⟩
    have HK2 := Lib.hid (HK1.out.trans hk)
    clear hk
    go_wp2_with fail
    go_ret2
    exact ⟨rfl, HK2.out⟩

/-- What the size is: of the bytes with whatever history. -/
theorem enc_size (l : List Ent) : (∀ b, encB 1 0 l = .ok b → sizeB l = .ok b.length) ∧ (∀ c, encB 1 0 l = .error c → sizeB l = .error c) := by
  by_cases hc : checkE l = 0
  · have h1 : encB 1 0 l = .ok (writtenB 1 0 l ++ leB 4 (sumB (writtenB 1 0 l))) := by
      unfold encB
      rw [if_neg (by simp [hc]), if_neg (by decide), if_neg (by decide)]
    have h2 : sizeB l = .ok ((writtenB 0 0 l).length + 4) := by
      unfold sizeB
      rw [if_neg (by simp [hc])]
    rw [h1, h2]
    refine ⟨fun b hb => ?_, fun c hb => ?_⟩
    · cases hb
      rw [List.length_append, leB_len]
      congr 2
    · cases hb
  · have h1 : encB 1 0 l = .error (checkE l) := by unfold encB; rw [if_pos hc]
    have h2 : sizeB l = .error (checkE l) := by unfold sizeB; rw [if_pos hc]
    rw [h1, h2]
    refine ⟨fun b hb => ?_, fun c hb => ?_⟩
    · cases hb
    · cases hb; rfl
theorem written_len_any (id id' : Nat) (off off' : Int) (l : List Ent) : (writtenB id off l).length = (writtenB id' off' l).length := by
  unfold writtenB frontB
  simp only [List.length_append, leB_len]

set_option maxRecDepth 100000 in
theorem rSize (w : World) (v : Value) (ms : List EntM) (h : EntsV w v ms) (hn : ms.length ≤ 70000000) (hz : ∀ m ∈ ms, SizedM m.e)
    (hl : checkE (ms.map (·.e)) = 0 → (writtenB 0 0 (ms.map (·.e))).length + 4 ≤ 67108864) :
    Calls Tryd.prog 22 #[v] w (SizeEnd w (sizeB (ms.map (·.e)))) := by
  have hen := rEncode w 1 0 0 0 v ms h (by decide) hn hz (fun hc => by rw [written_len_any 1 0 0 0]; exact hl hc)
  rw [show (((1 : Nat) : Int)) = 1 from rfl, show (((0 : Nat) : Int)) = 0 from rfl] at hen
  obtain ⟨ap, cap, rfl, _⟩ := h.1.parts
  obtain ⟨e1, e2⟩ := enc_size (ms.map (·.e))
  generalize encB 1 0 (ms.map (·.e)) = R at *
  generalize sizeB (ms.map (·.e)) = Z at *
  have HEN := Lib.hid hen
  have HE1 := Lib.hid e1
  have HE2 := Lib.hid e2
  clear hen e1 e2 h hl hz
  go_enter Tryd.func22, Tryd.ntmps22
  go_wp2_with fail
  (with_reducible refine HEN.out.mono ?_)
  intro e w2 hend
  cases R with
  | ok b =>
    obtain ⟨v2, rfl, ho, hk⟩ := hend
    have hz := HE1.out b rfl
    subst hz
    obtain ⟨ap2, cap2, rfl, _⟩ := ho.bytes.parts
    have HK := Lib.hid hk
    clear ho hk
    go_wp2_with fail
    go_ret2
    exact ⟨rfl, HK.out⟩
  | error c =>
    obtain ⟨rfl, hk⟩ := hend
    have hz := HE2.out c rfl
    subst hz
    have HK := Lib.hid hk
    clear hk
    go_wp2_with fail
    go_ret2
    exact ⟨rfl, HK.out⟩
end Go.Proofs.YtfhlhpknobkplaaDoor
namespace Go.Proofs.YtfhlhpknobkplaaDoor
open Go.RowKit
attribute [local go_sem] fold_part fold_some fold_some' partAt_zero

set_option maxRecDepth 100000 in
set_option maxHeartbeats 3200000 in
theorem law_bytes (id sec : Nat) (off fork : Int) (v : Value) (ms : List EntM) (w : World) (hV : Vs w) (h : InE w v ms) (hid : id < 18446744073709551616) :
    Calls Tryd.prog 9 #[.agg #[.int .u64 id, .int .i64 off, .int .u64 sec, .int .i64 fork], v] w fun e w' => e = .returned (.bool true) ∧ Kept NoBlock w w' := by
  obtain ⟨ap, cap, rfl, _⟩ := h.ents.1.parts
  have HV := Lib.hid hV
  have HH := Lib.hid h
  have HK1 := Lib.hid (Kept.allocd w (.cells #[.int .u64 id, .int .i64 off, .int .u64 sec, .int .i64 fork] 32))
  have HG1 := Lib.hid (heap_alloc_new w (.cells #[.int .u64 id, .int .i64 off, .int .u64 sec, .int .i64 fork] 32))
  clear hV h
  go_enter Tryd.func9, Tryd.ntmps9
  go_wp2_with fail
  generalize w.alloc (.cells #[.int .u64 id, .int .i64 off, .int .u64 sec, .int .i64 fork] 32) = W1 at *
  (with_reducible refine (pfew _ ms W1 (HH.out.ents.kept HK1.out) HH.out.len HH.out.rows).mono ?_)
  rintro e w3 ⟨k, v3, rfl, hk3, hrow, hcnt, hkk⟩
  have hss : ∀ m ∈ ms.take k, m ∈ ms := fun m hm => List.mem_of_mem_take hm
  have HE3 := Lib.hid (show EntsV w3 v3 (ms.take k) from ⟨hrow.kept hkk, fun m hm => (HH.out.ents.2 m (hss m hm)).kept (HK1.out.trans hkk)⟩)
  obtain ⟨hsz, hsm⟩ := few_sized hcnt (fun e he z hz => by
    obtain ⟨m, hm, rfl⟩ := List.mem_map.1 he
    exact HH.out.texts m (hss m hm) z hz)
  have HK3 := Lib.hid (HK1.out.trans hkk)
  have HG3 := Lib.hid (hkk.heap HG1.out (fun h => h))
  rw [List.length_map] at hsz
  have HSM := Lib.hid (fun m (hm : m ∈ ms.take k) => hsm m.e (List.mem_map_of_mem hm))
  have HLN := Lib.hid (fun hc => few_small (id := id) (off := off) hc hcnt)
  have HLZ := Lib.hid (fun hc => few_small (id := 0) (off := 0) hc hcnt)
  have HPE := Lib.hid (pEncode w3 id sec off fork v3 (ms.take k) (HV.out.kept HK3.out) HE3.out hid (by omega) HSM.out HLN.out)
  have HRE := Lib.hid (fun w' (hk : Kept NoBlock w3 w') => rEncode w' id sec off fork v3 (ms.take k) (HE3.out.kept hk) hid (by omega) HSM.out HLN.out)
  have HPS := Lib.hid (fun w' (hk : Kept NoBlock w3 w') => pSize w' v3 (ms.take k) (HE3.out.kept hk) (by omega) HSM.out HLZ.out)
  have HRS := Lib.hid (fun w' (hk : Kept NoBlock w3 w') => rSize w' v3 (ms.take k) (HE3.out.kept hk) (by omega) HSM.out HLZ.out)
  have hv3 := hrow.parts
  clear hrow hkk hss hsm hcnt HSM HLN HLZ HE3
  generalize ms.take k = qs at *
  generalize encB id off (qs.map (·.e)) = R at *
  generalize sizeB (qs.map (·.e)) = Z at *
  obtain ⟨ap3, cap3, rfl, _⟩ := hv3
  obtain ⟨a0, a1, a2, a3⟩ := blk4 HG3.out
  go_wp2_with fail
  (with_reducible refine HPE.out.mono ?_)
  intro e w4 he
  clear a0 a1 a2 a3 HPE
  cases R with
  | error c =>
    cases Z with
    | error z =>
      obtain ⟨rfl, hk⟩ := he
      have HK4 := Lib.hid (HK3.out.trans hk)
      have HKK4 := Lib.hid hk
      have HG4 := Lib.hid (hk.heap HG3.out (fun h => h))
      clear hk
      obtain ⟨a0, a1, a2, a3⟩ := blk4 HG4.out
      go_wp2_with fail
      (with_reducible refine (HRE.out _ HKK4.out).mono ?_)
      rintro e w5 ⟨rfl, hk⟩
      have HK5 := Lib.hid (HK4.out.trans hk)
      have HKK5 := Lib.hid (HKK4.out.trans hk)
      clear hk a0 a1 a2 a3
      go_wp2_with fail
      (with_reducible refine (HPS.out _ HKK5.out).mono ?_)
      rintro e w6 ⟨rfl, hk⟩
      have HK6 := Lib.hid (HK5.out.trans hk)
      have HKK6 := Lib.hid (HKK5.out.trans hk)
      clear hk
      go_wp2_with fail
      (with_reducible refine (HRS.out _ HKK6.out).mono ?_)
      rintro e w7 ⟨rfl, hk⟩
      have HK7 := Lib.hid (HK6.out.trans hk)
      have HKK7 := Lib.hid (HKK6.out.trans hk)
      clear hk
      have c1 := conv_of (show BytesV w7 (.slice none 0 0) [] from RowV.nil w7)
      have HA := Lib.hid (lawake w7 (HV.out.kept HK7.out))
      go_wp2_with fail
      (with_reducible refine HA.out.mono ?_)
      rintro e w8 ⟨rfl, hk⟩
      have HK8 := Lib.hid (HK7.out.trans hk)
      clear hk c1
      go_wp2_with fail
      go_ret
      exact ⟨rfl, HK8.out⟩
    | ok z =>
      obtain ⟨rfl, hk⟩ := he
      have HK4 := Lib.hid (HK3.out.trans hk)
      have HKK4 := Lib.hid hk
      have HG4 := Lib.hid (hk.heap HG3.out (fun h => h))
      clear hk
      obtain ⟨a0, a1, a2, a3⟩ := blk4 HG4.out
      go_wp2_with fail
      (with_reducible refine (HRE.out _ HKK4.out).mono ?_)
      rintro e w5 ⟨rfl, hk⟩
      have HK5 := Lib.hid (HK4.out.trans hk)
      have HKK5 := Lib.hid (HKK4.out.trans hk)
      clear hk a0 a1 a2 a3
      go_wp2_with fail
      (with_reducible refine (HPS.out _ HKK5.out).mono ?_)
      rintro e w6 ⟨rfl, hk⟩
      have HK6 := Lib.hid (HK5.out.trans hk)
      have HKK6 := Lib.hid (HKK5.out.trans hk)
      clear hk
      go_wp2_with fail
      (with_reducible refine (HRS.out _ HKK6.out).mono ?_)
      rintro e w7 ⟨rfl, hk⟩
      have HK7 := Lib.hid (HK6.out.trans hk)
      have HKK7 := Lib.hid (HKK6.out.trans hk)
      clear hk
      have c1 := conv_of (show BytesV w7 (.slice none 0 0) [] from RowV.nil w7)
      have HA := Lib.hid (lawake w7 (HV.out.kept HK7.out))
      go_wp2_with fail
      (with_reducible refine HA.out.mono ?_)
      rintro e w8 ⟨rfl, hk⟩
      have HK8 := Lib.hid (HK7.out.trans hk)
      clear hk c1
      go_wp2_with fail
      go_ret
      exact ⟨rfl, HK8.out⟩
  | ok x =>
    cases Z with
    | error z =>
      obtain ⟨v4, rfl, ho4, hk⟩ := he
      obtain ⟨ap4, cap4, rfl, _⟩ := ho4.bytes.parts
      have HO4 := Lib.hid ho4.bytes
      have HK4 := Lib.hid (HK3.out.trans hk)
      have HKK4 := Lib.hid hk
      have HG4 := Lib.hid (hk.heap HG3.out (fun h => h))
      clear hk ho4
      obtain ⟨a0, a1, a2, a3⟩ := blk4 HG4.out
      go_wp2_with fail
      (with_reducible refine (HRE.out _ HKK4.out).mono ?_)
      rintro e w5 ⟨v5, rfl, ho5, hk⟩
      obtain ⟨ap5, cap5, rfl, _⟩ := ho5.bytes.parts
      have HO5 := Lib.hid ho5.bytes
      have HK5 := Lib.hid (HK4.out.trans hk)
      have HKK5 := Lib.hid (HKK4.out.trans hk)
      have HP5 := Lib.hid (HO4.out.keptNo hk)
      have HQ5 := HO5
      clear hk ho5 a0 a1 a2 a3
      generalize x.length = xl at *
      go_wp2_with fail
      (with_reducible refine (HPS.out _ HKK5.out).mono ?_)
      rintro e w6 ⟨rfl, hk⟩
      have HK6 := Lib.hid (HK5.out.trans hk)
      have HKK6 := Lib.hid (HKK5.out.trans hk)
      have HP6 := Lib.hid (HP5.out.keptNo hk)
      have HQ6 := Lib.hid (HQ5.out.keptNo hk)
      clear hk
      go_wp2_with fail
      (with_reducible refine (HRS.out _ HKK6.out).mono ?_)
      rintro e w7 ⟨rfl, hk⟩
      have HK7 := Lib.hid (HK6.out.trans hk)
      have HKK7 := Lib.hid (HKK6.out.trans hk)
      have HP7 := Lib.hid (HP6.out.keptNo hk)
      have HQ7 := Lib.hid (HQ6.out.keptNo hk)
      clear hk
      have c1 := conv_of HP7.out
      have c2 := conv_of HQ7.out
      have HA := Lib.hid (lawake w7 (HV.out.kept HK7.out))
      go_wp2_with fail
      (with_reducible refine HA.out.mono ?_)
      rintro e w8 ⟨rfl, hk⟩
      have HK8 := Lib.hid (HK7.out.trans hk)
      clear hk c1 c2
      go_wp2_with fail
      go_ret
      exact ⟨rfl, HK8.out⟩
    | ok z =>
      obtain ⟨v4, rfl, ho4, hk⟩ := he
      obtain ⟨ap4, cap4, rfl, _⟩ := ho4.bytes.parts
      have HO4 := Lib.hid ho4.bytes
      have HK4 := Lib.hid (HK3.out.trans hk)
      have HKK4 := Lib.hid hk
      have HG4 := Lib.hid (hk.heap HG3.out (fun h => h))
      clear hk ho4
      obtain ⟨a0, a1, a2, a3⟩ := blk4 HG4.out
      go_wp2_with fail
      (with_reducible refine (HRE.out _ HKK4.out).mono ?_)
      rintro e w5 ⟨v5, rfl, ho5, hk⟩
      obtain ⟨ap5, cap5, rfl, _⟩ := ho5.bytes.parts
      have HO5 := Lib.hid ho5.bytes
      have HK5 := Lib.hid (HK4.out.trans hk)
      have HKK5 := Lib.hid (HKK4.out.trans hk)
      have HP5 := Lib.hid (HO4.out.keptNo hk)
      have HQ5 := HO5
      clear hk ho5 a0 a1 a2 a3
      generalize x.length = xl at *
      go_wp2_with fail
      (with_reducible refine (HPS.out _ HKK5.out).mono ?_)
      rintro e w6 ⟨rfl, hk⟩
      have HK6 := Lib.hid (HK5.out.trans hk)
      have HKK6 := Lib.hid (HKK5.out.trans hk)
      have HP6 := Lib.hid (HP5.out.keptNo hk)
      have HQ6 := Lib.hid (HQ5.out.keptNo hk)
      clear hk
      go_wp2_with fail
      (with_reducible refine (HRS.out _ HKK6.out).mono ?_)
      rintro e w7 ⟨rfl, hk⟩
      have HK7 := Lib.hid (HK6.out.trans hk)
      have HKK7 := Lib.hid (HKK6.out.trans hk)
      have HP7 := Lib.hid (HP6.out.keptNo hk)
      have HQ7 := Lib.hid (HQ6.out.keptNo hk)
      clear hk
      have c1 := conv_of HP7.out
      have c2 := conv_of HQ7.out
      have HA := Lib.hid (lawake w7 (HV.out.kept HK7.out))
      go_wp2_with fail
      (with_reducible refine HA.out.mono ?_)
      rintro e w8 ⟨rfl, hk⟩
      have HK8 := Lib.hid (HK7.out.trans hk)
      clear hk c1 c2
      go_wp2_with fail
      go_ret
      exact ⟨rfl, HK8.out⟩
end Go.Proofs.YtfhlhpknobkplaaDoor
