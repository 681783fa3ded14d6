/- What 'pieces' hands to the iterator of pieces: a piece is told. -/
import Derived.Test.YtlaahdjdlekopaaRr1
import Derived.RangeFuncNested
import Derived.Outline
namespace Go.Proofs.Ytlaahdjdlekopaa
open Go.RowKit

/-- The boxes of 'pieces', from β on: the offset, the longest piece, what was told, how many pieces, whether all was right. -/
structure Pk (W : World) (β B0 : Nat) (k mm : Int) (xs : List UInt8) (c : Nat) : Prop where
  b0 : Boxed W β 3 (.int .i64 k)
  b1 : Boxed W (β + 1) 3 (.int .i64 mm)
  b2 : ∃ v, Boxed W (β + 2) 22 v ∧ W.ownsRow B0 5 1 v xs.length (xs.map bv)
  b3 : Boxed W (β + 3) 3 (.int .i64 c)
  b4 : Boxed W (β + 4) 4 (.bool true)
  hB : β + 5 ≤ B0
  hs : B0 ≤ W.heap.size

theorem Pk.drewN {W : World} {β B0 : Nat} {k mm : Int} {xs : List UInt8} {c : Nat} (h : Pk W β B0 k mm xs c) (n : Nat) : Pk (W.drewN n) β B0 k mm xs c := ⟨h.b0, h.b1, h.b2, h.b3, h.b4, h.hB, h.hs⟩

/-- What may change: three boxes, and what is new. -/
def PkS (β B0 : Nat) (x : Nat) : Prop := x = β + 2 ∨ x = β + 3 ∨ x = β + 4 ∨ B0 ≤ x

set_option maxHeartbeats 1600000 in
theorem ryield (W : World) (β B0 : Nat) (k mm A : Int) (xs : List UInt8) (c : Nat) (ap : Addr) (np cp : Nat) (p : List UInt8) (h : Pk W β B0 k mm xs c) (hp : Holds W (some ap) np (p.map bv)) (hpS : ¬ PkS β B0 ap.block)
    (hnp : 0 < np) (hnm : (np : Int) ≤ mm) (hxs : xs.length + np ≤ 20000000) (hc : c ≤ 4000) (hA : A - k = xs.length) :
    Calls Try.prog 38 #[.int .i64 A, .slice (some ap) np cp, .pointer (some ⟨β + 4, 0, none⟩), .pointer (some ⟨β, 0, none⟩), .pointer (some ⟨β + 2, 0, none⟩), .pointer (some ⟨β + 1, 0, none⟩), .pointer (some ⟨β + 3, 0, none⟩)] W
      fun e W' => e = .returned (.bool true) ∧ Pk W' β B0 k mm (xs ++ p) (c + 1) ∧ Kept (PkS β B0) W W' := by
  obtain ⟨i0, hi, hz0, hz1, hz2⟩ := info_parts binfo
  obtain ⟨b0, b1, ⟨v, b2, hrow⟩, b3, b4, hB, hs⟩ := h
  have hpl : p.length = np := by simpa using hp.1
  have c0 := b0.cell
  have c1 := b1.cell
  have c2 := b2.cell
  have c3 := b3.cell
  have c4 := b4.cell
  have f2 := b2.frozen
  have f3 := b3.frozen
  have f4 := b4.frozen
  have hrow1 : (W.setCell ⟨β + 4, 0, none⟩ (.bool true)).ownsRow B0 5 1 v xs.length (xs.map bv) := hrow.kept (grownBy_setCell' W (β + 4) _) (.inr (b4.not_row (by decide) hrow).symm)
  have hK1 : Kept (PkS β B0) W (W.setCell ⟨β + 4, 0, none⟩ (.bool true)) := Kept.setCell (S := PkS β B0) (p := ⟨β + 4, 0, none⟩) (Kept.refl _ _) (fun _ => .inr (.inr (.inl rfl))) _
  have hp1 : Holds (W.setCell ⟨β + 4, 0, none⟩ (.bool true)) (some ap) np (p.map bv) := hp.kept hK1 (fun ad e => by cases e; exact hpS)
  have hsz : (W.setCell ⟨β + 4, 0, none⟩ (.bool true)).heap.size = W.heap.size := by simp [World.setCell]
  have hs1 : B0 ≤ (W.setCell ⟨β + 4, 0, none⟩ (.bool true)).heap.size := by omega
  have key : ∀ v' w1, w1.ownsRow B0 5 1 v' (xs.length + np) (xs.map bv ++ p.map bv) → (W.setCell ⟨β + 4, 0, none⟩ (.bool true)).grownBy w1 v.ownBlock →
      Boxed w1 (β + 2) 22 v ∧ Boxed w1 (β + 3) 3 (.int .i64 c) ∧
      Pk ((w1.setCell ⟨β + 2, 0, none⟩ v').setCell ⟨β + 3, 0, none⟩ (.int .i64 ((c : Int) + 1))) β B0 k mm (xs ++ p) (c + 1) ∧ Kept (PkS β B0) W ((w1.setCell ⟨β + 2, 0, none⟩ v').setCell ⟨β + 3, 0, none⟩ (.int .i64 ((c : Int) + 1))) := by
    intro v' w1 hown hgrow
    have ov : ∀ C t u, Boxed W C t u → t ≠ 5 → C ≠ β + 4 → Boxed w1 C t u := fun C t u h ht h4 => (h.other h4 (.bool true)).kept hgrow ((h.other h4 (.bool true)).not_row ht hrow1)
    have o4 : Boxed w1 (β + 4) 4 (.bool true) := (b4.set (.bool true)).kept hgrow ((b4.set (.bool true)).not_row (by decide) hrow1)
    have o2 := ov _ _ _ b2 (by decide) (by omega)
    have o3 := ov _ _ _ b3 (by decide) (by omega)
    have hr2 : (w1.setCell ⟨β + 2, 0, none⟩ v').ownsRow B0 5 1 v' (xs.length + np) (xs.map bv ++ p.map bv) := hown.kept (grownBy_setCell' w1 (β + 2) _) (.inr (o2.not_row (by decide) hown).symm)
    have hr3 : ((w1.setCell ⟨β + 2, 0, none⟩ v').setCell ⟨β + 3, 0, none⟩ (.int .i64 ((c : Int) + 1))).ownsRow B0 5 1 v' (xs.length + np) (xs.map bv ++ p.map bv) :=
      hr2.kept (grownBy_setCell' _ (β + 3) _) (.inr ((o3.other (B' := β + 2) (by omega) v').not_row (by decide) hr2).symm)
    have hk7 : Kept (PkS β B0) W w1 := hK1.grown hgrow (fun x e _ => .inr (.inr (.inr (hrow1.lt x e).1)))
    have hkF : Kept (PkS β B0) W ((w1.setCell ⟨β + 2, 0, none⟩ v').setCell ⟨β + 3, 0, none⟩ (.int .i64 ((c : Int) + 1))) :=
      Kept.setCell (S := PkS β B0) (p := ⟨β + 3, 0, none⟩) (Kept.setCell (S := PkS β B0) (p := ⟨β + 2, 0, none⟩) hk7 (fun _ => .inl rfl) _) (fun _ => .inr (.inl rfl)) _
    refine ⟨o2, o3, ⟨((ov _ _ _ b0 (by decide) (by omega)).other (by omega) _).other (by omega) _, ((ov _ _ _ b1 (by decide) (by omega)).other (by omega) _).other (by omega) _, ⟨v', (o2.set v').other (by omega) _, ?_⟩, (o3.other (by omega) _).set _, (o4.other (by omega) _).other (by omega) _, hB, Nat.le_trans hs hkF.size⟩, hkF⟩
    rw [List.length_append, hpl, List.map_append]
    exact hr3
  have KEY := Lib.hid key
  have HPL := Lib.hid hpl
  have HA := Lib.hid hA
  have HS := Lib.hid hs
  have HSZ := Lib.hid hsz
  clear key hpl b0 b1 b2 b3 b4 hsz hs hK1 hp
  have hc1 : IntKind.i64.wrap ((c : Int) + 1) = c + 1 := IntWalk.i64_in _ (by omega)
  have hwA : IntKind.i64.wrap (A - k) = xs.length := by rw [Hid.out HA]; exact IntWalk.i64_in _ (by omega)
  go_enter Try.func38, Try.ntmps38
  obtain ⟨apv, capv, rfl, hzv, hcv⟩ := ownsRow_form2 hrow
  go_wp2_with (at_builtin; refine wpList_append_holds rfl _ _ 22 rfl B0 5 i0 (.int .u8 0) 1 Try.underlying22 hi hz0 hz1 hz2 rfl _ _ _ rfl hrow1 (some ap) np cp (p.map bv) rfl hp1 (fun h => by cases h) (bv_one _) (by unfold maxLen; omega) (by omega) hs1 ?_; intro v' w1 hown' hgrow; refine Hid.out ?_)
  refine Lib.hid ?_
  obtain ⟨g1, g2, g3, g4⟩ := (Hid.out KEY) v' w1 hown' hgrow
  obtain ⟨ap7, cap7, rfl, _⟩ := ownsRow_form hown'
  have k2 := g1.cell
  have kf := g1.frozen
  have k3 := g2.cell
  have k3f := g2.frozen
  clear g1 g2 hown' hgrow KEY hrow1 hrow hp1 hs1 c0 c1 c2 c3 c4 f2 f3 f4
  go_wp2
  go_ret
  refine ⟨?_, g3, g4⟩
  show Ending.returned (.bool (decide ((c : Int) + 1 < 5000))) = _
  rw [decide_eq_true (by omega)]

theorem mul_bound {c m len : Nat} (hm : 1 ≤ m) (hq : len / 1000 ≤ m) (h : c * m < len) : c < 2000 := by
  apply Nat.lt_of_not_le
  intro hc
  have h1 : 2000 * m ≤ c * m := Nat.mul_le_mul_right m hc
  omega

set_option maxHeartbeats 3200000 in
theorem riter (W : World) (g : Nat) (R : Option Nat) (s : RS) (β j m : Nat) (k : Int) (hR : Rg W g R s) (hk : k = s.first + j) (hj : j ≤ s.L.length) (hm : 1 ≤ m) (hq : (s.L.length - j) / 1000 ≤ m)
    (b0 : Boxed W β 3 (.int .i64 k)) (b1 : Boxed W (β + 1) 3 (.int .i64 m)) (b2 : Boxed W (β + 2) 22 (.slice none 0 0)) (b3 : Boxed W (β + 3) 3 (.int .i64 0)) (b4 : Boxed W (β + 4) 4 (.bool true))
    (b5 : Boxed W (β + 5) 23 (.pointer (some ⟨g, 0, none⟩))) (b6 : Boxed W (β + 6) 3 (.int .i64 k)) (b7 : Boxed W (β + 7) 3 (.int .i64 m)) :
    Calls Try.prog 40 #[.func (.func 38) #[] #[.pointer (some ⟨β + 4, 0, none⟩), .pointer (some ⟨β, 0, none⟩), .pointer (some ⟨β + 2, 0, none⟩), .pointer (some ⟨β + 1, 0, none⟩), .pointer (some ⟨β + 3, 0, none⟩)], .pointer (some ⟨β + 5, 0, none⟩), .pointer (some ⟨β + 6, 0, none⟩), .pointer (some ⟨β + 7, 0, none⟩)] W
      fun e W' => e = .returned (.tuple #[]) ∧ (∃ B0 c, Pk W' β B0 k m (s.L.drop j) c ∧ s.L.length - j ≤ c * m ∧ c * m < s.L.length - j + m) ∧ Kept (fun x => x = β + 2 ∨ x = β + 3 ∨ x = β + 4) W W' := by
  have hle := hR.le
  have hoff : s.off ≤ 1125899906842624 := by obtain ⟨_, _, _, _, _, _, _, _, h6, _⟩ := hR; exact h6
  have hsz : s.size ≤ 16777216 := by obtain ⟨_, _, _, _, _, _, _, h5, _⟩ := hR; exact h5
  have hkb : 0 ≤ k ∧ k ≤ 1125899906842624 := by omega
  have HF := Lib.hid (rfrom_in g R s j k W hR hj hk)
  have c5 := b5.cell
  have c6 := b6.cell
  have c7 := b7.cell
  have hlt7 := b7.lt
  generalize hlen : s.L.length - j = len at *
  have hll : (s.L.drop j).length = len := by rw [List.length_drop]; exact hlen
  have hlb : len ≤ 16777216 := by omega
  generalize s.L.drop j = fl at *
  have HL := Lib.hid hll
  have HQ := Lib.hid hq
  have hm1 : ¬ ((m : Int) < 1) := by omega
  have HB0 := Lib.hid b0
  have HB1 := Lib.hid b1
  have HB2 := Lib.hid b2
  have HB3 := Lib.hid b3
  have HB4 := Lib.hid b4
  have HB5 := Lib.hid b5
  have HB6 := Lib.hid b6
  have HB7 := Lib.hid b7
  clear hR hk hj hle hoff hsz hll hlen hq b0 b1 b2 b3 b4 b5 b6 b7
  go_enter Try.func40, Try.ntmps40
  go_wp2_with fail
  refine (Hid.out HF).mono ?_
  rintro e wF ⟨apF, capF, rfl, hzF, hbF, hnF, hcF, hkF⟩
  have hsF := hkF.size
  have PK0 : Pk wF β wF.heap.size k m [] 0 := ⟨hkF.heap (Hid.out HB0) (fun h => h), hkF.heap (Hid.out HB1) (fun h => h), ⟨_, hkF.heap (Hid.out HB2) (fun h => h), ⟨rfl, .inl ⟨rfl, rfl⟩⟩⟩, hkF.heap (Hid.out HB3) (fun h => h), hkF.heap (Hid.out HB4) (fun h => h), by omega, Nat.le_refl _⟩
  have hb6F : Boxed wF (β + 6) 3 (.int .i64 k) := hkF.heap (Hid.out HB6) (fun h => h)
  have hb7F : Boxed wF (β + 7) 3 (.int .i64 m) := hkF.heap (Hid.out HB7) (fun h => h)
  have c7F := hb7F.cell
  have HB6F := Lib.hid hb6F
  have HB7F := Lib.hid hb7F
  have HKF := Lib.hid hkF
  have HZF := Lib.hid hzF
  have HBF := Lib.hid hbF
  have HCF := Lib.hid hcF
  clear HB0 HB1 HB2 HB3 HB4 HB5 HB6 HB7 hkF hb6F hb7F c5 c6 c7 HF hzF hbF hnF hcF
  go_wp2
  go_loopw [7] (fun va wr => ∃ (c a : Nat), va = .int .i64 a ∧ a = min (c * m) len ∧ c * m < len + m ∧ Pk wr β wF.heap.size k m (fl.take a) c ∧ Kept (PkS β wF.heap.size) wF wr) (fun va _ => len - (intOf va).toNat)
  case atStart => exact ⟨0, 0, rfl, by omega, by omega, PK0, Kept.refl _ _⟩
  case round =>
    obtain ⟨c, a, rfl, ha, hcm, hP, hK⟩ := hrel
    have hb7r : Boxed wr (β + 7) 3 (.int .i64 m) := hK.heap (Hid.out HB7F) (by unfold PkS; omega)
    have hb6r : Boxed wr (β + 6) 3 (.int .i64 k) := hK.heap (Hid.out HB6F) (by unfold PkS; omega)
    have c7r := hb7r.cell
    have c6r := hb6r.cell
    clear hb7r hb6r PK0 c7F
    by_cases hlt : a < len
    · have hac : a = c * m := by omega
      have hc2 : c < 2000 := mul_bound hm (Hid.out HQ) (by omega)
      obtain ⟨adF, rfl⟩ : ∃ adF, apF = some adF := by
        obtain ⟨ad, e, _⟩ := (Hid.out HZF).2 (by omega); exact ⟨ad, e⟩
      obtain ⟨y, hy⟩ : ∃ y, y = len - a := ⟨_, rfl⟩
      have hyI : (len : Int) - a = y := by omega
      obtain ⟨n, hn⟩ : ∃ n, n = min m y := ⟨_, rfl⟩
      have hmin : (if y < m then (y : Int) else (m : Int)) = n := by rw [hn]; split <;> omega
      obtain ⟨e, he⟩ : ∃ e, e = a + n := ⟨_, rfl⟩
      have heI : (a : Int) + n = e := by omega
      have hwe : IntKind.i64.wrap (e : Int) = e := IntWalk.i64_in _ (by omega)
      obtain ⟨A, hA⟩ : ∃ A, A = k + a := ⟨_, rfl⟩
      have hAI : k + (a : Int) = A := hA.symm
      have hwA : IntKind.i64.wrap A = A := IntWalk.i64_in _ (by omega)
      have hae : e - a = n := by omega
      have hel : e ≤ len := by omega
      have hale : a ≤ e := by omega
      have hecF : e ≤ capF := by have := Hid.out HCF; omega
      have hmn : min ((c + 1) * m) len = e := by rw [Nat.succ_mul]; omega
      have hcm1 : (c + 1) * m < len + m := by rw [Nat.succ_mul]; omega
      have hn0 : 0 < n := by omega
      have hnm : (n : Int) ≤ m := by omega
      have hea : ¬ e = a := by omega
      have hac2 : ¬ capF = a := by omega
      have HE := Lib.hid he
      have HA := Lib.hid hA
      have HAC := Lib.hid hac
      have HMN := Lib.hid hmn
      have HCM := Lib.hid hcm1
      clear hy hn he hA ha hac hmn hcm1 hcm
      go_wp2_with fail
      refine wp_plan 0 [1, 2, 3, 4, 5, 6, 7, 8, 9, 10, 11, 12] 13 [] [14] (by kernel_rfl) (by kernel_rfl) ?_
      simp only [wpPlan, pick, List.filterMap_cons, List.filterMap_nil, List.getElem?_cons_succ, List.getElem?_cons_zero]
      repeat (quiet_step (fail))
      refine wpQuiet_nil ?_
      rintro _ ⟨n1, rfl⟩
      go_wp2_with fail
      have hnS : ¬ PkS β wF.heap.size adF.block := by have := (Hid.out HBF) adF rfl; unfold PkS; omega
      have hmid := holds_mid (Hid.out HZF) (Hid.out HCF) (i := a) (k := n) (by have := Hid.out HE; omega)
      rw [if_neg hac2] at hmid
      have hmid2 := (hmid.kept hK (fun ad e => by cases e; rw [add_block]; exact hnS)).kept ((Kept.refl NoBlock wr).drewN n1) (fun _ _ h => h)
      have hta : (fl.take a).length = a := by rw [List.length_take, Hid.out HL]; omega
      refine (ryield (wr.drewN n1) β wF.heap.size k m A (fl.take a) c (adF.add a) n n ((fl.drop a).take n) (hP.drewN n1) hmid2 (by rw [add_block]; exact hnS) hn0 hnm (by rw [hta]; omega) (by omega) (by rw [hta, Hid.out HA]; omega)).mono ?_
      rintro e2 W2 ⟨rfl, hP2, hK2⟩
      have hKK := (hK.drewN n1).trans' (S' := PkS β wF.heap.size) hK2 (fun _ _ h => h)
      have HP2 := Lib.hid hP2
      have HK2 := Lib.hid hKK
      clear hP hK hP2 hK2 hKK hmid hmid2 c7r c6r hta
      go_wp2
      refine Halt.mk ?_
      repeat (quiet_step (fail))
      refine wpQuiet_nil ?_
      rintro _ ⟨n2, rfl⟩
      go_wp2
      go_roundw
      case rel =>
        refine ⟨c + 1, e, rfl, (Hid.out HMN).symm, Hid.out HCM, ?_, (Hid.out HK2).drewN n2⟩
        have := (Hid.out HP2).drewN n2
        rw [Hid.out HE, List.take_add]
        exact this
      case measure => simp [intOf]; omega
    · have hal : a = len := by omega
      have hcl : len ≤ c * m := by omega
      clear ha hlt
      subst hal
      have HCL := Lib.hid hcl
      have HCM := Lib.hid hcm
      clear hcl hcm
      go_wp2_with fail
      go_end0
      refine ⟨rfl, ⟨wF.heap.size, c, ?_, Hid.out HCL, Hid.out HCM⟩, ?_⟩
      · rw [List.take_of_length_le (by rw [Hid.out HL]; exact Nat.le_refl _)] at hP; exact hP
      · exact ((Hid.out HKF).mono (fun _ _ h => h.elim)).trans' hK (fun i hi h => by unfold PkS at h; omega)
end Go.Proofs.Ytlaahdjdlekopaa
