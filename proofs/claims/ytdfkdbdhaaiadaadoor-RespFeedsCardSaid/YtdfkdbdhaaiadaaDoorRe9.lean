/- A reader of requests: lines. -/
import Derived.Test.YtdfkdbdhaaiadaaDoorRe8
namespace Go.Proofs.YtdfkdbdhaaiadaaDoor
open Go.RowKit
attribute [local go_sem] fold_part fold_some fold_some' partAt_zero

def retS (base : Nat) (L : List Bs) (v : Value) (w : World) : Prop := OwnS w base v L

theorem ends_wrong2 {α : Type} {g : Nat} {B : Option Nat} {l : Bs} {u : Nat} {f : Bs} {ret : α → Value → World → Prop} {w w' : World} (h : Bx2 w' g) (hk : Kept (fun k => k = g) w w') : Ends g B l u (.wrong f) ret w (.panicked (faultE f)) w' :=
  ⟨hk, rfl, h⟩

theorem Bx2.keptNo {w w' : World} {g : Nat} (h : Bx2 w g) (hk : Kept NoBlock w w') : Bx2 w' g := by
  obtain ⟨x, y, hg⟩ := h; exact ⟨x, y, hk.heap hg (fun h => h)⟩

/-- Where a line without its end stops. -/
theorem bare_cases (l : Bs) (i : Nat) (hi : i < l.length) : ∃ k, bare (l.take i) = l.take k ∧ ((i = 0 ∧ k = 0) ∨ (∃ j, i = j + 1 ∧ l[j]? = some 13 ∧ k = j) ∨ (∃ j c, i = j + 1 ∧ l[j]? = some c ∧ c ≠ 13 ∧ k = j + 1)) := by
  cases i with
  | zero => exact ⟨0, rfl, .inl ⟨rfl, rfl⟩⟩
  | succ j =>
    have hj : l[j]? = some l[j] := List.getElem?_eq_getElem _
    have hlast : (l.take (j + 1)).getLast? = some l[j] := by
      rw [List.getLast?_eq_getElem?, List.length_take, show min (j + 1) l.length - 1 = j by omega, List.getElem?_take, if_pos (by omega), hj]
    by_cases hc : l[j] = 13
    · refine ⟨j, ?_, .inr (.inl ⟨j, rfl, by rw [hj, hc], rfl⟩)⟩
      unfold bare
      rw [hlast, hc, if_pos rfl, List.dropLast_eq_take, List.length_take, List.take_take]
      congr 1; omega
    · refine ⟨j + 1, ?_, .inr (.inr ⟨j, _, rfl, hj, hc, rfl⟩)⟩
      unfold bare
      rw [hlast, if_neg (by simpa using hc)]

set_option maxRecDepth 100000 in
set_option maxHeartbeats 3200000 in
theorem pline (W0 : World) (g : Nat) (B : Option Nat) (l : Bs) (u : Nat) (w : World) (hE : Env W0 w) (hW : W0.heap.size ≤ g) (h : RdAt w g B l u) (hlu : u + l.length ≤ 100000000) (hBw : ∀ b, B = some b → b < w.heap.size) :
    Calls Tryd.prog 31 #[.pointer (some ⟨g, 0, none⟩)] w (Ends g B l u (line l) (retS w.heap.size) w) := by
  have hl : l.length ≤ 100000000 := by omega
  have HLU := Lib.hid hlu
  clear hlu
  have hR := h
  obtain ⟨v, hg, hv, hB, hBg⟩ := h
  obtain ⟨ap, cap, rfl, hc1, hc2⟩ := hv.parts
  obtain ⟨c0, c1, f0, f1⟩ := blk2 hg
  have HR := Lib.hid hR
  have hmin : (if (65536 : Int) < l.length then (65536 : Int) else l.length) = (min l.length 65536 : Nat) := by split <;> omega
  have hmin2 : min (l.length : Int) 65536 = (min l.length 65536 : Nat) := by omega
  have hidx : ∀ n, Calls Tryd.prog 42 #[.slice ap (min l.length 65536) cap, .int .u8 10] (w.drewN n) fun e w' => e = .returned (.int .i64 (fnd 10 l)) ∧ w' = w.drewN n := fun n => by
    have := pidx (.slice ap (min l.length 65536) cap) (l.take (min l.length 65536)) 10 10 rfl (w.drewN n) (BytesV.front (w := w.drewN n) hv _ (by omega))
    rw [take_min] at this
    exact this
  have hf2 := fun h0 => (fnd_lt (c := 10) (a := l) h0)
  have hM : line l = if fnd 10 l < 0 then (if 65536 < l.length then .wrong fLine else .wait) else match wordsA [] (bare (l.take (fnd 10 l).toNat)) with
      | none => .wrong fQuo
      | some L => if 1024 < L.length then .wrong fBadM else .ok (L, (fnd 10 l).toNat + 1) := by
    unfold line
    split
    · rfl
    · rcases wordsA [] (bare (l.take (fnd 10 l).toNat)) with _ | L <;> rfl
  generalize line l = MM at *
  have HM := Lib.hid hM.symm
  clear hM
  generalize hF : fnd 10 l = F at *
  generalize hm : min l.length 65536 = m at *
  have hm1 : m ≤ cap := by omega
  generalize hlen : List.length l = len at *
  have HLen := Lib.hid hlen
  by_cases h0 : F < 0
  · by_cases h1 : 65536 < len
    · obtain rfl : Got.wrong fLine = MM := by rw [← HM.out, if_pos h0, if_pos h1]
      clear hlen hF hm hf2 hv hB hBg hg hc2 hR hBw
      go_enter Tryd.func31, Tryd.ntmps31
      go_wp2
      go_quiet ((go_at_call 42; exact Calls.quiet_of_same (hidx _)))
      go_wp2
      exact ⟨rfl, ends_wrong HR.out ((Kept.refl _ w).drewN _)⟩
    · obtain rfl : Got.wait = MM := by rw [← HM.out, if_pos h0, if_neg h1]
      clear hlen hF hm hf2 hv hB hBg hg hc2 hR hBw
      go_enter Tryd.func31, Tryd.ntmps31
      go_wp2
      go_quiet ((go_at_call 42; exact Calls.quiet_of_same (hidx _)))
      go_wp2
      exact ⟨rfl, ends_wait HR.out ((Kept.refl _ w).drewN _)⟩
  · have hM2 := HM.out
    rw [if_neg h0] at hM2
    clear HM
    obtain ⟨i, rfl⟩ : ∃ i : Nat, F = i := ⟨F.toNat, by omega⟩
    obtain ⟨hi2, hi3⟩ := hf2 (by omega)
    have ei : ((i : Int)).toNat = i := Int.toNat_natCast i
    rw [ei] at hi2 hi3 hM2
    obtain ⟨k, hbare, hcases⟩ := bare_cases l i (by omega)
    rw [hbare] at hM2
    have HM := Lib.hid hM2
    clear hM2
    have HBw := Lib.hid hBw
    clear hF hm hf2 hv hB hBg hg hc2 hR hBw ei hbare
    have hskip : ∀ n (x : Int), x = (i : Int) + 1 → Calls Tryd.prog 43 #[.pointer (some ⟨g, 0, none⟩), .int .i64 x] (w.drewN n) fun e w' => ∃ v, e = .returned v ∧ BytesV w' v (l.take (i + 1)) ∧ vblk v = B ∧ RdAt w' g B (l.drop (i + 1)) (u + (i + 1)) ∧ Kept (fun k => k = g) (w.drewN n) w' := fun n x hx => by
      subst hx
      exact pskip g B l u (i + 1) (w.drewN n) (HR.out.keptNo ((Kept.refl _ w).drewN n)) (by rw [HLen.out]; omega) (by rw [HLen.out]; exact HLU.out)
    have hE0 := hE
    rcases hcases with ⟨rfl, rfl⟩ | ⟨j, rfl, hj, rfl⟩ | ⟨j, c, rfl, hj, hc, rfl⟩
    · have HS := Lib.hid hskip
      clear hskip h0 hE0
      go_enter Tryd.func31, Tryd.ntmps31
      go_wp2
      go_quiet ((go_at_call 42; exact Calls.quiet_of_same (hidx _)))
      go_wp2_with fail
      ((with_reducible refine (HS.out nq _ (by omega)).mono ?_))
      rintro e w2 ⟨v2, rfl, hb2, hB2, hR2, hk2⟩
      have hl2 : (l.take (0 + 1)).length = 0 + 1 := by rw [List.length_take, HLen.out]; omega
      obtain ⟨ap2, cap2, rfl, hcap2, _⟩ := hb2.parts
      rw [hl2] at *
      have HR2 := Lib.hid hR2
      have HK2 := Lib.hid (show Kept (fun k => k = g) w w2 from ((Kept.refl _ w).drewN nq).trans hk2)
      have hb3 : BytesV w2 (.slice ap2 0 cap2) (l.take 0) := by
        have := hb2.front 0 (by omega)
        rwa [List.take_take, Nat.min_eq_left (by omega)] at this
      have hE2 : Env W0 w2 := hE.step HK2.out (fun q hq e => by omega)
      have hcw := pwords (.slice ap2 0 cap2) B (l.take 0) w2 hE2.now hb3 ((vblk_slice _ _ _).trans ((vblk_slice ap2 _ cap2).symm.trans hB2)) (fun b e => Nat.lt_of_lt_of_le (HBw.out b e) HK2.out.size) (by rw [List.length_take]; omega)
      have HCW := Lib.hid hcw
      clear hl2 hb2 hB2 hR2 hk2 hb3 hE2 hcw c0 c1 f0 f1 hmin hmin2 hidx
      go_wp2_with fail
      ((with_reducible refine HCW.out.mono ?_))
      rintro e w3 ⟨hk3, hend⟩
      have HK3 := Lib.hid hk3
      generalize wordsA [] (l.take 0) = Z at *
      rcases Z with _ | L
      · obtain rfl : Got.wrong fQuo = MM := HM.out
        obtain rfl : e = .panicked (faultE fQuo) := hend
        exact ⟨rfl, ends_wrong2 (HR2.out.bx.keptNo HK3.out) (HK2.out.trans HK3.out.anyS)⟩
      · obtain ⟨v, rfl, hown⟩ := hend
        obtain ⟨apv, capv, rfl, _⟩ := ownsRow_form hown
        have HO := Lib.hid hown
        clear hown hk3 HCW
        by_cases hL : 1024 < L.length
        · obtain rfl : Got.wrong fBadM = MM := by have := HM.out; simp only [if_pos hL] at this; exact this
          clear HM
          go_wp2
          exact ⟨rfl, ends_wrong2 (HR2.out.bx.keptNo HK3.out) (HK2.out.trans HK3.out.anyS)⟩
        · have hM3 := HM.out
          simp only [if_neg hL] at hM3
          subst hM3
          clear HM
          go_wp2
          go_ret
          exact ⟨HK2.out.trans HK3.out.anyS, _, rfl, ownsRow_lower HO.out HK2.out.size, HR2.out.keptNo HK3.out⟩
    · have HS := Lib.hid hskip
      clear hskip h0 hE0
      go_enter Tryd.func31, Tryd.ntmps31
      go_wp2
      go_quiet ((go_at_call 42; exact Calls.quiet_of_same (hidx _)))
      go_wp2_with fail
      ((with_reducible refine (HS.out nq _ (by omega)).mono ?_))
      rintro e w2 ⟨v2, rfl, hb2, hB2, hR2, hk2⟩
      have hl2 : (l.take ((k + 1) + 1)).length = (k + 1) + 1 := by rw [List.length_take, HLen.out]; omega
      obtain ⟨ap2, cap2, rfl, hcap2, _⟩ := hb2.parts
      rw [hl2] at *
      have HR2 := Lib.hid hR2
      have HK2 := Lib.hid (show Kept (fun k => k = g) w w2 from ((Kept.refl _ w).drewN nq).trans hk2)
      have hb3 : BytesV w2 (.slice ap2 k cap2) (l.take k) := by
        have := hb2.front k (by omega)
        rwa [List.take_take, Nat.min_eq_left (by omega)] at this
      have hE2 : Env W0 w2 := hE.step HK2.out (fun q hq e => by omega)
      have hcw := pwords (.slice ap2 k cap2) B (l.take k) w2 hE2.now hb3 ((vblk_slice _ _ _).trans ((vblk_slice ap2 _ cap2).symm.trans hB2)) (fun b e => Nat.lt_of_lt_of_le (HBw.out b e) HK2.out.size) (by rw [List.length_take]; omega)
      have HCW := Lib.hid hcw
      have hd0 : ∃ ad2, ap2 = some ad2 ∧ w2.cell? (ad2.add k) = some (.int .u8 13) := by
        obtain ⟨ad2, e2, h2⟩ := RowV.cell hb2 (i := k) (v := bv 13) (by rw [List.getElem?_map, List.getElem?_take, if_pos (by omega), hj]; rfl)
        exact ⟨ad2, e2, h2⟩
      obtain ⟨ad2, rfl, hd⟩ := hd0
      clear hj
      clear hl2 hb2 hB2 hR2 hk2 hb3 hE2 hcw c0 c1 f0 f1 hmin hmin2 hidx
      go_wp2_with fail
      ((with_reducible refine HCW.out.mono ?_))
      rintro e w3 ⟨hk3, hend⟩
      have HK3 := Lib.hid hk3
      generalize wordsA [] (l.take k) = Z at *
      rcases Z with _ | L
      · obtain rfl : Got.wrong fQuo = MM := HM.out
        obtain rfl : e = .panicked (faultE fQuo) := hend
        exact ⟨rfl, ends_wrong2 (HR2.out.bx.keptNo HK3.out) (HK2.out.trans HK3.out.anyS)⟩
      · obtain ⟨v, rfl, hown⟩ := hend
        obtain ⟨apv, capv, rfl, _⟩ := ownsRow_form hown
        have HO := Lib.hid hown
        clear hown hk3 HCW
        by_cases hL : 1024 < L.length
        · obtain rfl : Got.wrong fBadM = MM := by have := HM.out; simp only [if_pos hL] at this; exact this
          clear HM
          go_wp2
          exact ⟨rfl, ends_wrong2 (HR2.out.bx.keptNo HK3.out) (HK2.out.trans HK3.out.anyS)⟩
        · have hM3 := HM.out
          simp only [if_neg hL] at hM3
          subst hM3
          clear HM
          go_wp2
          go_ret
          exact ⟨HK2.out.trans HK3.out.anyS, _, rfl, ownsRow_lower HO.out HK2.out.size, HR2.out.keptNo HK3.out⟩
    · have hc13 : ¬ (c.toNat : Int) = 13 := fun e => hc (UInt8.toNat_inj.1 (by show c.toNat = 13; omega))
      have HS := Lib.hid hskip
      clear hskip h0 hE0 hc
      go_enter Tryd.func31, Tryd.ntmps31
      go_wp2
      go_quiet ((go_at_call 42; exact Calls.quiet_of_same (hidx _)))
      go_wp2_with fail
      ((with_reducible refine (HS.out nq _ (by omega)).mono ?_))
      rintro e w2 ⟨v2, rfl, hb2, hB2, hR2, hk2⟩
      have hl2 : (l.take ((j + 1) + 1)).length = (j + 1) + 1 := by rw [List.length_take, HLen.out]; omega
      obtain ⟨ap2, cap2, rfl, hcap2, _⟩ := hb2.parts
      rw [hl2] at *
      have HR2 := Lib.hid hR2
      have HK2 := Lib.hid (show Kept (fun k => k = g) w w2 from ((Kept.refl _ w).drewN nq).trans hk2)
      have hb3 : BytesV w2 (.slice ap2 (j + 1) cap2) (l.take (j + 1)) := by
        have := hb2.front (j + 1) (by omega)
        rwa [List.take_take, Nat.min_eq_left (by omega)] at this
      have hE2 : Env W0 w2 := hE.step HK2.out (fun q hq e => by omega)
      have hcw := pwords (.slice ap2 (j + 1) cap2) B (l.take (j + 1)) w2 hE2.now hb3 ((vblk_slice _ _ _).trans ((vblk_slice ap2 _ cap2).symm.trans hB2)) (fun b e => Nat.lt_of_lt_of_le (HBw.out b e) HK2.out.size) (by rw [List.length_take]; omega)
      have HCW := Lib.hid hcw
      have hd0 : ∃ ad2, ap2 = some ad2 ∧ w2.cell? (ad2.add j) = some (.int .u8 c.toNat) := by
        obtain ⟨ad2, e2, h2⟩ := RowV.cell hb2 (i := j) (v := bv c) (by rw [List.getElem?_map, List.getElem?_take, if_pos (by omega), hj]; rfl)
        exact ⟨ad2, e2, h2⟩
      obtain ⟨ad2, rfl, hd⟩ := hd0
      clear hj
      clear hl2 hb2 hB2 hR2 hk2 hb3 hE2 hcw c0 c1 f0 f1 hmin hmin2 hidx
      go_wp2_with fail
      ((with_reducible refine HCW.out.mono ?_))
      rintro e w3 ⟨hk3, hend⟩
      have HK3 := Lib.hid hk3
      generalize wordsA [] (l.take (j + 1)) = Z at *
      rcases Z with _ | L
      · obtain rfl : Got.wrong fQuo = MM := HM.out
        obtain rfl : e = .panicked (faultE fQuo) := hend
        exact ⟨rfl, ends_wrong2 (HR2.out.bx.keptNo HK3.out) (HK2.out.trans HK3.out.anyS)⟩
      · obtain ⟨v, rfl, hown⟩ := hend
        obtain ⟨apv, capv, rfl, _⟩ := ownsRow_form hown
        have HO := Lib.hid hown
        clear hown hk3 HCW
        by_cases hL : 1024 < L.length
        · obtain rfl : Got.wrong fBadM = MM := by have := HM.out; simp only [if_pos hL] at this; exact this
          clear HM
          go_wp2
          exact ⟨rfl, ends_wrong2 (HR2.out.bx.keptNo HK3.out) (HK2.out.trans HK3.out.anyS)⟩
        · have hM3 := HM.out
          simp only [if_neg hL] at hM3
          subst hM3
          clear HM
          go_wp2
          go_ret
          exact ⟨HK2.out.trans HK3.out.anyS, _, rfl, ownsRow_lower HO.out HK2.out.size, HR2.out.keptNo HK3.out⟩
end Go.Proofs.YtdfkdbdhaaiadaaDoor
