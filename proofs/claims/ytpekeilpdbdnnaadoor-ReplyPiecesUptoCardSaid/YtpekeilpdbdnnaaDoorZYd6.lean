/- Merged: The reader, by the program: lines; The reader, by the program: counts, integers; The reader, by the program: bulks. -/
import Derived.Test.YtpekeilpdbdnnaaDoorZYd3
set_option linter.all false
namespace Go.Proofs.YtpekeilpdbdnnaaDoor
open Go.RowKit
attribute [local go_sem] fold_part fold_some fold_some' partAt_zero

def mapL (a : Bs) : Except Flt (Bs × Bs) → Except Flt (Bs × Bs)
  | .ok (s, t) => .ok (a ++ s, t)
  | .error e => .error e
theorem mapL_nil (x : Except Flt (Bs × Bs)) : mapL [] x = x := by
  cases x with
  | error e => rfl
  | ok v => obtain ⟨s, t⟩ := v; rfl
theorem lineO_next {k : Nat} {c : UInt8} {r a : Bs} (h13 : ¬ c = 13) (h10 : ¬ (c = 10 ∨ k = 0)) : mapL a (lineO k (c :: r)) = mapL (a ++ [c]) (lineO (k - 1) r) := by
  rw [lineO, if_neg h13, if_neg h10]
  cases lineO (k - 1) r with
  | error e => rfl
  | ok v => obtain ⟨s, t⟩ := v; simp [mapL]
theorem take_next {B r : Bs} {p p0 : Nat} {c : UInt8} (h : c :: r = B.drop p) (hp : p0 ≤ p) : (B.take (p + 1)).drop p0 = (B.take p).drop p0 ++ [c] := by
  have hc : B[p]? = some c := by
    have := congrArg List.head? h
    rw [List.head?_drop] at this
    exact this.symm
  have hl := (List.getElem?_eq_some_iff.1 hc).1
  rw [List.take_add_one, hc, List.drop_append_of_le_length (by rw [List.length_take]; omega)]
  rfl
theorem RdP.rest {w : World} {g : Nat} {B l : Bs} {p : Nat} (h : RdP w g B p l) : l = B.drop p := by
  obtain ⟨_, _, _, _, _, h⟩ := h; exact h

set_option maxRecDepth 100000 in
set_option maxHeartbeats 3200000 in
theorem pline_r (g : Nat) (B l : Bs) (w : World) (h : RdS w g B l) (hl : B.length ≤ 1000000000) :
    Calls Tryd.prog 33 #[.pointer (some ⟨g, 0, none⟩)] w (EndS g B (lineE l) retT w) := by
  obtain ⟨p0, h⟩ := h.toP
  obtain ⟨c1, f1⟩ := h.cell
  obtain ⟨hp0, _⟩ := h.le
  obtain ⟨M, hM⟩ : ∃ M, M = lineE l := ⟨_, rfl⟩
  rw [← hM]
  have HM := Lib.hid hM
  have HR := Lib.hid h
  have HBL := Lib.hid hl
  have hp09 : p0 ≤ 1000000000 := by omega
  clear hM h hl hp0
  go_enter Tryd.func33, Tryd.ntmps33
  go_wp2_with fail
  clear c1 f1
  go_loopw [] (fun wr => ∃ (q : Bs) (p : Nat), KG g w wr ∧ RdP wr g B p q ∧ p0 ≤ p ∧ p ≤ p0 + 65536 ∧ lineO 65536 l = mapL ((B.take p).drop p0) (lineO (65536 - (p - p0)) q)) (fun wr => B.length - posW wr g)
  case atStart => exact ⟨l, p0, (Kept.refl NoBlock w).kg g, HR.out, Nat.le_refl _, by omega, by rw [List.drop_of_length_le (by rw [List.length_take]; omega), mapL_nil, Nat.sub_self]⟩
  case round =>
    obtain ⟨q, p, hk, hq, hpp, hp2, hmod⟩ := hrel
    obtain ⟨hpB, hqlen⟩ := hq.le
    have hp9 : p ≤ 1000000000 := by have := HBL.out; omega
    have HNX := Lib.hid (pnext g B q wr hq.toS HBL.out)
    have HK := Lib.hid hk
    have HQ := Lib.hid hq
    have HMO := Lib.hid hmod
    clear hk hq hmod hpB hqlen
    go_wp2_with fail
    refine HNX.out.mono ?_
    rintro e w2 ⟨hk2, he⟩
    have HK2 := Lib.hid (HK.out.trans (hk2.kg g))
    have HQ2 := Lib.hid (HQ.out.kept hk2)
    have HPW := Lib.hid HQ.out.pos
    clear hk2 HNX
    cases q with
    | nil =>
      obtain rfl : e = .panicked (snapF B.length 31) := he
      have hMe : M = .error (0, true) := by rw [HM.out]; unfold lineE; rw [HMO.out, lineO]; rfl
      subst hMe
      exact ⟨rfl, HK2.out, rfl⟩
    | cons c r =>
      obtain rfl : e = .returned (.int .u8 c.toNat) := he
      have hrl := HQ2.out.le
      have HRL := Lib.hid hrl
      clear hrl
      by_cases h13 : c = 13
      · subst h13
        rw [show (((13 : UInt8).toNat : Int)) = 13 from rfl]
        obtain ⟨v, hg, hb, hbl, hpB, hqq⟩ := HQ2.out
        obtain ⟨ap, cap, rfl, hcp, _⟩ := hb.parts
        obtain ⟨c0, c1, f0, f1⟩ := blk2' hg
        have hpart := hb.part p0 p hpp hpB
        have hcv := fun n => conv_of (w := w2.drewN n) (hpart.kept ((Kept.refl NoBlock w2).drewN n) (fun _ _ h => h))
        obtain ⟨nB, hnB⟩ : ∃ n, n = B.length := ⟨_, rfl⟩
        rw [← hnB] at c0 hcp hpB
        have HS := Lib.hid hcv
        have HNB := Lib.hid hnB
        clear hg hb hbl hqq hpart hcv hnB
        go_wp2_with fail
        have hcv := HS.out
        go_quiet (fail)
        have HR3 := Lib.hid (HQ2.out.kept ((Kept.refl NoBlock w2).drewN nq))
        have HK3 := Lib.hid (HK2.out.trans (((Kept.refl NoBlock w2).drewN nq).kg g))
        generalize w2.drewN nq = w3 at *
        have HMU := Lib.hid (pmust g B (13 :: r) [13, 10] w3 HR3.out.toS HBL.out (by decide))
        unfold strV at HMU
        obtain ⟨s, hs⟩ : ∃ s, s = (B.take p).drop p0 := ⟨_, rfl⟩
        have hme : M = match unitB (mustsB [13, 10]) (13 :: r) with | .ok (_, t) => .ok (s, t) | .error e => .error e := by
          rw [HM.out]
          unfold lineE unitB
          rw [HMO.out, ← hs, musts_end]
          have : lineO (65536 - (p - p0)) (13 :: r) = .ok ([], 13 :: r) := by
            cases (65536 - (p - p0)) <;> rfl
          rw [this]
          simp only [mapL, List.append_nil]
          cases endB (13 :: r) <;> rfl
        rw [← hs] at HS ⊢
        have HME := Lib.hid hme
        clear hme hs c0 c1 f0 f1 hcv HS
        go_wp2_with fail
        refine HMU.out.mono ?_
        rintro e w4 ⟨hk4, he⟩
        have HK4 := Lib.hid (HK3.out.trans hk4)
        clear hk4
        cases hmu : unitB (mustsB [13, 10]) (13 :: r) with
        | error f =>
          rw [hmu] at he
          simp only at he
          subst he
          have hMe : M = .error f := by rw [HME.out, hmu]
          subst hMe
          exact ⟨rfl, HK4.out, rfl⟩
        | ok v =>
          obtain ⟨u, t⟩ := v
          rw [hmu] at he
          simp only at he
          obtain ⟨v, rfl, _, hr4⟩ := he
          have hMe : M = .ok (s, t) := by rw [HME.out, hmu]
          subst hMe
          have HR4 := Lib.hid hr4
          clear hr4 hmu
          go_wp2_with fail
          go_ret
          exact ⟨HK4.out, _, rfl, rfl, HR4.out⟩
      · have h13n : ¬ ((c.toNat : Int) = 13) := by
          have := u8_neI h13
          rw [show (((13 : UInt8).toNat : Int)) = 13 from rfl] at this
          exact this
        have HNX2 := Lib.hid (pnext g B (c :: r) w2 HQ2.out.toS HBL.out)
        have hrest := HQ2.out.rest
        have htn := take_next hrest hpp
        have HTN := Lib.hid htn
        clear htn hrest
        go_wp2_with fail
        refine HNX2.out.mono ?_
        rintro e w3 ⟨hk3, he⟩
        obtain rfl : e = .returned (.int .u8 c.toNat) := he
        have HK3 := Lib.hid (HK2.out.trans (hk3.kg g))
        have HQ3 := Lib.hid (HQ2.out.kept hk3)
        clear hk3 HNX2
        obtain ⟨c1, f1⟩ := HQ3.out.cell
        by_cases h10 : c = 10
        · subst h10
          rw [show (((10 : UInt8).toNat : Int)) = 10 from rfl]
          have hMe : M = .error (r.length + 1, false) := by
            rw [HM.out]; unfold lineE; rw [HMO.out, lineO, if_neg (by decide), if_pos (.inl rfl)]; rfl
          subst hMe
          have HW := Lib.hid (pwrong g B (10 :: r) w3 HQ3.out.toS)
          go_wp2_with fail
          refine HW.out.mono ?_
          rintro e w4 ⟨rfl, rfl⟩
          exact ⟨rfl, HK3.out, rfl⟩
        · have h10n : ¬ ((c.toNat : Int) = 10) := by
            have := u8_neI h10
            rw [show (((10 : UInt8).toNat : Int)) = 10 from rfl] at this
            exact this
          by_cases hful : p = p0 + 65536
          · have hMe : M = .error (r.length + 1, false) := by
              rw [HM.out]; unfold lineE; rw [HMO.out, lineO, if_neg h13, if_pos (.inr (by omega))]; rfl
            subst hMe
            have HW := Lib.hid (pwrong g B (c :: r) w3 HQ3.out.toS)
            have hsub : (((p : Int) - (p0 : Int)) == 65536) = true := by rw [show (p : Int) - (p0 : Int) = 65536 by omega]; rfl
            clear hful
            go_wp2_with fail
            refine HW.out.mono ?_
            rintro e w4 ⟨rfl, rfl⟩
            exact ⟨rfl, HK3.out, rfl⟩
          · have hsub : (((p : Int) - (p0 : Int)) == 65536) = false := by simp; omega
            have hst := HQ3.out.step
            have HST := Lib.hid hst.1
            have HKS := Lib.hid (HK3.out.trans hst.2)
            have hmo2 : lineO 65536 l = mapL ((B.take (p + 1)).drop p0) (lineO (65536 - (p + 1 - p0)) r) := by
              rw [HMO.out, HTN.out, lineO_next h13 (fun h => h.elim h10 (fun h => by omega)), show 65536 - (p + 1 - p0) = 65536 - (p - p0) - 1 by omega]
            have HMO2 := Lib.hid hmo2
            have hp3 : p + 1 ≤ p0 + 65536 := by omega
            have HP3 := Lib.hid hp3
            clear hst hmo2 h13 h10 hful hp3
            go_wp2_with fail
            go_roundw
            case rel => exact ⟨r, p + 1, HKS.out, HST.out, by omega, HP3.out, HMO2.out⟩
            case measure => rw [HST.out.pos, HPW.out]; have := HRL.out; simp at this; omega
end Go.Proofs.YtpekeilpdbdnnaaDoor
namespace Go.Proofs.YtpekeilpdbdnnaaDoor
open Go.RowKit
attribute [local go_sem] fold_part fold_some fold_some' partAt_zero

theorem digB_le {most : Nat} : ∀ (l : Bs) (n : Nat) (first : Bool) {u : Nat} {q : Bs}, n ≤ most → digB most l n first = .ok (u, q) → u ≤ most ∧ n ≤ u ∧ q.length ≤ l.length
  | [], n, first, u, q, hn, h => by rw [digB] at h; cases h
  | c :: r, n, first, u, q, hn, h => by
    by_cases hc : c < 48 ∨ 57 < c ∨ (first = false ∧ n = 0) ∨ most < n * 10 + (c.toNat - 48)
    · rw [digB_no hc] at h
      split at h
      · cases h
      · cases h; exact ⟨hn, Nat.le_refl _, Nat.le_refl _⟩
    · rw [digB_yes hc] at h
      have hm : n * 10 + (c.toNat - 48) ≤ most := Nat.le_of_not_lt fun h => hc (.inr (.inr (.inr h)))
      have := digB_le r _ false hm h
      refine ⟨this.1, by omega, ?_⟩
      rw [List.length_cons]
      omega
theorem numbB_le {most u : Nat} {l q : Bs} (h : numbB most l = .ok (u, q)) : u ≤ most := (digB_le l 0 true (Nat.zero_le _) h).1
theorem numbB_pos {most u : Nat} {c : UInt8} {r q : Bs} (h : numbB most (c :: r) = .ok (u, q)) (h0 : ¬ c = 48) : 1 ≤ u := by
  unfold numbB at h
  by_cases hc : c < 48 ∨ 57 < c ∨ (true = false ∧ 0 = 0) ∨ most < 0 * 10 + (c.toNat - 48)
  · rw [digB_no hc] at h; cases h
  · rw [digB_yes hc] at h
    have hm : 0 * 10 + (c.toNat - 48) ≤ most := Nat.le_of_not_lt fun h => hc (.inr (.inr (.inr h)))
    have h1 := (digB_le r _ false hm h).2.1
    have h2 : 48 ≤ c.toNat := by
      have : ¬ c.toNat < 48 := fun h => hc (.inl (UInt8.lt_iff_toNat_lt.2 h))
      omega
    have h3 : c.toNat ≠ 48 := fun e => h0 (UInt8.toNat_inj.1 e)
    omega
theorem u8n {c : UInt8} {k : Nat} (d : UInt8) (hd : d.toNat = k) (h : ¬ c = d) : ¬ ((c.toNat : Int) = (k : Int)) := by
  rw [← hd]; exact u8_neI h

theorem musts_two (a b : UInt8) (l : Bs) : mustsB [a, b] l = match mustB a l with | .error e => .error e | .ok r => mustB b r := by
  rw [mustsB]
  cases mustB a l with
  | error e => rfl
  | ok r =>
    simp only [mustsB]
    cases mustB b r <;> rfl
theorem unitB_ok {f : Bs → Except Flt Bs} {l t : Bs} {u : Unit} (h : unitB f l = .ok (u, t)) : f l = .ok t := by
  unfold unitB at h
  cases hf : f l with
  | error e => rw [hf] at h; cases h
  | ok r => rw [hf] at h; cases h; rfl
theorem unitB_err {f : Bs → Except Flt Bs} {l : Bs} {e : Flt} (h : unitB f l = .error e) : f l = .error e := by
  unfold unitB at h
  cases hf : f l with
  | error e => rw [hf] at h; cases h; rfl
  | ok r => rw [hf] at h; cases h

set_option maxRecDepth 100000 in
set_option maxHeartbeats 1600000 in
theorem pcount (g : Nat) (B l : Bs) (most : Nat) (w : World) (h : RdS w g B l) (hl : B.length ≤ 1000000000) (hm9 : 9 ≤ most) (hm : most ≤ 1000000000) :
    Calls Tryd.prog 57 #[.pointer (some ⟨g, 0, none⟩), .int .u64 most] w (EndS g B (countB most l) retC w) := by
  obtain ⟨M, hM⟩ : ∃ M, M = countB most l := ⟨_, rfl⟩
  rw [← hM]
  have HM := Lib.hid hM
  have HBL := Lib.hid hl
  have HNX := Lib.hid (pnext g B l w h hl)
  have HR := Lib.hid h
  clear hM h hl
  go_enter Tryd.func57, Tryd.ntmps57
  go_wp2_with fail
  refine HNX.out.mono ?_
  rintro e w2 ⟨hk2, he⟩
  have HK2 := Lib.hid (hk2.kg g)
  have HR2 := Lib.hid (HR.out.kept hk2)
  clear hk2 HNX
  cases l with
  | nil =>
    obtain rfl : e = .panicked (snapF B.length 31) := he
    have hMe : M = .error (0, true) := by rw [HM.out]; rfl
    subst hMe
    exact ⟨rfl, HK2.out, rfl⟩
  | cons c r =>
    obtain rfl : e = .returned (.int .u8 c.toNat) := he
    by_cases h45 : c = 45
    · subst h45
      rw [show (((45 : UInt8).toNat : Int)) = 45 from rfl]
      have HMU := Lib.hid (pmust g B (45 :: r) [45, 49] w2 HR2.out HBL.out (by decide))
      unfold strV at HMU
      go_wp2_with fail
      refine HMU.out.mono ?_
      rintro e w4 ⟨hk4, he⟩
      have HK4 := Lib.hid (HK2.out.trans hk4)
      clear hk4 HMU
      cases hmu : unitB (mustsB [45, 49]) (45 :: r) with
      | error f =>
        rw [hmu] at he
        simp only at he
        subst he
        have hMe : M = .error f := by
          have := unitB_err hmu
          rw [musts_two] at this
          rw [HM.out]
          unfold countB
          simp only [nextB, if_true]
          cases h1 : mustB 45 (45 :: r) with
          | error e => rw [h1] at this; cases this; rfl
          | ok q => rw [h1] at this; simp only at this; simp only [this]
        subst hMe
        exact ⟨rfl, HK4.out, rfl⟩
      | ok v =>
        obtain ⟨u, t⟩ := v
        rw [hmu] at he
        simp only at he
        obtain ⟨v, rfl, _, hr4⟩ := he
        have HMU := Lib.hid (pmust g B t [13, 10] w4 hr4 HBL.out (by decide))
        unfold strV at HMU
        have hme : M = match unitB (mustsB [13, 10]) t with | .ok (_, t) => .ok (none, t) | .error e => .error e := by
          have := unitB_ok hmu
          rw [musts_two] at this
          rw [HM.out]
          unfold countB unitB
          rw [musts_end]
          simp only [nextB, if_true]
          cases h1 : mustB 45 (45 :: r) with
          | error e => rw [h1] at this; cases this
          | ok q =>
            rw [h1] at this
            simp only at this
            simp only [this]
            cases endB t <;> rfl
        have HME := Lib.hid hme
        clear hr4 hmu hme
        go_wp2_with fail
        refine HMU.out.mono ?_
        rintro e w5 ⟨hk5, he⟩
        have HK5 := Lib.hid (HK4.out.trans hk5)
        clear hk5 HMU
        cases hmu : unitB (mustsB [13, 10]) t with
        | error f =>
          rw [hmu] at he
          simp only at he
          subst he
          have hMe : M = .error f := by rw [HME.out, hmu]
          subst hMe
          exact ⟨rfl, HK5.out, rfl⟩
        | ok v =>
          obtain ⟨u, t2⟩ := v
          rw [hmu] at he
          simp only at he
          obtain ⟨v, rfl, _, hr5⟩ := he
          have hMe : M = .ok (none, t2) := by rw [HME.out, hmu]
          subst hMe
          have HR5 := Lib.hid hr5
          clear hr5 hmu
          go_wp2_with fail
          go_ret
          exact ⟨HK5.out, _, rfl, rfl, HR5.out⟩
    · have h45n : ¬ ((c.toNat : Int) = 45) := u8n 45 rfl h45
      have HNU := Lib.hid (pnumber g B (c :: r) most w2 HR2.out HBL.out hm9 (by omega))
      go_wp2_with fail
      refine HNU.out.mono ?_
      rintro e w4 ⟨hk4, he⟩
      have HK4 := Lib.hid (HK2.out.trans hk4)
      clear hk4 HNU
      cases hmu : numbB most (c :: r) with
      | error f =>
        rw [hmu] at he
        simp only at he
        subst he
        have hMe : M = .error f := by
          rw [HM.out]
          unfold countB
          simp only [nextB, if_neg h45, hmu]
        subst hMe
        exact ⟨rfl, HK4.out, rfl⟩
      | ok v =>
        obtain ⟨n, t⟩ := v
        rw [hmu] at he
        simp only at he
        obtain ⟨v, rfl, rfl, hr4⟩ := he
        have hnm := numbB_le hmu
        have hn9 : n ≤ 1000000000 := by omega
        have HMU := Lib.hid (pmust g B t [13, 10] w4 hr4 HBL.out (by decide))
        unfold strV at HMU
        have hme : M = match unitB (mustsB [13, 10]) t with | .ok (_, t) => .ok (some n, t) | .error e => .error e := by
          rw [HM.out]
          unfold countB unitB
          rw [musts_end]
          simp only [nextB, if_neg h45, hmu]
          cases endB t <;> rfl
        have HME := Lib.hid hme
        clear hr4 hmu hme hnm
        go_wp2_with fail
        refine HMU.out.mono ?_
        rintro e w5 ⟨hk5, he⟩
        have HK5 := Lib.hid (HK4.out.trans hk5)
        clear hk5 HMU
        cases hmu : unitB (mustsB [13, 10]) t with
        | error f =>
          rw [hmu] at he
          simp only at he
          subst he
          have hMe : M = .error f := by rw [HME.out, hmu]
          subst hMe
          exact ⟨rfl, HK5.out, rfl⟩
        | ok v =>
          obtain ⟨u, t2⟩ := v
          rw [hmu] at he
          simp only at he
          obtain ⟨v, rfl, _, hr5⟩ := he
          have hMe : M = .ok (some n, t2) := by rw [HME.out, hmu]
          subst hMe
          have HR5 := Lib.hid hr5
          clear hr5 hmu
          go_wp2_with fail
          go_ret
          exact ⟨HK5.out, _, rfl, rfl, HR5.out⟩

set_option maxRecDepth 100000 in
set_option maxHeartbeats 1600000 in
theorem pinteger (g : Nat) (B l : Bs) (w : World) (h : RdS w g B l) (hl : B.length ≤ 1000000000) :
    Calls Tryd.prog 34 #[.pointer (some ⟨g, 0, none⟩)] w (EndS g B (integerB l) retI w) := by
  obtain ⟨M, hM⟩ : ∃ M, M = integerB l := ⟨_, rfl⟩
  rw [← hM]
  have HM := Lib.hid hM
  have HBL := Lib.hid hl
  have HNX := Lib.hid (pnext g B l w h hl)
  have HR := Lib.hid h
  clear hM h hl
  go_enter Tryd.func34, Tryd.ntmps34
  go_wp2_with fail
  refine HNX.out.mono ?_
  rintro e w2 ⟨hk2, he⟩
  have HK2 := Lib.hid (hk2.kg g)
  have HR2 := Lib.hid (HR.out.kept hk2)
  clear hk2 HNX
  cases l with
  | nil =>
    obtain rfl : e = .panicked (snapF B.length 31) := he
    have hMe : M = .error (0, true) := by rw [HM.out]; rfl
    subst hMe
    exact ⟨rfl, HK2.out, rfl⟩
  | cons c r =>
    obtain rfl : e = .returned (.int .u8 c.toNat) := he
    by_cases h45 : c = 45
    · subst h45
      rw [show (((45 : UInt8).toNat : Int)) = 45 from rfl]
      obtain ⟨p, c1, f1, hp9, hnext, hkg⟩ := HR2.out.step HBL.out
      have HK3 := Lib.hid (HK2.out.trans hkg)
      have HR3 := Lib.hid hnext
      have HNX := Lib.hid (pnext g B r _ hnext HBL.out)
      clear hnext hkg
      go_wp2_with fail
      refine HNX.out.mono ?_
      rintro e w4 ⟨hk4, he⟩
      have HK4 := Lib.hid (HK3.out.trans (hk4.kg g))
      have HR4 := Lib.hid (HR3.out.kept hk4)
      clear hk4 HNX
      cases r with
      | nil =>
        obtain rfl : e = .panicked (snapF B.length 31) := he
        have hMe : M = .error (0, true) := by rw [HM.out]; rfl
        subst hMe
        exact ⟨rfl, HK4.out, rfl⟩
      | cons d r2 =>
        obtain rfl : e = .returned (.int .u8 d.toNat) := he
        by_cases h48 : d = 48
        · subst h48
          rw [show (((48 : UInt8).toNat : Int)) = 48 from rfl]
          have HW := Lib.hid (pwrong g B (48 :: r2) w4 HR4.out)
          have hMe : M = .error (r2.length + 1, false) := by rw [HM.out]; rfl
          subst hMe
          go_wp2_with fail
          refine HW.out.mono ?_
          rintro e w5 ⟨rfl, rfl⟩
          exact ⟨rfl, HK4.out, rfl⟩
        · have h48n : ¬ ((d.toNat : Int) = 48) := u8n 48 rfl h48
          have hnu := pnumber g B (d :: r2) 9223372036854775808 w4 HR4.out HBL.out (by decide) (by decide)
          rw [show (((9223372036854775808 : Nat) : Int)) = 9223372036854775808 from rfl] at hnu
          have HNU := Lib.hid hnu
          clear hnu
          go_wp2_with fail
          refine HNU.out.mono ?_
          rintro e w5 ⟨hk5, he⟩
          have HK5 := Lib.hid (HK4.out.trans hk5)
          clear hk5 HNU
          cases hmu : numbB 9223372036854775808 (d :: r2) with
          | error f =>
            rw [hmu] at he
            simp only at he
            subst he
            have hMe : M = .error f := by
              rw [HM.out]
              unfold integerB
              simp only [nextB, if_true, List.drop_succ_cons, List.drop_zero, if_neg h48, hmu]
            subst hMe
            exact ⟨rfl, HK5.out, rfl⟩
          | ok v =>
            obtain ⟨n, t⟩ := v
            rw [hmu] at he
            simp only at he
            obtain ⟨v, rfl, rfl, hr5⟩ := he
            have hn1 := numbB_le hmu
            have hn2 := numbB_pos hmu h48
            have hMe : M = .ok (-(n : Int), t) := by
              rw [HM.out]
              unfold integerB
              simp only [nextB, if_true, List.drop_succ_cons, List.drop_zero, if_neg h48, hmu]
            subst hMe
            have HR5 := Lib.hid hr5
            clear hr5 hmu
            go_wp2_with fail
            go_ret
            refine ⟨HK5.out, _, rfl, ?_, HR5.out⟩
            unfold retI
            show (Value.int .i64 (-((n : Int) - 1) - 1)) = .int .i64 (-(n : Int))
            congr 1
            omega
    · have h45n : ¬ ((c.toNat : Int) = 45) := u8n 45 rfl h45
      have hnu := pnumber g B (c :: r) 9223372036854775807 w2 HR2.out HBL.out (by decide) (by decide)
      rw [show (((9223372036854775807 : Nat) : Int)) = 9223372036854775807 from rfl] at hnu
      have HNU := Lib.hid hnu
      clear hnu
      go_wp2_with fail
      refine HNU.out.mono ?_
      rintro e w5 ⟨hk5, he⟩
      have HK5 := Lib.hid (HK2.out.trans hk5)
      clear hk5 HNU
      cases hmu : numbB 9223372036854775807 (c :: r) with
      | error f =>
        rw [hmu] at he
        simp only at he
        subst he
        have hMe : M = .error f := by
          rw [HM.out]
          unfold integerB
          simp only [nextB, if_neg h45, hmu]
        subst hMe
        exact ⟨rfl, HK5.out, rfl⟩
      | ok v =>
        obtain ⟨n, t⟩ := v
        rw [hmu] at he
        simp only at he
        obtain ⟨v, rfl, rfl, hr5⟩ := he
        have hn1 := numbB_le hmu
        have hMe : M = .ok ((n : Int), t) := by
          rw [HM.out]
          unfold integerB
          simp only [nextB, if_neg h45, hmu]
        subst hMe
        have HR5 := Lib.hid hr5
        clear hr5 hmu
        go_wp2_with fail
        go_ret
        exact ⟨HK5.out, _, rfl, rfl, HR5.out⟩
end Go.Proofs.YtpekeilpdbdnnaaDoor
namespace Go.Proofs.YtpekeilpdbdnnaaDoor
open Go.RowKit
attribute [local go_sem] fold_part fold_some fold_some' partAt_zero

/-- A reply that a call has made, in blocks of its own. -/
def retM (b : Nat) (x : Rep) (v : Value) (w : World) : Prop := ∃ m, v = repA m ∧ m.rep = x ∧ GoodM w (fun j => b ≤ j) m ∧ FitM m
theorem fit_leaf (k : Int) (s : Bs) (n : Int) (h0 : -9223372036854775808 ≤ n) (h1 : n ≤ 9223372036854775807) (hs : s.length ≤ 1000000000000000) : FitM (leafM k s n) := .mk _ h0 h1 hs (by simp [leafM, RepM.l]) (fun x hx => by cases hx)
theorem ret_leaf (b : Nat) (k : Int) (s : Bs) (n : Int) (w : World) (h0 : -9223372036854775808 ≤ n) (h1 : n ≤ 9223372036854775807) (hs : s.length ≤ 1000000000000000) : retM b (.mk k s n []) (.agg #[.int .i64 k, strV s, .int .i64 n, .slice none 0 0]) w :=
  ⟨leafM k s n, rfl, rfl, leafM_good _ _ _ _ _, fit_leaf k s n h0 h1 hs⟩
theorem set4 {w : World} {g : Nat} {a b c d : Value} {T : TypeId} (hg : w.heap[g]? = some (.cells #[a, b, c, d] T (0, 0))) (a' b' c' d' : Value) :
    ((((w.setCell ⟨g, 0, none⟩ a').setCell ⟨g, 1, none⟩ b').setCell ⟨g, 2, none⟩ c').setCell ⟨g, 3, none⟩ d').heap[g]? = some (.cells #[a', b', c', d'] T (0, 0)) ∧
    Kept (fun k => k = g) w ((((w.setCell ⟨g, 0, none⟩ a').setCell ⟨g, 1, none⟩ b').setCell ⟨g, 2, none⟩ c').setCell ⟨g, 3, none⟩ d') := by
  refine ⟨heap_setCell_same (heap_setCell_same (heap_setCell_same (heap_setCell_same hg 0 a') 1 b') 2 c') 3 d', ?_⟩
  exact Kept.setCell (S := fun k => k = g) (p := ⟨g, 3, none⟩) (Kept.setCell (S := fun k => k = g) (p := ⟨g, 2, none⟩) (Kept.setCell (S := fun k => k = g) (p := ⟨g, 1, none⟩) (Kept.setCell (S := fun k => k = g) (p := ⟨g, 0, none⟩) (Kept.refl _ w) (fun _ => rfl) _) (fun _ => rfl) _) (fun _ => rfl) _) (fun _ => rfl) _
def Z4 (b : Nat) (w : World) : Prop := w.heap[b]? = some (.cells #[.int .i64 0, .string ⟨#[]⟩, .int .i64 0, .slice none 0 0] 26 (0, 0))
theorem Z4.keptS {S : Nat → Prop} {b : Nat} {w w' : World} (h : Z4 b w) (hk : Kept S w w') (hS : ¬ S b) : Z4 b w' := hk.heap h hS
/-- A leaf is handed back: its box was stored. -/
theorem lend {g b : Nat} {B r : Bs} {w w3 : World} {k : Int} {s : Bs} {n : Int} (h : KG g w w3) (hr : RdS w3 g B r) (hgb : g < b) (hb : w.heap.size = b) (hz : Z4 b w3) (h0 : -9223372036854775808 ≤ n) (h1 : n ≤ 9223372036854775807) (hs : s.length ≤ 1000000000000000) :
    EndS g B (.ok (.mk k s n [], r)) (retM b) w (.returned (.agg #[.int .i64 k, strV s, .int .i64 n, .slice none 0 0])) ((((w3.setCell ⟨b, 0, none⟩ (.int .i64 k)).setCell ⟨b, 1, none⟩ (strV s)).setCell ⟨b, 2, none⟩ (.int .i64 n)).setCell ⟨b, 3, none⟩ (.slice none 0 0)) := by
  have hk := (set4 hz (.int .i64 k) (strV s) (.int .i64 n) (.slice none 0 0)).2
  exact ⟨Kept.trans' h hk (fun i hi e => by omega), _, rfl, ret_leaf b k s n _ h0 h1 hs, hr.keptS hk (fun i hi e => by omega)⟩
theorem RdP.skip {w : World} {g : Nat} {B r : Bs} {p : Nat} (h : RdP w g B p r) (n : Nat) (hn : n ≤ r.length) : RdP (w.setCell ⟨g, 1, none⟩ (.int .i64 ((p : Int) + n))) g B (p + n) (r.drop n) ∧ KG g w (w.setCell ⟨g, 1, none⟩ (.int .i64 ((p : Int) + n))) := by
  obtain ⟨v, hg, hb, hbl, hp, rfl⟩ := h
  rw [List.length_drop] at hn
  have hkg := kg_set (w := w) g 1 (.int .i64 ((p : Int) + n))
  exact ⟨⟨v, heap_setCell_same hg 1 _, hb.kept hkg (fun b e h => by have := hbl b e; omega), hbl, by omega, List.drop_drop⟩, hkg⟩
theorem bulk_eq (l : Bs) : bulkE l = match countB 65536 l with
  | .error e => .error e
  | .ok (none, q) => .ok (.mk 5 [] 0 [], q)
  | .ok (some n, q) => if q.length < n then .error (0, true) else match unitB (mustsB [13, 10]) (q.drop n) with | .error e => .error e | .ok (_, r) => .ok (.mk 4 (q.take n) 0 [], r) := by
  unfold bulkE
  cases countB 65536 l with
  | error e => rfl
  | ok v =>
    obtain ⟨o, q⟩ := v
    cases o with
    | none => rfl
    | some n =>
      simp only
      by_cases h : q.length < n
      · rw [if_pos h, if_pos h]
      · rw [if_neg h, if_neg h]
        unfold unitB
        rw [musts_end]
        cases endB (q.drop n) <;> rfl
theorem countB_le {most n : Nat} {l q : Bs} (h : countB most l = .ok (some n, q)) : n ≤ most := by
  unfold countB at h
  cases l with
  | nil => cases h
  | cons c r =>
    simp only [nextB] at h
    by_cases h45 : c = 45
    · simp only [if_pos h45] at h
      cases h1 : mustB 45 (c :: r) with
      | error e => rw [h1] at h; cases h
      | ok q1 =>
        rw [h1] at h
        simp only at h
        cases h2 : mustB 49 q1 with
        | error e => rw [h2] at h; cases h
        | ok q2 =>
          rw [h2] at h
          simp only at h
          cases h3 : endB q2 with
          | error e => rw [h3] at h; cases h
          | ok q3 => rw [h3] at h; cases h
    · simp only [if_neg h45] at h
      cases h1 : numbB most (c :: r) with
      | error e => rw [h1] at h; cases h
      | ok v =>
        obtain ⟨u, q1⟩ := v
        rw [h1] at h
        simp only at h
        cases h3 : endB q1 with
        | error e => rw [h3] at h; cases h
        | ok q3 =>
          rw [h3] at h
          cases h
          exact numbB_le h1

set_option maxRecDepth 100000 in
set_option maxHeartbeats 3200000 in
theorem pbulk (g : Nat) (B l : Bs) (w : World) (h : RdS w g B l) (hl : B.length ≤ 1000000000) :
    Calls Tryd.prog 36 #[.pointer (some ⟨g, 0, none⟩)] w (EndS g B (bulkE l) (retM w.heap.size) w) := by
  rw [bulk_eq]
  generalize hM : (match countB 65536 l with
  | .error e => .error e
  | .ok (none, q) => .ok (.mk 5 [] 0 [], q)
  | .ok (some n, q) => if q.length < n then .error (0, true) else match unitB (mustsB [13, 10]) (q.drop n) with | .error e => .error e | .ok (_, r) => .ok (.mk 4 (q.take n) 0 [], r) : Except Flt (Rep × Bs)) = M
  have HM := Lib.hid hM
  have HBL := Lib.hid hl
  have hka := Kept.allocd w (.cells #[.int .i64 0, .string ⟨#[]⟩, .int .i64 0, .slice none 0 0] 26)
  have hza : Z4 w.heap.size (w.alloc (.cells #[.int .i64 0, .string ⟨#[]⟩, .int .i64 0, .slice none 0 0] 26)) := heap_alloc_new w _
  have hgb := h.lt
  have hc := pcount g B l 65536 _ (h.kept hka) hl (by decide) (by decide)
  rw [show (((65536 : Nat) : Int)) = 65536 from rfl] at hc
  have HC := Lib.hid hc
  have HKA := Lib.hid hka
  have HZA := Lib.hid hza
  clear hM h hl hka hza hc
  go_enter Tryd.func36, Tryd.ntmps36
  go_wp2_with fail
  generalize w.alloc (.cells #[.int .i64 0, .string ⟨#[]⟩, .int .i64 0, .slice none 0 0] 26) = W1 at *
  generalize hb : w.heap.size = b at *
  have HB := Lib.hid hb
  clear hb
  refine HC.out.mono ?_
  rintro e w2 ⟨hk2, he⟩
  have HK2 := Lib.hid ((HKA.out.kg g).trans hk2)
  have HZ2 := Lib.hid (HZA.out.keptS hk2 (by omega))
  clear hk2 HC HKA HZA
  have hm := HM.out
  cases hcb : countB 65536 l with
  | error f =>
    rw [hcb] at he hm
    simp only at he hm
    subst he hm
    exact ⟨rfl, HK2.out, rfl⟩
  | ok v =>
    obtain ⟨o, q⟩ := v
    rw [hcb] at he hm
    simp only at he hm
    obtain ⟨v, rfl, rfl, hr2⟩ := he
    cases o with
    | none =>
      simp only at hm
      subst hm
      have HR2 := Lib.hid hr2
      obtain ⟨e0, e1, e2, e3⟩ := blk4 HZ2.out
      have hz4 := fun i => frozenB HZ2.out i
      have HS4 := Lib.hid (set4 HZ2.out (.int .i64 5) (.string ⟨#[]⟩) (.int .i64 0) (.slice none 0 0))
      clear hr2 hcb HM
      go_wp2_with fail
      refine bodyPost_ret (v := .agg #[.int .i64 5, .string ⟨#[]⟩, .int .i64 0, .slice none 0 0]) ((results_cell rfl _ _ _).trans ?_) rfl ?_
      · obtain ⟨f0, f1, f2, f3⟩ := blk4 HS4.out.1
        generalize ((((w2.setCell ⟨b, 0, none⟩ (.int .i64 5)).setCell ⟨b, 1, none⟩ (.string ⟨#[]⟩)).setCell ⟨b, 2, none⟩ (.int .i64 0)).setCell ⟨b, 3, none⟩ (.slice none 0 0)) = W6 at *
        go_simp
      · exact lend (s := []) HK2.out HR2.out hgb HB.out HZ2.out (by decide) (by decide) (by simp)
    | some n =>
      simp only at hm
      have hn := countB_le hcb
      obtain ⟨p, hp⟩ := hr2.toP
      have HP := Lib.hid hp
      obtain ⟨v, hg, hbv, hbl, hpB, hqq⟩ := hp
      obtain ⟨ap, cap, rfl, hcp, _⟩ := hbv.parts
      obtain ⟨c0, c1, f0, f1⟩ := blk2' hg
      have hql : q.length = B.length - p := by rw [hqq, List.length_drop]
      obtain ⟨nB, hnB⟩ : ∃ n, n = B.length := ⟨_, rfl⟩
      have hnB9 : nB ≤ 1000000000 := by have := HBL.out; omega
      rw [← hnB] at c0 hcp hpB hql
      have HMM := Lib.hid hm
      have HR2 := Lib.hid hr2
      have HNB := Lib.hid hnB
      have HQL := Lib.hid hql
      have HQQ := Lib.hid hqq
      by_cases hsh : q.length < n
      · rw [if_pos hsh] at hm
        subst hm
        have hsh2 : nB - p < n := by omega
        have hdec : decide ((nB : Int) - (p : Int) < (n : Int)) = true := decide_eq_true (by omega)
        clear hg hbv hbl hqq hql hr2 hcb HM hsh
        go_wp2_with fail
        go_quiet (fail)
        go_wp2_with fail
        refine ⟨rfl, HK2.out.trans (((Kept.refl NoBlock w2).drewN nq).kg g), ?_⟩
        rfl
      · rw [if_neg hsh] at hm
        have hsh2 : n ≤ nB - p := by omega
        have hdec : decide ((nB : Int) - (p : Int) < (n : Int)) = false := decide_eq_false (by omega)
        have HMM := Lib.hid hm
        clear hg hbv hbl hqq hql hnB hr2 hcb HM hsh hm
        go_wp2_with fail
        go_quiet (fail)
        have hk0 := (Kept.refl NoBlock w2).drewN nq
        have HP3 := Lib.hid (HP.out.kept hk0)
        have HK3 := Lib.hid (HK2.out.trans (hk0.kg g))
        have HZ3 := Lib.hid (HZ2.out.keptS hk0 (fun h => h))
        generalize w2.drewN nq = w3 at *
        clear hdec hk0 c0 c1 f0 f1 HR2 HK2 HZ2 HP
        obtain ⟨v, hg, hbv, hbl, hpB2, hqq⟩ := HP3.out
        obtain ⟨ap, cap, rfl, hcp2, _⟩ := hbv.parts
        obtain ⟨c0, c1, f0, f1⟩ := blk2' hg
        have hpart := hbv.part p (p + n) (by omega) (by have := HNB.out; omega)
        rw [Nat.add_sub_cancel_left, List.drop_take, Nat.add_sub_cancel_left, ← hqq] at hpart
        have hcv := fun n0 => conv_of (w := w3.drewN n0) (hpart.kept ((Kept.refl NoBlock w3).drewN n0) (fun _ _ h => h))
        rw [← HNB.out] at c0 hcp2
        have HS := Lib.hid hcv
        have hql := HQL.out
        have hsk := fun n0 => (HP3.out.kept ((Kept.refl NoBlock w3).drewN n0)).skip n (by omega)
        have HSK := Lib.hid hsk
        have hp9 : p ≤ 1000000000 := by omega
        have hpn : (p : Int) + (n : Int) ≤ (nB : Int) := by omega
        clear hg hbv hbl hqq hpart hcv hpB2 hql hsk
        go_wp2_with fail
        have hcv := HS.out
        go_quiet (fail)
        clear hcv HS
        have hk0 := (Kept.refl NoBlock w3).drewN nq
        have hc1 : (w3.drewN nq).cell? ⟨g, 1, none⟩ = some (.int .i64 p) := c1
        have hf1 : (w3.drewN nq).frozen? ⟨g, 1, none⟩ = false := f1
        have hsk := HSK.out nq
        have HP4 := Lib.hid hsk.1
        have HK4 := Lib.hid (HK3.out.trans ((hk0.kg g).trans hsk.2))
        have HZ4 := Lib.hid ((HZ3.out.keptS hk0 (fun h => h)).keptS hsk.2 (by omega))
        generalize w3.drewN nq = w4 at *
        clear c0 c1 f0 f1 hk0 hsk HSK HK3 HZ3 HP3
        have HMU := Lib.hid (pmust g B (q.drop n) [13, 10] _ HP4.out.toS HBL.out (by decide))
        unfold strV at HMU
        obtain ⟨s, hs⟩ : ∃ s, s = q.take n := ⟨_, rfl⟩
        have hsl : s.length ≤ 1000000000 := by rw [hs, List.length_take]; omega
        rw [← hs] at HMM ⊢
        clear hs
        go_wp2_with fail
        refine HMU.out.mono ?_
        rintro e w5 ⟨hk5, he⟩
        have HK5 := Lib.hid (HK4.out.trans hk5)
        have HZ5 := Lib.hid (HZ4.out.keptS hk5 (by omega))
        clear hk5
        have hm := HMM.out
        cases hmu : unitB (mustsB [13, 10]) (q.drop n) with
        | error f =>
          rw [hmu] at he hm
          simp only at he hm
          subst he hm
          exact ⟨rfl, HK5.out, rfl⟩
        | ok v =>
          obtain ⟨u, t2⟩ := v
          rw [hmu] at he hm
          simp only at he hm
          obtain ⟨v, rfl, _, hr5⟩ := he
          subst hm
          have HR5 := Lib.hid hr5
          obtain ⟨e0, e1, e2, e3⟩ := blk4 HZ5.out
          have hz4 := fun i => frozenB HZ5.out i
          have HS4 := Lib.hid (set4 HZ5.out (.int .i64 4) (.string ⟨s.toArray⟩) (.int .i64 0) (.slice none 0 0))
          clear hr5 hmu HMM
          go_wp2_with fail
          refine bodyPost_ret (v := .agg #[.int .i64 4, .string ⟨s.toArray⟩, .int .i64 0, .slice none 0 0]) ((results_cell rfl _ _ _).trans ?_) rfl ?_
          · obtain ⟨f0, f1, f2, f3⟩ := blk4 HS4.out.1
            generalize ((((w5.setCell ⟨b, 0, none⟩ (.int .i64 4)).setCell ⟨b, 1, none⟩ (.string ⟨s.toArray⟩)).setCell ⟨b, 2, none⟩ (.int .i64 0)).setCell ⟨b, 3, none⟩ (.slice none 0 0)) = W6 at *
            go_simp
          · exact lend HK5.out HR5.out hgb HB.out HZ5.out (by decide) (by decide) (by omega)
end Go.Proofs.YtpekeilpdbdnnaaDoor
