/- The document's number of a text. -/
import Derived.Test.YtdfkdbdhaaiadaaDoorN7
import Derived.Test.YtdfkdbdhaaiadaaDoorBase
namespace Go.Proofs.YtdfkdbdhaaiadaaDoor
open Go.RowKit

theorem nrdigit (c : Nat) (w : World) (hc : c ≤ 255) : Calls Tryd.prog 45 #[.int .u8 c] w fun e w' => e = .returned (.bool (decide (48 ≤ c) && decide (c ≤ 57))) ∧ w = w' := by
  rcases Nat.lt_or_ge c 48 with h1 | h1
  · have e : (decide (48 ≤ c) && decide (c ≤ 57)) = false := by simp; omega
    rw [e]
    have h1' : ¬ (48 ≤ (c : Int)) := by omega
    go_enter Tryd.func45, Tryd.ntmps45
    go_wp2
    go_ret
    exact ⟨rfl, rfl⟩
  · rcases Nat.lt_or_ge 57 c with h2 | h2
    · have e : (decide (48 ≤ c) && decide (c ≤ 57)) = false := by simp; omega
      rw [e]
      have h1' : (48 ≤ (c : Int)) := by omega
      have h2' : ¬ ((c : Int) ≤ 57) := by omega
      go_enter Tryd.func45, Tryd.ntmps45
      go_wp2
      go_ret
      exact ⟨by simp, rfl⟩
    · have e : (decide (48 ≤ c) && decide (c ≤ 57)) = true := by simp; omega
      rw [e]
      have h1' : (48 ≤ (c : Int)) := by omega
      have h2' : ((c : Int) ≤ 57) := by omega
      go_enter Tryd.func45, Tryd.ntmps45
      go_wp2
      go_ret
      exact ⟨by simp, rfl⟩

/-- The part behind the sign: digit by digit, below zero. -/
def tryDigits (n : Int) : List UInt8 → Option Int
  | [] => some n
  | c :: r => if 48 ≤ c.toNat ∧ c.toNat ≤ 57 then (if n * 10 - (c.toNat - 48 : Nat) < -9223372036854775808 then none else tryDigits (n * 10 - (c.toNat - 48 : Nat)) r) else none

def signed (l : List UInt8) : Bool := match l with | c :: _ => c.toNat == 45 | [] => false
def behind (l : List UInt8) : List UInt8 := if signed l then l.drop 1 else l
def badHead (b : Bool) (d : List UInt8) : Bool := match d with | [] => true | c :: r => c.toNat == 48 && (b || decide (0 < r.length))
def refV (l : List UInt8) : Int × Int :=
  if badHead (signed l) (behind l) then (0, 10) else
    match tryDigits 0 (behind l) with
    | none => (0, 10)
    | some n => if signed l then (n, 0) else if n = -9223372036854775808 then (0, 10) else (-n, 0)

theorem refV_bad {l : List UInt8} (h : badHead (signed l) (behind l) = true) : refV l = (0, 10) := by unfold refV; rw [h]; rfl
theorem refV_none {l : List UInt8} (h : badHead (signed l) (behind l) = false) (ht : tryDigits 0 (behind l) = none) : refV l = (0, 10) := by unfold refV; rw [h, ht]; rfl
theorem refV_neg {l : List UInt8} (h : badHead (signed l) (behind l) = false) {n : Int} (ht : tryDigits 0 (behind l) = some n) (hs : signed l = true) : refV l = (n, 0) := by unfold refV; rw [h, ht, hs]; rfl
theorem refV_min {l : List UInt8} (h : badHead (signed l) (behind l) = false) {n : Int} (ht : tryDigits 0 (behind l) = some n) (hs : signed l = false) (hn : n = -9223372036854775808) : refV l = (0, 10) := by
  unfold refV; rw [h, ht, hs]; subst hn; rfl
theorem refV_pos {l : List UInt8} (h : badHead (signed l) (behind l) = false) {n : Int} (ht : tryDigits 0 (behind l) = some n) (hs : signed l = false) (hn : n ≠ -9223372036854775808) : refV l = (-n, 0) := by
  unfold refV; rw [h, ht, hs]; simp [hn]

theorem try_step {l : List UInt8} {acc : Int} {j : Nat} {t : Option Int} (h : t = tryDigits acc (l.drop j)) (hj : j < l.length) : t = tryDigits acc (l[j] :: l.drop (j + 1)) := by
  rw [h, List.drop_eq_getElem_cons hj]

theorem quo_low (k : Nat) (hk : k ≤ 9) : ∃ Q : Int, (-9223372036854775808 + (k : Int)).tdiv 10 = Q ∧ -922337203685477580 ≤ Q ∧ Q ≤ -922337203685477579 ∧ ∀ acc : Int, acc < Q ↔ acc * 10 - k < -9223372036854775808 := by
  refine ⟨_, rfl, ?_⟩
  have e : (-9223372036854775808 + (k : Int)).tdiv 10 = -(((9223372036854775808 - k) / 10 : Nat) : Int) := by
    rw [show (-9223372036854775808 + (k : Int)) = -((9223372036854775808 - k : Nat) : Int) by omega, Int.neg_tdiv]
    rfl
  rw [e]
  refine ⟨by omega, by omega, fun acc => by omega⟩

theorem byte_at (D : ByteArray) (j : Nat) (h : j < D.size) : ∃ hl : j < D.data.toList.length, (D[j]'h) = D.data.toList[j] := ⟨by have := Lib.size_eq D; omega, rfl⟩

set_option maxHeartbeats 6400000 in
theorem nrparse (s : ByteArray) (hs : s.size ≤ 1000000) (w : World) : Calls Tryd.prog 33 #[.string s] w fun e w' => e = .returned (.tuple #[.int .i64 (refV s.data.toList).1, .int .i64 (refV s.data.toList).2]) ∧ w = w' := by
  have hLs : s.data.toList.length = s.size := (Lib.size_eq s).symm
  have hTL : s.toList = s.data.toList := Go.ByteArray.toList_eq s
  by_cases h0 : s.size = 0
  · have hl : s.data.toList = [] := List.eq_nil_of_length_eq_zero (by omega)
    have HR := Lib.hid (refV_bad (l := s.data.toList) (by rw [hl]; rfl))
    have hnil : s.toList = [] := by rw [hTL, hl]
    clear hl hLs hTL
    go_enter Tryd.func33, Tryd.ntmps33
    go_wp2
    go_ret2
    exact ⟨(by rw [HR.out]; rfl), rfl⟩
  · have hpos : 0 < s.size := by omega
    obtain ⟨ch, r, hl⟩ : ∃ ch r, s.data.toList = ch :: r := by
      cases h : s.data.toList with
      | nil => rw [h] at hLs; simp at hLs; omega
      | cons a b => exact ⟨a, b, rfl⟩
    have hne : ¬ (s.toList = []) := by rw [hTL, hl]; simp
    have hie : s.toList.isEmpty = false := by rw [hTL, hl]; rfl
    have hch : (s[0]'hpos) = ch := by
      obtain ⟨hx, e⟩ := byte_at s 0 hpos
      rw [e]; simp [hl]
    obtain ⟨c, hc⟩ : ∃ c, c = ch.toNat := ⟨_, rfl⟩
    have hc' : (s[0]'hpos).toNat = c := by rw [hch, hc]
    have hsg : signed s.data.toList = (c == 45) := by rw [hl, hc]; rfl
    cases hb : (c == 45)
    · have hbI : ((c : Int) == 45) = false := by
        rw [beq_eq_false_iff_ne] at hb ⊢; omega
      have hbe : behind s.data.toList = s.data.toList := by unfold behind; rw [hsg, hb]; rfl
      rw [hb] at hsg
      obtain ⟨D, hD⟩ : ∃ D, D = s := ⟨_, rfl⟩
      have hDL := hLs
      have HSG := Lib.hid hsg
      have HBE := Lib.hid hbe
      have HLL := Lib.hid hl
      have hie2 := hie
      have c1 := c
      clear hsg hbe hTL hch hb hD c1 D
      by_cases h48 : c = 48 ∧ 1 < s.size
      · have HR := Lib.hid (refV_bad (l := s.data.toList) (by
          rw [HSG.out, HBE.out, HLL.out]
          have : 0 < r.length := by have := h48.2; rw [← hLs, HLL.out, List.length_cons] at this; omega
          simp [badHead, ← hc, h48.1, this]))
        have h1 := h48.2
        have hcI : (c : Int) = 48 := by omega
        clear h48 hl hc
        go_enter Tryd.func33, Tryd.ntmps33
        go_wp2
        go_ret2
        exact ⟨(by rw [HR.out]; rfl), rfl⟩
      · have hbh : badHead (signed s.data.toList) (behind s.data.toList) = false := by
          rw [HSG.out, HBE.out, HLL.out]
          simp only [badHead, ← hc, Bool.false_or, Bool.and_eq_false_iff, beq_eq_false_iff_ne, decide_eq_false_iff_not]
          have : r.length + 1 = s.size := by rw [← hLs, HLL.out, List.length_cons]
          omega
        have HBH := Lib.hid hbh
        clear hbh hl hc
        have h48' : ¬ (c = 48) ∨ (c = 48 ∧ ¬ (1 < s.size)) := by omega
        rcases h48' with h48' | ⟨h48', h1s⟩
        · have hcI : ((c : Int) == 48) = false := by rw [beq_eq_false_iff_ne]; omega
          have hcI2 : ¬ ((c : Int) = 48) := by omega
          clear h48
          go_enter Tryd.func33, Tryd.ntmps33
          go_wp2
          go_loopw [6, 7] (fun vn vi wr => ∃ (j : Nat) (acc : Int), j ≤ s.size ∧ vn = .int .i64 acc ∧ vi = .int .i64 j ∧ -9223372036854775808 ≤ acc ∧ acc ≤ 0 ∧ tryDigits 0 s.data.toList = tryDigits acc (s.data.toList.drop j) ∧ w = wr) (fun _ vi _ => s.size - (intOf vi).toNat)
          case atStart => exact ⟨0, 0, Nat.zero_le _, rfl, rfl, by omega, by omega, rfl, rfl⟩
          case round =>
            obtain ⟨j, acc, hj, rfl, rfl, ha1, ha2, htr, rfl⟩ := hrel
            by_cases hlt : j < s.size
            · obtain ⟨hjl, hbyte⟩ := byte_at s j hlt
              have hst := try_step htr hjl
              rw [← hbyte] at hst
              obtain ⟨x, hx⟩ : ∃ x, (s[j]'hlt).toNat = x := ⟨_, rfl⟩
              have hx255 : x ≤ 255 := by have := (s[j]'hlt).toNat_lt; omega
              have HX := Lib.hid hx
              have HST := Lib.hid hst
              have hdg := nrdigit x w hx255
              clear hst htr hbyte hjl
              by_cases hdig : 48 ≤ x ∧ x ≤ 57
              · obtain ⟨k, hk⟩ : ∃ k, k = x - 48 := ⟨_, rfl⟩
                have hk9 : k ≤ 9 := by omega
                have hkI : (x : Int) - 48 = (k : Int) := by omega
                obtain ⟨Q, hQ, hQ1, hQ2, hQA⟩ := quo_low k hk9
                have hQa := hQA acc
                clear hQA
                have e : (decide (48 ≤ x) && decide (x ≤ 57)) = true := by simp [hdig.1, hdig.2]
                rw [e] at hdg
                have g1 := hdig.1
                have g2 := hdig.2
                have HK := Lib.hid hk
                have HDG := Lib.hid hdig
                clear e hk hdig
                by_cases hq : acc < Q
                · have hn : tryDigits 0 s.data.toList = none := by
                    rw [HST.out]
                    simp only [tryDigits, HX.out]
                    rw [if_pos HDG.out, if_pos (by have := HK.out; omega)]
                  have HR := Lib.hid (refV_none HBH.out (by rw [HBE.out]; exact hn))
                  clear hn hQa
                  go_wp2_with (go_at_call 45; refine hdg.mono ?_; rintro e w' ⟨rfl, rfl⟩)
                  go_ret2
                  exact ⟨(by rw [HR.out]; rfl), rfl⟩
                · have hge : -9223372036854775808 ≤ acc * 10 - k := by omega
                  have hge2 : acc * 10 - k ≤ 0 := by omega
                  have hge3 : -9223372036854775808 ≤ acc * 10 := by omega
                  have hge4 : acc * 10 ≤ 0 := by omega
                  have hn : tryDigits 0 s.data.toList = tryDigits (acc * 10 - k) (s.data.toList.drop (j + 1)) := by
                    rw [HST.out]
                    simp only [tryDigits, HX.out]
                    rw [if_pos HDG.out, ← HK.out, if_neg (by omega)]
                  have HN := Lib.hid hn
                  clear hn hQa
                  go_wp2_with (go_at_call 45; refine hdg.mono ?_; rintro e w' ⟨rfl, rfl⟩)
                  go_roundw
                  case rel => exact ⟨j + 1, acc * 10 - k, by omega, rfl, by go_num, hge, hge2, HN.out, trivial⟩
                  case measure => simp [intOf]; omega
              · have e : (decide (48 ≤ x) && decide (x ≤ 57)) = false := by simp; omega
                rw [e] at hdg
                have hn : tryDigits 0 s.data.toList = none := by
                  rw [HST.out]
                  simp only [tryDigits, HX.out]
                  rw [if_neg hdig]
                have HR := Lib.hid (refV_none HBH.out (by rw [HBE.out]; exact hn))
                clear hn e hdig
                go_wp2_with (go_at_call 45; refine hdg.mono ?_; rintro e w' ⟨rfl, rfl⟩)
                go_ret2
                exact ⟨(by rw [HR.out]; rfl), rfl⟩
            · have hend : tryDigits 0 (behind s.data.toList) = some acc := by
                rw [HBE.out, htr, List.drop_of_length_le (by omega)]; rfl
              clear htr
              by_cases hmin : acc = -9223372036854775808
              · have HR := Lib.hid (refV_min HBH.out hend HSG.out hmin)
                have hb1 : (acc == -9223372036854775808) = true := by simpa using hmin
                clear hend hmin
                go_wp2
                go_ret2
                exact ⟨(by rw [HR.out]; rfl), rfl⟩
              · have HR := Lib.hid (refV_pos HBH.out hend HSG.out hmin)
                have hb1 : (acc == -9223372036854775808) = false := by simpa using hmin
                have hb2 : -9223372036854775807 ≤ acc := by omega
                clear hend hmin
                go_wp2
                go_ret2
                exact ⟨(by rw [HR.out]; rfl), rfl⟩
        · have hcI : ((c : Int) == 48) = true := by rw [beq_iff_eq]; omega
          have hcI2 : (c : Int) = 48 := by omega
          have h1I : ¬ (1 < (s.size : Int)) := by omega
          clear h48 h48'
          go_enter Tryd.func33, Tryd.ntmps33
          go_wp2
          go_loopw [6, 7] (fun vn vi wr => ∃ (j : Nat) (acc : Int), j ≤ s.size ∧ vn = .int .i64 acc ∧ vi = .int .i64 j ∧ -9223372036854775808 ≤ acc ∧ acc ≤ 0 ∧ tryDigits 0 s.data.toList = tryDigits acc (s.data.toList.drop j) ∧ w = wr) (fun _ vi _ => s.size - (intOf vi).toNat)
          case atStart => exact ⟨0, 0, Nat.zero_le _, rfl, rfl, by omega, by omega, rfl, rfl⟩
          case round =>
            obtain ⟨j, acc, hj, rfl, rfl, ha1, ha2, htr, rfl⟩ := hrel
            by_cases hlt : j < s.size
            · obtain ⟨hjl, hbyte⟩ := byte_at s j hlt
              have hst := try_step htr hjl
              rw [← hbyte] at hst
              obtain ⟨x, hx⟩ : ∃ x, (s[j]'hlt).toNat = x := ⟨_, rfl⟩
              have hx255 : x ≤ 255 := by have := (s[j]'hlt).toNat_lt; omega
              have HX := Lib.hid hx
              have HST := Lib.hid hst
              have hdg := nrdigit x w hx255
              clear hst htr hbyte hjl
              by_cases hdig : 48 ≤ x ∧ x ≤ 57
              · obtain ⟨k, hk⟩ : ∃ k, k = x - 48 := ⟨_, rfl⟩
                have hk9 : k ≤ 9 := by omega
                have hkI : (x : Int) - 48 = (k : Int) := by omega
                obtain ⟨Q, hQ, hQ1, hQ2, hQA⟩ := quo_low k hk9
                have hQa := hQA acc
                clear hQA
                have e : (decide (48 ≤ x) && decide (x ≤ 57)) = true := by simp [hdig.1, hdig.2]
                rw [e] at hdg
                have g1 := hdig.1
                have g2 := hdig.2
                have HK := Lib.hid hk
                have HDG := Lib.hid hdig
                clear e hk hdig
                by_cases hq : acc < Q
                · have hn : tryDigits 0 s.data.toList = none := by
                    rw [HST.out]
                    simp only [tryDigits, HX.out]
                    rw [if_pos HDG.out, if_pos (by have := HK.out; omega)]
                  have HR := Lib.hid (refV_none HBH.out (by rw [HBE.out]; exact hn))
                  clear hn hQa
                  go_wp2_with (go_at_call 45; refine hdg.mono ?_; rintro e w' ⟨rfl, rfl⟩)
                  go_ret2
                  exact ⟨(by rw [HR.out]; rfl), rfl⟩
                · have hge : -9223372036854775808 ≤ acc * 10 - k := by omega
                  have hge2 : acc * 10 - k ≤ 0 := by omega
                  have hge3 : -9223372036854775808 ≤ acc * 10 := by omega
                  have hge4 : acc * 10 ≤ 0 := by omega
                  have hn : tryDigits 0 s.data.toList = tryDigits (acc * 10 - k) (s.data.toList.drop (j + 1)) := by
                    rw [HST.out]
                    simp only [tryDigits, HX.out]
                    rw [if_pos HDG.out, ← HK.out, if_neg (by omega)]
                  have HN := Lib.hid hn
                  clear hn hQa
                  go_wp2_with (go_at_call 45; refine hdg.mono ?_; rintro e w' ⟨rfl, rfl⟩)
                  go_roundw
                  case rel => exact ⟨j + 1, acc * 10 - k, by omega, rfl, by go_num, hge, hge2, HN.out, trivial⟩
                  case measure => simp [intOf]; omega
              · have e : (decide (48 ≤ x) && decide (x ≤ 57)) = false := by simp; omega
                rw [e] at hdg
                have hn : tryDigits 0 s.data.toList = none := by
                  rw [HST.out]
                  simp only [tryDigits, HX.out]
                  rw [if_neg hdig]
                have HR := Lib.hid (refV_none HBH.out (by rw [HBE.out]; exact hn))
                clear hn e hdig
                go_wp2_with (go_at_call 45; refine hdg.mono ?_; rintro e w' ⟨rfl, rfl⟩)
                go_ret2
                exact ⟨(by rw [HR.out]; rfl), rfl⟩
            · have hend : tryDigits 0 (behind s.data.toList) = some acc := by
                rw [HBE.out, htr, List.drop_of_length_le (by omega)]; rfl
              clear htr
              by_cases hmin : acc = -9223372036854775808
              · have HR := Lib.hid (refV_min HBH.out hend HSG.out hmin)
                have hb1 : (acc == -9223372036854775808) = true := by simpa using hmin
                clear hend hmin
                go_wp2
                go_ret2
                exact ⟨(by rw [HR.out]; rfl), rfl⟩
              · have HR := Lib.hid (refV_pos HBH.out hend HSG.out hmin)
                have hb1 : (acc == -9223372036854775808) = false := by simpa using hmin
                have hb2 : -9223372036854775807 ≤ acc := by omega
                clear hend hmin
                go_wp2
                go_ret2
                exact ⟨(by rw [HR.out]; rfl), rfl⟩
    · have hbI : ((c : Int) == 45) = true := by
        rw [beq_iff_eq] at hb ⊢; omega
      rw [hb] at hsg
      obtain ⟨D, hD⟩ : ∃ D, s.extract 1 s.size = D := ⟨_, rfl⟩
      have hDd : D.data.toList = r := by
        rw [← hD]
        rw [ByteArray.data_extract, Array.toList_extract, hl]
        simp only [List.extract, List.drop_succ_cons, List.drop_zero]
        rw [hl, List.length_cons] at hLs
        exact List.take_of_length_le (by omega)
      have hbe : behind s.data.toList = D.data.toList := by unfold behind; rw [hsg, hl, hDd]; rfl
      have hDsz : D.size = s.size - 1 := by rw [← hD]; simp
      have hDL : D.data.toList.length = D.size := (Lib.size_eq D).symm
      have hDT : D.toList = D.data.toList := Go.ByteArray.toList_eq D
      have HSG := Lib.hid hsg
      have HBE := Lib.hid hbe
      clear hsg hbe hTL hch hb hl hc hDd hLs
      have hDs1 : D.size ≤ 1000000 := by omega
      by_cases hD0 : D.size = 0
      · have hdn : D.data.toList = [] := List.eq_nil_of_length_eq_zero (by omega)
        have HR := Lib.hid (refV_bad (l := s.data.toList) (by rw [HSG.out, HBE.out, hdn]; rfl))
        have hnil : D.toList = [] := by rw [hDT, hdn]
        clear hdn hDL hDT hDsz
        go_enter Tryd.func33, Tryd.ntmps33
        go_wp2
        go_ret2
        exact ⟨(by rw [HR.out]; rfl), rfl⟩
      · have hDpos : 0 < D.size := by omega
        obtain ⟨dh, dr, hdl⟩ : ∃ a b, D.data.toList = a :: b := by
          cases h : D.data.toList with
          | nil => rw [h] at hDL; simp at hDL; omega
          | cons a b => exact ⟨a, b, rfl⟩
        have hDne : ¬ (D.toList = []) := by rw [hDT, hdl]; simp
        have hDie : D.toList.isEmpty = false := by rw [hDT, hdl]; rfl
        have hdh : (D[0]'hDpos) = dh := by
          obtain ⟨hx, e⟩ := byte_at D 0 hDpos
          rw [e]; simp [hdl]
        obtain ⟨d, hd⟩ : ∃ d, d = dh.toNat := ⟨_, rfl⟩
        have hd' : (D[0]'hDpos).toNat = d := by rw [hdh, hd]
        have hsz1 : 0 < s.size - 1 := by omega
        clear hdh hDT
        by_cases h48 : d = 48
        · have HR := Lib.hid (refV_bad (l := s.data.toList) (by rw [HSG.out, HBE.out, hdl]; simp [badHead, ← hd, h48]))
          have hdI : (d : Int) = 48 := by omega
          have hdI2 : ((d : Int) == 48) = true := by rw [beq_iff_eq]; omega
          clear h48 hdl hd hDsz hDL
          go_enter Tryd.func33, Tryd.ntmps33
          go_wp2
          go_ret2
          exact ⟨(by rw [HR.out]; rfl), rfl⟩
        · have hbh : badHead (signed s.data.toList) (behind s.data.toList) = false := by
            rw [HSG.out, HBE.out, hdl]; simp [badHead, ← hd, h48]
          have HBH := Lib.hid hbh
          have hdI : ¬ ((d : Int) = 48) := by omega
          have hdI2 : ((d : Int) == 48) = false := by rw [beq_eq_false_iff_ne]; omega
          clear hbh h48 hdl hd hDsz
          go_enter Tryd.func33, Tryd.ntmps33
          go_wp2
          go_loopw [6, 7] (fun vn vi wr => ∃ (j : Nat) (acc : Int), j ≤ D.size ∧ vn = .int .i64 acc ∧ vi = .int .i64 j ∧ -9223372036854775808 ≤ acc ∧ acc ≤ 0 ∧ tryDigits 0 D.data.toList = tryDigits acc (D.data.toList.drop j) ∧ w = wr) (fun _ vi _ => D.size - (intOf vi).toNat)
          case atStart => exact ⟨0, 0, Nat.zero_le _, rfl, rfl, by omega, by omega, rfl, rfl⟩
          case round =>
            obtain ⟨j, acc, hj, rfl, rfl, ha1, ha2, htr, rfl⟩ := hrel
            by_cases hlt : j < D.size
            · obtain ⟨hjl, hbyte⟩ := byte_at D j hlt
              have hst := try_step htr hjl
              rw [← hbyte] at hst
              obtain ⟨x, hx⟩ : ∃ x, (D[j]'hlt).toNat = x := ⟨_, rfl⟩
              have hx255 : x ≤ 255 := by have := (D[j]'hlt).toNat_lt; omega
              have HX := Lib.hid hx
              have HST := Lib.hid hst
              have hdg := nrdigit x w hx255
              clear hst htr hbyte hjl
              by_cases hdig : 48 ≤ x ∧ x ≤ 57
              · obtain ⟨k, hk⟩ : ∃ k, k = x - 48 := ⟨_, rfl⟩
                have hk9 : k ≤ 9 := by omega
                have hkI : (x : Int) - 48 = (k : Int) := by omega
                obtain ⟨Q, hQ, hQ1, hQ2, hQA⟩ := quo_low k hk9
                have hQa := hQA acc
                clear hQA
                have e : (decide (48 ≤ x) && decide (x ≤ 57)) = true := by simp [hdig.1, hdig.2]
                rw [e] at hdg
                have g1 := hdig.1
                have g2 := hdig.2
                have HK := Lib.hid hk
                have HDG := Lib.hid hdig
                clear e hk hdig
                by_cases hq : acc < Q
                · have hn : tryDigits 0 D.data.toList = none := by
                    rw [HST.out]
                    simp only [tryDigits, HX.out]
                    rw [if_pos HDG.out, if_pos (by have := HK.out; omega)]
                  have HR := Lib.hid (refV_none HBH.out (by rw [HBE.out]; exact hn))
                  clear hn hQa
                  go_wp2_with (go_at_call 45; refine hdg.mono ?_; rintro e w' ⟨rfl, rfl⟩)
                  go_ret2
                  exact ⟨(by rw [HR.out]; rfl), rfl⟩
                · have hge : -9223372036854775808 ≤ acc * 10 - k := by omega
                  have hge2 : acc * 10 - k ≤ 0 := by omega
                  have hge3 : -9223372036854775808 ≤ acc * 10 := by omega
                  have hge4 : acc * 10 ≤ 0 := by omega
                  have hn : tryDigits 0 D.data.toList = tryDigits (acc * 10 - k) (D.data.toList.drop (j + 1)) := by
                    rw [HST.out]
                    simp only [tryDigits, HX.out]
                    rw [if_pos HDG.out, ← HK.out, if_neg (by omega)]
                  have HN := Lib.hid hn
                  clear hn hQa
                  go_wp2_with (go_at_call 45; refine hdg.mono ?_; rintro e w' ⟨rfl, rfl⟩)
                  go_roundw
                  case rel => exact ⟨j + 1, acc * 10 - k, by omega, rfl, by go_num, hge, hge2, HN.out, trivial⟩
                  case measure => simp [intOf]; omega
              · have e : (decide (48 ≤ x) && decide (x ≤ 57)) = false := by simp; omega
                rw [e] at hdg
                have hn : tryDigits 0 D.data.toList = none := by
                  rw [HST.out]
                  simp only [tryDigits, HX.out]
                  rw [if_neg hdig]
                have HR := Lib.hid (refV_none HBH.out (by rw [HBE.out]; exact hn))
                clear hn e hdig
                go_wp2_with (go_at_call 45; refine hdg.mono ?_; rintro e w' ⟨rfl, rfl⟩)
                go_ret2
                exact ⟨(by rw [HR.out]; rfl), rfl⟩
            · have hend : tryDigits 0 (behind s.data.toList) = some acc := by
                rw [HBE.out, htr, List.drop_of_length_le (by omega)]; rfl
              clear htr
              have HR := Lib.hid (refV_neg HBH.out hend HSG.out)
              clear hend
              go_wp2
              go_ret2
              exact ⟨(by rw [HR.out]; rfl), rfl⟩
end Go.Proofs.YtdfkdbdhaaiadaaDoor
