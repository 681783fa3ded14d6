/- Merged: The document's reader: counts, integers; The document's reader: texts; The document's reader: bulks, and arrays where none may stand. -/
import Derived.Test.YtpekeilpdbdnnaaDoorZYq2
set_option linter.all false
namespace Go.Proofs.YtpekeilpdbdnnaaDoor
open Go.RowKit
attribute [local go_sem] fold_part fold_some fold_some' partAt_zero

/-- A count, its line's end aside. -/
def cntB (most : Nat) : Bs → Except Flt (Option Nat × Bs)
  | [] => .error (0, true)
  | c :: r => if c = 45 then (match mustB 49 r with | .error e => .error e | .ok q => .ok (none, q)) else match numbB most (c :: r) with | .error e => .error e | .ok (n, q) => .ok (some n, q)
theorem count_cnt (most : Nat) (l : Bs) : countB most l = match cntB most l with | .error e => .error e | .ok (o, q) => match endB q with | .ok r => .ok (o, r) | .error e => .error e := by
  cases l with
  | nil => rfl
  | cons c r =>
    unfold countB cntB
    simp only [nextB]
    by_cases h : c = 45
    · simp only [if_pos h]
      rw [mustB, if_pos h]
      simp only
      cases mustB 49 r <;> rfl
    · simp only [if_neg h]
      cases numbB most (c :: r) with
      | error e => rfl
      | ok v => obtain ⟨n, q⟩ := v; rfl
def badI (v : Value) (_ : World) : Prop := ∃ x : Int, v = .int .i64 x ∧ -9223372036854775808 ≤ x ∧ x ≤ 9223372036854775807

set_option maxRecDepth 100000 in
set_option maxHeartbeats 1600000 in
theorem rcount (g : Nat) (B l : Bs) (most : Nat) (w : World) (h : StR w g B (.ok l)) (hl : B.length ≤ 1000000000) (hm9 : 9 ≤ most) (hm : most ≤ 1000000000) :
    Calls Tryd.prog 60 #[.pointer (some ⟨g, 0, none⟩), .int .i64 most] w (EndR g B (cntB most l) retC badI w) := by
  obtain ⟨M, hM⟩ : ∃ M, M = cntB most l := ⟨_, rfl⟩
  rw [← hM]
  have HM := Lib.hid hM
  have HBL := Lib.hid hl
  have HNX := Lib.hid (rbyte g B (.ok l) w h hl)
  clear hM h hl
  have hwu : IntKind.u64.wrap (most : Int) = (most : Int) := by rw [IntKind.wrap_u64]; omega
  go_enter Tryd.func60, Tryd.ntmps60
  go_wp2_with fail
  refine HNX.out.mono ?_
  rintro e w2 ⟨rfl, hk2, hs2⟩
  have HK2 := Lib.hid hk2
  have HS2 := Lib.hid hs2
  clear hk2 HNX hs2
  cases l with
  | nil =>
    have hs : StR w2 g B (.error (0, true)) := HS2.out
    have HD := Lib.hid (rdigits g B (.error (0, true)) most w2 hs HBL.out hm9 (by omega))
    rw [show byteC (.ok []) = 0 from rfl, show (((0 : UInt8).toNat : Int)) = 0 from rfl]
    have hMe : M = .error (0, true) := by rw [HM.out]; rfl
    subst hMe
    clear hs
    go_wp2_with fail
    refine HD.out.mono ?_
    rintro e w3 ⟨hk3, v, rfl, ⟨n, rfl, hn⟩, hs3⟩
    have HK3 := Lib.hid (HK2.out.trans hk3)
    have HS3 := Lib.hid hs3
    have hn9 : n ≤ 1000000000 := by omega
    clear hk3 hs3
    go_wp2_with fail
    go_ret
    exact ⟨HK3.out, _, rfl, ⟨n, rfl, by omega, by omega⟩, HS3.out⟩
  | cons c r =>
    rw [show byteC (.ok (c :: r)) = c from rfl]
    by_cases h45 : c = 45
    · subst h45
      rw [show (((45 : UInt8).toNat : Int)) = 45 from rfl]
      obtain ⟨i, c1, f1, c2, hi9, hs3, hk3⟩ := StR.inc (show StR w2 g B (.ok (45 :: r)) from HS2.out) HBL.out
      have hmu := rmust g B (.ok r) 49 (by decide) _ hs3 HBL.out
      rw [show (((49 : UInt8).toNat : Int)) = 49 from rfl] at hmu
      have HMU := Lib.hid hmu
      have HK3 := Lib.hid (HK2.out.trans hk3)
      have hme : M = match mustB 49 r with | .error e => .error e | .ok q => .ok (none, q) := by rw [HM.out]; rfl
      have HME := Lib.hid hme
      clear hs3 hk3 hmu hme
      go_wp2_with fail
      refine HMU.out.mono ?_
      rintro e w4 ⟨⟨u, rfl⟩, hk4, hs4⟩
      have HK4 := Lib.hid (HK3.out.trans hk4)
      have HS4 := Lib.hid (show StR w4 g B (mustB 49 r) from hs4)
      clear hk4 hs4
      go_wp2_with fail
      go_ret
      have hs := HS4.out
      cases hmu : mustB 49 r with
      | error f =>
        rw [hmu] at hs
        have hMe : M = .error f := by rw [HME.out, hmu]
        subst hMe
        exact ⟨HK4.out, _, rfl, ⟨-1, rfl, by decide, by decide⟩, hs⟩
      | ok q =>
        rw [hmu] at hs
        have hMe : M = .ok (none, q) := by rw [HME.out, hmu]
        subst hMe
        exact ⟨HK4.out, _, rfl, rfl, hs⟩
    · have h45n : ¬ ((c.toNat : Int) = 45) := u8n 45 rfl h45
      have HD := Lib.hid (rdigits g B (.ok (c :: r)) most w2 HS2.out HBL.out hm9 (by omega))
      have hme : M = match numbB most (c :: r) with | .error e => .error e | .ok (n, q) => .ok (some n, q) := by rw [HM.out, cntB, if_neg h45]
      have HME := Lib.hid hme
      clear hme
      go_wp2_with fail
      refine HD.out.mono ?_
      rintro e w3 ⟨hk3, v, rfl, hm3⟩
      have HK3 := Lib.hid (HK2.out.trans hk3)
      clear hk3
      rw [show bindN (.ok (c :: r)) (numbB most) = numbB most (c :: r) from rfl] at hm3
      cases hmu : numbB most (c :: r) with
      | error f =>
        rw [hmu] at hm3
        obtain ⟨⟨n, rfl, hn⟩, hs3⟩ := hm3
        have hMe : M = .error f := by rw [HME.out, hmu]
        subst hMe
        have HS3 := Lib.hid hs3
        have hn9 : n ≤ 1000000000 := by omega
        clear hs3 hmu
        go_wp2_with fail
        go_ret
        exact ⟨HK3.out, _, rfl, ⟨n, rfl, by omega, by omega⟩, HS3.out⟩
      | ok p =>
        obtain ⟨n, q⟩ := p
        rw [hmu] at hm3
        obtain ⟨rfl, hs3⟩ := hm3
        have hMe : M = .ok (some n, q) := by rw [HME.out, hmu]
        subst hMe
        have HS3 := Lib.hid hs3
        have hn := numbB_le hmu
        have hn9 : n ≤ 1000000000 := by omega
        clear hs3 hmu hn
        go_wp2_with fail
        go_ret
        exact ⟨HK3.out, _, rfl, rfl, HS3.out⟩

set_option maxRecDepth 100000 in
set_option maxHeartbeats 1600000 in
theorem rinteger (g : Nat) (B l : Bs) (w : World) (h : StR w g B (.ok l)) (hl : B.length ≤ 1000000000) :
    Calls Tryd.prog 42 #[.pointer (some ⟨g, 0, none⟩)] w (EndR g B (integerB l) retI badI w) := by
  obtain ⟨M, hM⟩ : ∃ M, M = integerB l := ⟨_, rfl⟩
  rw [← hM]
  have HM := Lib.hid hM
  have HBL := Lib.hid hl
  have HNX := Lib.hid (rbyte g B (.ok l) w h hl)
  clear hM h hl
  go_enter Tryd.func42, Tryd.ntmps42
  go_wp2_with fail
  refine HNX.out.mono ?_
  rintro e w2 ⟨rfl, hk2, hs2⟩
  have HK2 := Lib.hid hk2
  have HS2 := Lib.hid hs2
  clear hk2 HNX hs2
  cases l with
  | nil =>
    have hs : StR w2 g B (.error (0, true)) := HS2.out
    have hd := rdigits g B (.error (0, true)) 9223372036854775807 w2 hs HBL.out (by decide) (by decide)
    rw [show (((9223372036854775807 : Nat) : Int)) = 9223372036854775807 from rfl] at hd
    have HD := Lib.hid hd
    rw [show byteC (.ok []) = 0 from rfl, show (((0 : UInt8).toNat : Int)) = 0 from rfl]
    have hMe : M = .error (0, true) := by rw [HM.out]; rfl
    subst hMe
    clear hs hd
    go_wp2_with fail
    refine HD.out.mono ?_
    rintro e w3 ⟨hk3, v, rfl, ⟨n, rfl, hn⟩, hs3⟩
    have HK3 := Lib.hid (HK2.out.trans hk3)
    have HS3 := Lib.hid hs3
    clear hk3 hs3
    go_wp2_with fail
    go_ret
    exact ⟨HK3.out, _, rfl, ⟨n, rfl, by omega, by omega⟩, HS3.out⟩
  | cons c r =>
    rw [show byteC (.ok (c :: r)) = c from rfl]
    by_cases h45 : c = 45
    · subst h45
      rw [show (((45 : UInt8).toNat : Int)) = 45 from rfl]
      obtain ⟨i, c1, f1, c2, hi9, hs3, hk3⟩ := StR.inc (show StR w2 g B (.ok (45 :: r)) from HS2.out) HBL.out
      have HNX := Lib.hid (rbyte g B (.ok r) _ hs3 HBL.out)
      have HK3 := Lib.hid (HK2.out.trans hk3)
      clear hs3 hk3
      go_wp2_with fail
      refine HNX.out.mono ?_
      rintro e w4 ⟨rfl, hk4, hs4⟩
      have HK4 := Lib.hid (HK3.out.trans hk4)
      have HS4 := Lib.hid hs4
      clear hk4 hs4 HNX
      cases r with
      | nil =>
        have hs : StR w4 g B (.error (0, true)) := HS4.out
        have hd := rdigits g B (.error (0, true)) 9223372036854775808 w4 hs HBL.out (by decide) (by decide)
        rw [show (((9223372036854775808 : Nat) : Int)) = 9223372036854775808 from rfl] at hd
        have HD := Lib.hid hd
        rw [show byteC (.ok []) = 0 from rfl, show (((0 : UInt8).toNat : Int)) = 0 from rfl]
        have hMe : M = .error (0, true) := by rw [HM.out]; rfl
        subst hMe
        clear hs hd
        go_wp2_with fail
        refine HD.out.mono ?_
        rintro e w5 ⟨hk5, v, rfl, ⟨n, rfl, hn⟩, hs5⟩
        have HK5 := Lib.hid (HK4.out.trans hk5)
        have HS5 := Lib.hid hs5
        clear hk5 hs5
        by_cases hn0 : n = 0
        · subst hn0
          go_wp2_with fail
          go_ret
          refine ⟨HK5.out, _, rfl, ⟨_, rfl, ?_, ?_⟩, HS5.out⟩ <;> decide +kernel
        · have hn1 : 1 ≤ n := by omega
          go_wp2_with fail
          go_ret
          exact ⟨HK5.out, _, rfl, ⟨_, rfl, by omega, by omega⟩, HS5.out⟩
      | cons d r2 =>
        rw [show byteC (.ok (d :: r2)) = d from rfl]
        by_cases h48 : d = 48
        · subst h48
          rw [show (((48 : UInt8).toNat : Int)) = 48 from rfl]
          have HF := Lib.hid (rfail g B (.ok (48 :: r2)) w4 HS4.out HBL.out)
          have hMe : M = .error (r2.length + 1, false) := by rw [HM.out]; rfl
          subst hMe
          go_wp2_with fail
          refine HF.out.mono ?_
          rintro e w5 ⟨⟨u, rfl⟩, hk5, hs5⟩
          have HK5 := Lib.hid (HK4.out.trans hk5)
          have HS5 := Lib.hid hs5
          clear hk5 hs5
          go_wp2_with fail
          go_ret
          exact ⟨HK5.out, _, rfl, ⟨0, rfl, by decide, by decide⟩, HS5.out⟩
        · have h48n : ¬ ((d.toNat : Int) = 48) := u8n 48 rfl h48
          have hd := rdigits g B (.ok (d :: r2)) 9223372036854775808 w4 HS4.out HBL.out (by decide) (by decide)
          rw [show (((9223372036854775808 : Nat) : Int)) = 9223372036854775808 from rfl, show bindN (.ok (d :: r2)) (numbB 9223372036854775808) = numbB 9223372036854775808 (d :: r2) from rfl] at hd
          have HD := Lib.hid hd
          have hme : M = match numbB 9223372036854775808 (d :: r2) with | .error e => .error e | .ok (n, q) => .ok (-(n : Int), q) := by
            rw [HM.out]
            unfold integerB
            simp only [nextB, if_true, List.drop_succ_cons, List.drop_zero, if_neg h48]
            cases numbB 9223372036854775808 (d :: r2) with
            | error e => rfl
            | ok v => obtain ⟨n, q⟩ := v; rfl
          have HME := Lib.hid hme
          clear hme hd
          go_wp2_with fail
          refine HD.out.mono ?_
          rintro e w5 ⟨hk5, v, rfl, hm5⟩
          have HK5 := Lib.hid (HK4.out.trans hk5)
          clear hk5
          cases hmu : numbB 9223372036854775808 (d :: r2) with
          | error f =>
            rw [hmu] at hm5
            obtain ⟨⟨n, rfl, hn⟩, hs5⟩ := hm5
            have hMe : M = .error f := by rw [HME.out, hmu]
            subst hMe
            have HS5 := Lib.hid hs5
            clear hs5 hmu
            by_cases hn0 : n = 0
            · subst hn0
              go_wp2_with fail
              go_ret
              refine ⟨HK5.out, _, rfl, ⟨_, rfl, ?_, ?_⟩, HS5.out⟩ <;> decide +kernel
            · have hn1 : 1 ≤ n := by omega
              go_wp2_with fail
              go_ret
              exact ⟨HK5.out, _, rfl, ⟨_, rfl, by omega, by omega⟩, HS5.out⟩
          | ok p =>
            obtain ⟨n, q⟩ := p
            rw [hmu] at hm5
            obtain ⟨rfl, hs5⟩ := hm5
            have hMe : M = .ok (-(n : Int), q) := by rw [HME.out, hmu]
            subst hMe
            have HS5 := Lib.hid hs5
            have hn1 := numbB_le hmu
            have hn2 := numbB_pos hmu h48
            clear hs5 hmu
            go_wp2_with fail
            go_ret
            refine ⟨HK5.out, _, rfl, ?_, HS5.out⟩
            unfold retI
            show (Value.int .i64 (-((n : Int) - 1) - 1)) = .int .i64 (-(n : Int))
            congr 1
            omega
    · have h45n : ¬ ((c.toNat : Int) = 45) := u8n 45 rfl h45
      have hd := rdigits g B (.ok (c :: r)) 9223372036854775807 w2 HS2.out HBL.out (by decide) (by decide)
      rw [show (((9223372036854775807 : Nat) : Int)) = 9223372036854775807 from rfl, show bindN (.ok (c :: r)) (numbB 9223372036854775807) = numbB 9223372036854775807 (c :: r) from rfl] at hd
      have HD := Lib.hid hd
      have hme : M = match numbB 9223372036854775807 (c :: r) with | .error e => .error e | .ok (n, q) => .ok ((n : Int), q) := by
        rw [HM.out]
        unfold integerB
        simp only [nextB, if_neg h45]
        cases numbB 9223372036854775807 (c :: r) with
        | error e => rfl
        | ok v => obtain ⟨n, q⟩ := v; rfl
      have HME := Lib.hid hme
      clear hme hd
      go_wp2_with fail
      refine HD.out.mono ?_
      rintro e w5 ⟨hk5, v, rfl, hm5⟩
      have HK5 := Lib.hid (HK2.out.trans hk5)
      clear hk5
      cases hmu : numbB 9223372036854775807 (c :: r) with
      | error f =>
        rw [hmu] at hm5
        obtain ⟨⟨n, rfl, hn⟩, hs5⟩ := hm5
        have hMe : M = .error f := by rw [HME.out, hmu]
        subst hMe
        have HS5 := Lib.hid hs5
        clear hs5 hmu
        go_wp2_with fail
        go_ret
        exact ⟨HK5.out, _, rfl, ⟨n, rfl, by omega, by omega⟩, HS5.out⟩
      | ok p =>
        obtain ⟨n, q⟩ := p
        rw [hmu] at hm5
        obtain ⟨rfl, hs5⟩ := hm5
        have hMe : M = .ok ((n : Int), q) := by rw [HME.out, hmu]
        subst hMe
        have HS5 := Lib.hid hs5
        have hn1 := numbB_le hmu
        clear hs5 hmu
        go_wp2_with fail
        go_ret
        exact ⟨HK5.out, _, rfl, rfl, HS5.out⟩
end Go.Proofs.YtpekeilpdbdnnaaDoor
namespace Go.Proofs.YtpekeilpdbdnnaaDoor
open Go.RowKit
attribute [local go_sem] fold_part fold_some fold_some' partAt_zero

def badT (v : Value) (_ : World) : Prop := ∃ s : Bs, v = strV s ∧ s.length ≤ 1000000000
theorem line_end (s q : Bs) : (match endB q with | .ok r => Except.ok (s, r) | .error e => .error e : Except Flt (Bs × Bs)) = match stepE (.ok q) endB with | .ok r => .ok (s, r) | .error e => .error e := rfl

/-- What is done behind the loop: a part is cut out, and the line's end is read. -/
theorem cut_bytes {w : World} {g : Nat} {B : Bs} {x : Except Flt Bs} (h : StR w g B x) (p0 p : Nat) (h0 : p0 ≤ p) (hp : ∀ i, w.cell? ⟨g, 1, none⟩ = some (.int .i64 i) → i = (p : Int)) (hpB : p ≤ B.length) :
    ∃ (ap : Option Addr) (n cap : Nat), n = B.length ∧ n ≤ cap ∧ w.cell? ⟨g, 0, none⟩ = some (.slice ap n cap) ∧ w.cell? ⟨g, 1, none⟩ = some (.int .i64 p) ∧
      ∀ k, (convert 22 9 (.slice (partAt ap p0 cap) (p - p0) (cap - p0))).run Tryd.prog (w.drewN k) = .ok (.string ⟨((B.take p).drop p0).toArray⟩) (w.drewN k) := by
  obtain ⟨ap, cap, i, e, hg, hv, hb, hc, hi, _⟩ := h.cells
  obtain ⟨c0, c1, c2, _⟩ := blk3 hg
  have hip := hp _ c1
  have hpart := hv.part p0 p h0 hpB
  exact ⟨ap, B.length, cap, rfl, hc, c0, by rw [c1, hip], fun k => conv_of (w := w.drewN k) (hpart.kept ((Kept.refl NoBlock w).drewN k) (fun _ _ h => h))⟩

set_option maxRecDepth 100000 in
set_option maxHeartbeats 3200000 in
theorem rtext (g : Nat) (B l : Bs) (w : World) (h : StR w g B (.ok l)) (hl : B.length ≤ 1000000000) :
    Calls Tryd.prog 41 #[.pointer (some ⟨g, 0, none⟩)] w (EndR g B (lineE l) retT badT w) := by
  obtain ⟨p0, h⟩ := h.toP
  obtain ⟨c1, f1, _⟩ := h.cell
  obtain ⟨hp0, _⟩ := h.le
  obtain ⟨M, hM⟩ : ∃ M, M = lineE l := ⟨_, rfl⟩
  rw [← hM]
  have HM := Lib.hid hM
  have HR := Lib.hid h
  have HBL := Lib.hid hl
  have hp09 : p0 ≤ 1000000000 := by omega
  clear hM h hl hp0
  go_enter Tryd.func41, Tryd.ntmps41
  go_wp2_with fail
  clear c1 f1
  go_loopw [] (fun wr => ∃ (q : Bs) (p : Nat), KG g w wr ∧ StP wr g B p q ∧ p0 ≤ p ∧ p ≤ p0 + 65536 ∧ lineO 65536 l = mapL ((B.take p).drop p0) (lineO (65536 - (p - p0)) q)) (fun wr => B.length - posW wr g)
  case atStart => exact ⟨l, p0, (Kept.refl NoBlock w).kg g, HR.out, Nat.le_refl _, by omega, by rw [List.drop_of_length_le (by rw [List.length_take]; omega), mapL_nil, Nat.sub_self]⟩
  case round =>
    obtain ⟨q, p, hk, hq, hpp, hp2, hmod⟩ := hrel
    obtain ⟨hpB, hqlen⟩ := hq.le
    obtain ⟨c1, f1, c2⟩ := hq.cell
    have hp9 : p ≤ 1000000000 := by have := HBL.out; omega
    have HNX := Lib.hid (rbyte g B (.ok q) wr hq.toS HBL.out)
    have HK := Lib.hid hk
    have HQ := Lib.hid hq
    have HMO := Lib.hid hmod
    have HPW := Lib.hid hq.pos
    have HRL := Lib.hid hq.le
    have HPB := Lib.hid hpB
    clear hk hq hmod hpB hqlen
    go_wp2_with fail
    refine HNX.out.mono ?_
    rintro e w2 ⟨rfl, hk2, hs2⟩
    have HK2 := Lib.hid (HK.out.trans hk2)
    have HS2 := Lib.hid hs2
    clear hk2 HNX c1 f1 c2 hs2
    obtain ⟨s, hs⟩ : ∃ s, s = (B.take p).drop p0 := ⟨_, rfl⟩
    have hsl : s.length ≤ 1000000000 := by rw [hs, List.length_drop, List.length_take]; omega
    by_cases hout : q = [] ∨ ∃ r, q = 13 :: r
    · -- the loop's end
      have hex : ∃ (x : Except Flt Bs) (bt : UInt8) (eE : Int), byteC (.ok q) = bt ∧ StR w2 g B x ∧ w2.cell? ⟨g, 2, none⟩ = some (.int .i64 eE) ∧ (∀ i, w2.cell? ⟨g, 1, none⟩ = some (.int .i64 i) → i = (p : Int)) ∧
          ((bt = 0 ∧ ¬ eE = 0) ∨ (bt = 13 ∧ eE = 0)) ∧ M = match stepE x endB with | .ok r => .ok (s, r) | .error e => .error e := by
        rcases hout with rfl | ⟨r, rfl⟩
        · have hst : StR w2 g B (.error (0, true)) := HS2.out
          obtain ⟨e9, d2, hne9, d1⟩ := hst.badP
          have hpe : fltAt B (0, true) = p := by
            have := HRL.out
            unfold fltAt
            simp only [List.length_nil] at this
            simp only
            omega
          refine ⟨_, 0, e9, rfl, hst, d2, fun i hi => ?_, .inl ⟨rfl, hne9⟩, ?_⟩
          · rw [d1, hpe] at hi
            cases hi
            rfl
          · rw [HM.out]
            unfold lineE
            rw [HMO.out, lineO]
            rfl
        · have hst : StR w2 g B (.ok (13 :: r)) := HS2.out
          have hP := hst.toP' HQ.out
          refine ⟨_, 13, 0, rfl, hst, hP.cell.2.2, fun i hi => ?_, .inr ⟨rfl, rfl⟩, ?_⟩
          · rw [hP.cell.1] at hi
            cases hi
            rfl
          · rw [HM.out]
            unfold lineE
            rw [HMO.out, ← hs]
            have : lineO (65536 - (p - p0)) (13 :: r) = .ok ([], 13 :: r) := by
              cases (65536 - (p - p0)) <;> rfl
            rw [this]
            simp only [mapL, List.append_nil]
            exact line_end s (13 :: r)
      obtain ⟨x, bt, eE, hbt, hx, d2, hpos, hcase, hME⟩ := hex
      rw [hbt]
      obtain ⟨ap, nB, cap, hnB, hcp, e0, e1, hcv⟩ := cut_bytes hx p0 p hpp hpos HPB.out
      rw [← hs] at hcv
      have hpnB : p ≤ nB := by have := HPB.out; omega
      have HX := Lib.hid hx
      have HME := Lib.hid hME
      have HCV := Lib.hid hcv
      clear hx hME hpos hbt hnB hs hcv hout
      rcases hcase with ⟨rfl, hne⟩ | ⟨rfl, rfl⟩
      all_goals
        first
        | rw [show (((0 : UInt8).toNat : Int)) = 0 from rfl]
        | rw [show (((13 : UInt8).toNat : Int)) = 13 from rfl]
        go_wp2_with fail
        have hcv := HCV.out
        go_quiet (fail)
        rename_i nq
        have HX3 := Lib.hid (HX.out.kept ((Kept.refl NoBlock w2).drewN nq))
        have HK3 := Lib.hid (HK2.out.trans (((Kept.refl NoBlock w2).drewN nq).kg g))
        generalize w2.drewN nq = w3 at *
        have HE := Lib.hid (rend g B x w3 HX3.out HBL.out)
        clear hcv HCV e0 e1 d2
        go_wp2_with fail
        refine HE.out.mono ?_
        rintro e w4 ⟨⟨u, rfl⟩, hk4, hs4⟩
        have HK4 := Lib.hid (HK3.out.trans hk4)
        have HS4 := Lib.hid hs4
        clear hk4 hs4 HE
        go_wp2_with fail
        go_ret
        have hs5 := HS4.out
        have hme := HME.out
        cases hst : stepE x endB with
        | error f =>
          rw [hst] at hs5 hme
          simp only at hme
          subst hme
          exact ⟨HK4.out, _, rfl, ⟨s, rfl, hsl⟩, hs5⟩
        | ok r =>
          rw [hst] at hs5 hme
          simp only at hme
          subst hme
          exact ⟨HK4.out, _, rfl, rfl, hs5⟩
    · obtain ⟨c, r, rfl⟩ : ∃ c r, q = c :: r := by
        cases q with
        | nil => exact absurd (.inl rfl) hout
        | cons c r => exact ⟨c, r, rfl⟩
      have h13 : ¬ c = 13 := fun e => hout (.inr ⟨r, by rw [e]⟩)
      rw [show byteC (.ok (c :: r)) = c from rfl]
      have h13n : ¬ ((c.toNat : Int) = 13) := u8n 13 rfl h13
      have hst : StR w2 g B (.ok (c :: r)) := HS2.out
      have hP := hst.toP' HQ.out
      obtain ⟨c1, f1, c2⟩ := hP.cell
      have HQ2 := Lib.hid hP
      have HNX2 := Lib.hid (rbyte g B (.ok (c :: r)) w2 hst HBL.out)
      have htn := take_next hP.rest hpp
      have HTN := Lib.hid htn
      clear htn hst hP hout hs
      go_wp2_with fail
      refine HNX2.out.mono ?_
      rintro e w3 ⟨rfl, hk3, hs3⟩
      rw [show byteC (.ok (c :: r)) = c from rfl]
      have HK3 := Lib.hid (HK2.out.trans hk3)
      have HQ3 := Lib.hid (StR.toP' (show StR w3 g B (.ok (c :: r)) from hs3) HQ2.out)
      clear hk3 hs3 HNX2 c1 f1 c2
      obtain ⟨c1, f1, c2⟩ := HQ3.out.cell
      by_cases h10 : c = 10
      · subst h10
        rw [show (((10 : UInt8).toNat : Int)) = 10 from rfl]
        have hMe : M = .error (r.length + 1, false) := by
          rw [HM.out]; unfold lineE; rw [HMO.out, lineO, if_neg (by decide), if_pos (.inl rfl)]; rfl
        subst hMe
        have HW := Lib.hid (rfail g B (.ok (10 :: r)) w3 HQ3.out.toS HBL.out)
        go_wp2_with fail
        refine HW.out.mono ?_
        rintro e w4 ⟨⟨u, rfl⟩, hk4, hs4⟩
        have HK4 := Lib.hid (HK3.out.trans hk4)
        have HS4 := Lib.hid (show StR w4 g B (.error (r.length + 1, false)) from hs4)
        clear hk4 hs4
        go_wp2_with fail
        go_ret
        exact ⟨HK4.out, _, rfl, ⟨[], rfl, by simp⟩, HS4.out⟩
      · have h10n : ¬ ((c.toNat : Int) = 10) := u8n 10 rfl h10
        by_cases hful : p = p0 + 65536
        · have hMe : M = .error (r.length + 1, false) := by
            rw [HM.out]; unfold lineE; rw [HMO.out, lineO, if_neg h13, if_pos (.inr (by omega))]; rfl
          subst hMe
          have HW := Lib.hid (rfail g B (.ok (c :: r)) w3 HQ3.out.toS HBL.out)
          have hsub : (((p : Int) - (p0 : Int)) == 65536) = true := by rw [show (p : Int) - (p0 : Int) = 65536 by omega]; rfl
          clear hful
          go_wp2_with fail
          refine HW.out.mono ?_
          rintro e w4 ⟨⟨u, rfl⟩, hk4, hs4⟩
          have HK4 := Lib.hid (HK3.out.trans hk4)
          have HS4 := Lib.hid (show StR w4 g B (.error (r.length + 1, false)) from hs4)
          clear hk4 hs4
          go_wp2_with fail
          go_ret
          exact ⟨HK4.out, _, rfl, ⟨[], rfl, by simp⟩, HS4.out⟩
        · have hsub : (((p : Int) - (p0 : Int)) == 65536) = false := by simp; omega
          have hst := HQ3.out.step
          have HST := Lib.hid hst.1
          have HKS := Lib.hid (HK3.out.trans hst.2)
          have hmo2 : lineO 65536 l = mapL ((B.take (p + 1)).drop p0) (lineO (65536 - (p + 1 - p0)) r) := by
            rw [HMO.out, HTN.out, lineO_next h13 (fun h => h.elim h10 (fun h => by omega)), show 65536 - (p + 1 - p0) = 65536 - (p - p0) - 1 by omega]
          have HMO2 := Lib.hid hmo2
          have hp3 : p + 1 ≤ p0 + 65536 := by omega
          have HP3 := Lib.hid hp3
          clear hst hmo2 h13 h10 hful hp3
          go_wp2_with fail
          go_roundw
          case rel => exact ⟨r, p + 1, HKS.out, HST.out, by omega, HP3.out, HMO2.out⟩
          case measure => rw [HST.out.pos, HPW.out]; have := HRL.out; simp at this; omega
end Go.Proofs.YtpekeilpdbdnnaaDoor
namespace Go.Proofs.YtpekeilpdbdnnaaDoor
open Go.RowKit
attribute [local go_sem] fold_part fold_some fold_some' partAt_zero

def badM (b : Nat) (v : Value) (w : World) : Prop := ∃ m, v = repA m ∧ GoodM w (fun j => b ≤ j) m ∧ FitM m
def stO {α : Type} : Except Flt (α × Bs) → Except Flt Bs
  | .error f => .error f
  | .ok (_, r) => .ok r
/-- A reply is handed back: its box was stored. -/
theorem rfin {g b : Nat} {B : Bs} {w w3 : World} {M : Except Flt (Rep × Bs)} {m : RepM} (h : KG g w w3) (hs : StR w3 g B (stO M)) (hgb : g < b) (hb : w.heap.size = b) (hz : Z4 b w3) (hg : GoodM w3 (fun j => b + 1 ≤ j) m) (hf : FitM m) (hM : ∀ a r, M = .ok (a, r) → m.rep = a) :
    EndR g B M (retM b) (badM b) w (.returned (repA m)) ((((w3.setCell ⟨b, 0, none⟩ (.int .i64 m.k)).setCell ⟨b, 1, none⟩ (strV m.s)).setCell ⟨b, 2, none⟩ (.int .i64 m.n)).setCell ⟨b, 3, none⟩ m.v) := by
  have hk := (set4 hz (.int .i64 m.k) (strV m.s) (.int .i64 m.n) m.v).2
  have hg2 : GoodM ((((w3.setCell ⟨b, 0, none⟩ (.int .i64 m.k)).setCell ⟨b, 1, none⟩ (strV m.s)).setCell ⟨b, 2, none⟩ (.int .i64 m.n)).setCell ⟨b, 3, none⟩ m.v) (fun j => b ≤ j) m := hg.kept hk (fun j _ hP e => by omega) (fun j _ hP => (by omega : b ≤ j))
  have hs2 := hs.keptS hk (fun i hi e => by omega)
  refine ⟨Kept.trans' h hk (fun i hi e => by omega), _, rfl, ?_⟩
  cases M with
  | error f => exact ⟨⟨m, rfl, hg2, hf⟩, hs2⟩
  | ok p =>
    obtain ⟨a, r⟩ := p
    exact ⟨⟨m, rfl, hM a r rfl, hg2, hf⟩, hs2⟩
/-- .. one without a row. -/
theorem rleaf {g b : Nat} {B : Bs} {w w3 : World} {M : Except Flt (Rep × Bs)} (k : Int) (s : Bs) (n : Int) (h : KG g w w3) (hs : StR w3 g B (stO M)) (hgb : g < b) (hb : w.heap.size = b) (hz : Z4 b w3) (h0 : -9223372036854775808 ≤ n) (h1 : n ≤ 9223372036854775807) (hsl : s.length ≤ 1000000000) (hM : ∀ a r, M = .ok (a, r) → .mk k s n [] = a) :
    EndR g B M (retM b) (badM b) w (.returned (.agg #[.int .i64 k, strV s, .int .i64 n, .slice none 0 0])) ((((w3.setCell ⟨b, 0, none⟩ (.int .i64 k)).setCell ⟨b, 1, none⟩ (strV s)).setCell ⟨b, 2, none⟩ (.int .i64 n)).setCell ⟨b, 3, none⟩ (.slice none 0 0)) :=
  rfin (m := leafM k s n) h hs hgb hb hz (leafM_good _ _ _ _ _) (fit_leaf k s n h0 h1 (by omega)) hM
theorem StR.okE {w : World} {g : Nat} {B l : Bs} (h : StR w g B (.ok l)) : w.cell? ⟨g, 2, none⟩ = some (.int .i64 0) := by
  obtain ⟨p, hp⟩ := h.toP
  exact hp.cell.2.2
/-- What stands behind a count and its line's end. -/
def cntE (most : Nat) (l : Bs) : Except Flt (Option Nat × Bs) := match cntB most l with
  | .error e => .error e
  | .ok (o, q) => match endB q with
    | .error e => .error e
    | .ok r => .ok (o, r)
theorem count_cntE (most : Nat) (l : Bs) : countB most l = cntE most l := by
  rw [count_cnt]
  unfold cntE
  cases cntB most l with
  | error e => rfl
  | ok v =>
    obtain ⟨o, q⟩ := v
    simp only
    cases endB q <;> rfl

set_option maxRecDepth 100000 in
set_option maxHeartbeats 3200000 in
theorem rflat (g : Nat) (B l : Bs) (c : UInt8) (w : World) (h : StR w g B (.ok (c :: l))) (hl : B.length ≤ 1000000000) :
    Calls Tryd.prog 40 #[.pointer (some ⟨g, 0, none⟩)] w (EndR g B (arr0 l) (retM w.heap.size) (badM w.heap.size) w) := by
  have hgb := h.lt
  obtain ⟨i, c1, f1, c2, hi9, hs1, hk1⟩ := StR.inc h hl
  have hka := Kept.allocd (w.setCell ⟨g, 1, none⟩ (.int .i64 ((i : Int) + 1))) (.cells #[.int .i64 0, .string ⟨#[]⟩, .int .i64 0, .slice none 0 0] 26)
  have hz1 : Z4 w.heap.size ((w.setCell ⟨g, 1, none⟩ (.int .i64 ((i : Int) + 1))).alloc (.cells #[.int .i64 0, .string ⟨#[]⟩, .int .i64 0, .slice none 0 0] 26)) := by
    have := heap_alloc_new (w.setCell ⟨g, 1, none⟩ (.int .i64 ((i : Int) + 1))) (.cells #[.int .i64 0, .string ⟨#[]⟩, .int .i64 0, .slice none 0 0] 26)
    rw [show (w.setCell ⟨g, 1, none⟩ (.int .i64 ((i : Int) + 1))).heap.size = w.heap.size from by simp] at this
    exact this
  have h45 := rmust g B (.ok l) 45 (by decide) _ (hs1.kept hka) hl
  have h49 := fun w' x hs => rmust g B x 49 (by decide) w' hs hl
  have hst : stepE (stepE (stepE (.ok l) (mustB 45)) (mustB 49)) endB = stO (arr0 l) := by
    unfold arr0 andB unitB stepE
    simp only
    cases mustB 45 l with
    | error e => rfl
    | ok r1 =>
      simp only
      cases mustB 49 r1 with
      | error e => rfl
      | ok r2 =>
        simp only
        cases endB r2 <;> rfl
  have hok : ∀ a r, arr0 l = .ok (a, r) → Rep.mk 7 [] 0 [] = a := by
    intro a r ha
    rw [arr0_eq] at ha
    cases hu : unitB (mustsB [45, 49, 13, 10]) l with
    | error e => rw [hu] at ha; cases ha
    | ok v => obtain ⟨u, t⟩ := v; rw [hu] at ha; cases ha; rfl
  generalize arr0 l = M at *
  rw [show (((45 : UInt8).toNat : Int)) = 45 from rfl] at h45
  rw [show (((49 : UInt8).toNat : Int)) = 49 from rfl] at h49
  have H45 := Lib.hid h45
  have H49 := Lib.hid h49
  have HST := Lib.hid hst
  have HOK := Lib.hid hok
  have HBL := Lib.hid hl
  have HZ1 := Lib.hid hz1
  have HK1 := Lib.hid (hk1.trans (hka.kg g))
  clear h hl hka hs1 hk1 hz1 h45 h49 hst hok
  go_enter Tryd.func40, Tryd.ntmps40
  go_wp2_with fail
  generalize hb : w.heap.size = b at *
  have HB := Lib.hid hb
  clear hb
  refine H45.out.mono ?_
  rintro e w2 ⟨⟨u, rfl⟩, hk2, hs2⟩
  have HK2 := Lib.hid (HK1.out.trans hk2)
  have HZ2 := Lib.hid (HZ1.out.keptS hk2 (by omega))
  have HS2 := Lib.hid (H49.out w2 _ hs2)
  clear hk2 hs2 H45 c1 f1 c2
  go_wp2_with fail
  refine HS2.out.mono ?_
  rintro e w3 ⟨⟨u, rfl⟩, hk3, hs3⟩
  have HK3 := Lib.hid (HK2.out.trans hk3)
  have HZ3 := Lib.hid (HZ2.out.keptS hk3 (by omega))
  have HS3 := Lib.hid (rend g B _ w3 hs3 HBL.out)
  clear hk3 hs3 HS2
  go_wp2_with fail
  refine HS3.out.mono ?_
  rintro e w4 ⟨⟨u, rfl⟩, hk4, hs4⟩
  rw [HST.out] at hs4
  have HK4 := Lib.hid (HK3.out.trans hk4)
  have HZ4 := Lib.hid (HZ3.out.keptS hk4 (by omega))
  have HS4 := Lib.hid hs4
  obtain ⟨e0, e1, e2, e3⟩ := blk4 HZ4.out
  have hz4 := fun i => frozenB HZ4.out i
  have HSET := Lib.hid (set4 HZ4.out (.int .i64 7) (.string ⟨#[]⟩) (.int .i64 0) (.slice none 0 0))
  clear hk4 hs4 HS3
  go_wp2_with fail
  refine bodyPost_ret (v := .agg #[.int .i64 7, .string ⟨#[]⟩, .int .i64 0, .slice none 0 0]) ((results_cell rfl _ _ _).trans ?_) rfl ?_
  · obtain ⟨f0, f1, f2, f3⟩ := blk4 HSET.out.1
    generalize ((((w4.setCell ⟨b, 0, none⟩ (.int .i64 7)).setCell ⟨b, 1, none⟩ (.string ⟨#[]⟩)).setCell ⟨b, 2, none⟩ (.int .i64 0)).setCell ⟨b, 3, none⟩ (.slice none 0 0)) = W6 at *
    go_simp
  · exact rleaf 7 [] 0 HK4.out HS4.out hgb HB.out HZ4.out (by decide) (by decide) (by simp) HOK.out

set_option maxRecDepth 100000 in
set_option maxHeartbeats 3200000 in
theorem rbulk (g : Nat) (B l : Bs) (w : World) (h : StR w g B (.ok l)) (hl : B.length ≤ 1000000000) :
    Calls Tryd.prog 44 #[.pointer (some ⟨g, 0, none⟩)] w (EndR g B (bulkE l) (retM w.heap.size) (badM w.heap.size) w) := by
  have hbe := bulk_eq l
  rw [count_cntE] at hbe
  obtain ⟨M, hM⟩ : ∃ M, M = bulkE l := ⟨_, rfl⟩
  rw [← hM] at hbe ⊢
  have hka := Kept.allocd w (.cells #[.int .i64 0, .string ⟨#[]⟩, .int .i64 0, .slice none 0 0] 26)
  have hza : Z4 w.heap.size (w.alloc (.cells #[.int .i64 0, .string ⟨#[]⟩, .int .i64 0, .slice none 0 0] 26)) := heap_alloc_new w _
  have hgb := h.lt
  have hcn := fun n q r (h1 : cntB 65536 l = .ok (some n, q)) (h2 : endB q = .ok r) => countB_le (most := 65536) (l := l) (n := n) (q := r) (by rw [count_cntE]; unfold cntE; rw [h1]; simp only [h2])
  have hc := rcount g B l 65536 _ (h.kept hka) hl (by decide) (by decide)
  rw [show (((65536 : Nat) : Int)) = 65536 from rfl] at hc
  have HC := Lib.hid hc
  have HBE := Lib.hid hbe
  have HCN := Lib.hid hcn
  have HBL := Lib.hid hl
  have HZA := Lib.hid hza
  have HKA := Lib.hid hka
  clear h hl hka hza hc hbe hM hcn
  go_enter Tryd.func44, Tryd.ntmps44
  go_wp2_with fail
  generalize w.alloc (.cells #[.int .i64 0, .string ⟨#[]⟩, .int .i64 0, .slice none 0 0] 26) = W1 at *
  generalize hb : w.heap.size = b at *
  have HB := Lib.hid hb
  clear hb
  refine HC.out.mono ?_
  rintro e w2 ⟨hk2, v, rfl, hm2⟩
  have HK2 := Lib.hid ((HKA.out.kg g).trans hk2)
  have HZ2 := Lib.hid (HZA.out.keptS hk2 (by omega))
  clear hk2 HC HKA HZA
  have hv : ∃ (x : Int) (x1 : Except Flt Bs), v = .int .i64 x ∧ StR w2 g B x1 ∧ -9223372036854775808 ≤ x ∧ x ≤ 9223372036854775807 ∧
      ((∃ f, stepE x1 endB = .error f ∧ M = .error f) ∨ (∃ r, stepE x1 endB = .ok r ∧ x = -1 ∧ M = .ok (.mk 5 [] 0 [], r)) ∨
       ∃ r n, stepE x1 endB = .ok r ∧ x = (n : Nat) ∧ n ≤ 65536 ∧ M = if r.length < n then .error (0, true) else match unitB (mustsB [13, 10]) (r.drop n) with | .error e => .error e | .ok (_, t) => .ok (.mk 4 (r.take n) 0 [], t)) := by
    have hbe := HBE.out
    unfold cntE at hbe
    cases hcb : cntB 65536 l with
    | error f =>
      rw [hcb] at hm2 hbe
      obtain ⟨⟨x, rfl, hx⟩, hs⟩ := hm2
      exact ⟨x, _, rfl, hs, hx.1, hx.2, .inl ⟨f, rfl, hbe⟩⟩
    | ok p =>
      obtain ⟨o, q⟩ := p
      rw [hcb] at hm2 hbe
      obtain ⟨rfl, hs⟩ := hm2
      simp only at hbe
      cases he : endB q with
      | error f =>
        rw [he] at hbe
        simp only at hbe
        cases o with
        | none => exact ⟨-1, _, rfl, hs, by decide, by decide, .inl ⟨f, he, hbe⟩⟩
        | some n =>
          have hn : n ≤ 65536 := by
            cases hl : l with
            | nil => rw [hl] at hcb; cases hcb
            | cons c r =>
              rw [hl, cntB] at hcb
              by_cases h45 : c = 45
              · rw [if_pos h45] at hcb
                cases h49 : mustB 49 r with
                | error e => rw [h49] at hcb; cases hcb
                | ok t => rw [h49] at hcb; cases hcb
              · rw [if_neg h45] at hcb
                cases hn : numbB 65536 (c :: r) with
                | error e => rw [hn] at hcb; cases hcb
                | ok v => obtain ⟨n', t⟩ := v; rw [hn] at hcb; cases hcb; exact numbB_le hn
          exact ⟨n, _, rfl, hs, by omega, by omega, .inl ⟨f, he, hbe⟩⟩
      | ok r =>
        rw [he] at hbe
        simp only at hbe
        cases o with
        | none => exact ⟨-1, _, rfl, hs, by decide, by decide, .inr (.inl ⟨r, he, rfl, hbe⟩)⟩
        | some n =>
          have hn := HCN.out n q r hcb he
          exact ⟨n, _, rfl, hs, by omega, by omega, .inr (.inr ⟨r, n, he, rfl, hn, hbe⟩)⟩
  obtain ⟨x, x1, rfl, hs2, hx1, hx2, hcase⟩ := hv
  have HE := Lib.hid (rend g B x1 w2 hs2 HBL.out)
  have HCASE := Lib.hid hcase
  clear hm2 hs2 hcase HBE HCN
  go_wp2_with fail
  refine HE.out.mono ?_
  rintro e w3 ⟨⟨u, rfl⟩, hk3, hs3⟩
  have HK3 := Lib.hid (HK2.out.trans hk3)
  have HZ3 := Lib.hid (HZ2.out.keptS hk3 (by omega))
  clear hk3 HK2 HZ2 HE
  rcases HCASE.out with ⟨f, e1, hMe⟩ | ⟨r, e1, rfl, hMe⟩ | ⟨r, n, e1, rfl, hn, hMe⟩
  · rw [e1] at hs3
    subst hMe
    have HS3 := Lib.hid hs3
    obtain ⟨e9, d2, hne9⟩ := hs3.bad
    obtain ⟨e0, e1', e2, e3⟩ := blk4 HZ3.out
    have hz4 := fun i => frozenB HZ3.out i
    have hne9b : (e9 != 0) = true := by simpa using hne9
    have HSET := Lib.hid (set4 HZ3.out (.int .i64 5) (.string ⟨#[]⟩) (.int .i64 0) (.slice none 0 0))
    clear hs3 e1 HCASE
    go_wp2_with fail
    refine bodyPost_ret (v := .agg #[.int .i64 5, .string ⟨#[]⟩, .int .i64 0, .slice none 0 0]) ((results_cell rfl _ _ _).trans ?_) rfl ?_
    · obtain ⟨f0, f1, f2, f3⟩ := blk4 HSET.out.1
      generalize ((((w3.setCell ⟨b, 0, none⟩ (.int .i64 5)).setCell ⟨b, 1, none⟩ (.string ⟨#[]⟩)).setCell ⟨b, 2, none⟩ (.int .i64 0)).setCell ⟨b, 3, none⟩ (.slice none 0 0)) = W6 at *
      go_simp
    · exact rleaf 5 [] 0 HK3.out HS3.out hgb HB.out HZ3.out (by decide) (by decide) (by simp) (fun a r h => by cases h)
  · rw [e1] at hs3
    subst hMe
    have HS3 := Lib.hid hs3
    have d2 := hs3.okE
    obtain ⟨e0, e1', e2, e3⟩ := blk4 HZ3.out
    have hz4 := fun i => frozenB HZ3.out i
    have HSET := Lib.hid (set4 HZ3.out (.int .i64 5) (.string ⟨#[]⟩) (.int .i64 0) (.slice none 0 0))
    clear hs3 e1 HCASE
    go_wp2_with fail
    refine bodyPost_ret (v := .agg #[.int .i64 5, .string ⟨#[]⟩, .int .i64 0, .slice none 0 0]) ((results_cell rfl _ _ _).trans ?_) rfl ?_
    · obtain ⟨f0, f1, f2, f3⟩ := blk4 HSET.out.1
      generalize ((((w3.setCell ⟨b, 0, none⟩ (.int .i64 5)).setCell ⟨b, 1, none⟩ (.string ⟨#[]⟩)).setCell ⟨b, 2, none⟩ (.int .i64 0)).setCell ⟨b, 3, none⟩ (.slice none 0 0)) = W6 at *
      go_simp
    · exact rleaf 5 [] 0 HK3.out HS3.out hgb HB.out HZ3.out (by decide) (by decide) (by simp) (fun a r h => by cases h; rfl)
  · rw [e1] at hs3
    obtain ⟨p, hp⟩ := hs3.toP
    have HP := Lib.hid hp
    obtain ⟨v, hg, hbv, hbl, hpB, hqq⟩ := hp
    obtain ⟨ap, cap, rfl, hcp, _⟩ := hbv.parts
    obtain ⟨c0, c1, c2, f0, f1, f2⟩ := blk3 hg
    have hql : r.length = B.length - p := by rw [hqq, List.length_drop]
    obtain ⟨nB, hnB⟩ : ∃ n, n = B.length := ⟨_, rfl⟩
    have hnB9 : nB ≤ 1000000000 := by have := HBL.out; omega
    have HG := Lib.hid hg
    have HBV := Lib.hid hbv
    have HBB := Lib.hid hbl
    rw [← hnB] at c0 hcp hpB hql
    have HNB := Lib.hid hnB
    have HQL := Lib.hid hql
    by_cases hsh : r.length < n
    · rw [if_pos hsh] at hMe
      subst hMe
      have hdec : decide ((nB : Int) - (p : Int) < (n : Int)) = true := decide_eq_true (by omega)
      clear hg hbv hbl hqq hql hs3 e1 hsh hnB HCASE hx1 hx2
      go_wp2_with fail
      go_quiet (fail)
      rename_i nq
      have hk0 := (Kept.refl NoBlock w3).drewN nq
      have HG4 := Lib.hid (hk0.heap HG.out (fun h => h))
      have HBV4 := Lib.hid (HBV.out.keptNo hk0)
      have HK4 := Lib.hid (HK3.out.trans (hk0.kg g))
      have HZ4 := Lib.hid (HZ3.out.keptS hk0 (fun h => h))
      generalize w3.drewN nq = w4 at *
      clear hk0 hdec c0 c1 c2 f0 f1 f2
      obtain ⟨c0, c1, c2, f0, f1, f2⟩ := blk3 HG4.out
      rw [← HNB.out] at c0
      have hs5 := StR.setI (i' := B.length) (x := .ok []) HG4.out HBV4.out HBB.out (Nat.le_refl _) ⟨rfl, by rw [List.drop_length]⟩
      rw [← HNB.out] at hs5
      have HF := Lib.hid (rfail g B (.ok []) _ hs5 HBL.out)
      have hk5 := kg_set (w := w4) g 1 (.int .i64 nB)
      have HK5 := Lib.hid (HK4.out.trans hk5)
      have HZ5 := Lib.hid (HZ4.out.keptS hk5 (by omega))
      clear hs5 hk5
      go_wp2_with fail
      refine HF.out.mono ?_
      rintro e w6 ⟨⟨u, rfl⟩, hk6, hs6⟩
      have HK6 := Lib.hid (HK5.out.trans hk6)
      have HZ6 := Lib.hid (HZ5.out.keptS hk6 (by omega))
      have HS6 := Lib.hid (show StR w6 g B (.error (0, true)) from hs6)
      obtain ⟨e0, e1', e2, e3⟩ := blk4 HZ6.out
      have hz4 := fun i => frozenB HZ6.out i
      have HSET := Lib.hid (set4 HZ6.out (.int .i64 0) (.string ⟨#[]⟩) (.int .i64 0) (.slice none 0 0))
      clear hk6 hs6
      go_wp2_with fail
      refine bodyPost_ret (v := .agg #[.int .i64 0, .string ⟨#[]⟩, .int .i64 0, .slice none 0 0]) ((results_cell rfl _ _ _).trans ?_) rfl ?_
      · obtain ⟨f0, f1, f2, f3⟩ := blk4 HSET.out.1
        generalize ((((w6.setCell ⟨b, 0, none⟩ (.int .i64 0)).setCell ⟨b, 1, none⟩ (.string ⟨#[]⟩)).setCell ⟨b, 2, none⟩ (.int .i64 0)).setCell ⟨b, 3, none⟩ (.slice none 0 0)) = W6 at *
        go_simp
      · exact rleaf 0 [] 0 HK6.out HS6.out hgb HB.out HZ6.out (by decide) (by decide) (by simp) (fun a r h => by cases h)
    · rw [if_neg hsh] at hMe
      have hsh2 : n ≤ nB - p := by omega
      have hdec : decide ((nB : Int) - (p : Int) < (n : Int)) = false := decide_eq_false (by omega)
      have HMM := Lib.hid hMe
      clear hg hbv hbl hqq hql hnB hs3 hMe hsh e1 HCASE hx1 hx2
      go_wp2_with fail
      go_quiet (fail)
      rename_i nq
      have hk0 := (Kept.refl NoBlock w3).drewN nq
      have HP3 := Lib.hid (HP.out.kept hk0)
      have HK4 := Lib.hid (HK3.out.trans (hk0.kg g))
      have HZ4 := Lib.hid (HZ3.out.keptS hk0 (fun h => h))
      generalize w3.drewN nq = w4 at *
      clear hdec hk0 c0 c1 c2 f0 f1 f2 HG HBV HBB HP HK3 HZ3
      obtain ⟨v, hg, hbv, hbl, hpB2, hqq⟩ := HP3.out
      obtain ⟨ap, cap, rfl, hcp2, _⟩ := hbv.parts
      obtain ⟨c0, c1, c2, f0, f1, f2⟩ := blk3 hg
      have hpart := hbv.part p (p + n) (by omega) (by have := HNB.out; omega)
      rw [Nat.add_sub_cancel_left, List.drop_take, Nat.add_sub_cancel_left, ← hqq] at hpart
      have hcv := fun n0 => conv_of (w := w4.drewN n0) (hpart.kept ((Kept.refl NoBlock w4).drewN n0) (fun _ _ h => h))
      have hi5 := fun n0 => StR.setI (w := w4.drewN n0) (i' := p + n) (x := .ok (r.drop n)) (((Kept.refl NoBlock w4).drewN n0).heap hg (fun h => h)) (hbv.keptNo ((Kept.refl NoBlock w4).drewN n0)) hbl (by have := HNB.out; omega) ⟨rfl, by rw [hqq, List.drop_drop]⟩
      rw [← HNB.out] at c0 hcp2
      have HS := Lib.hid hcv
      have HI5 := Lib.hid hi5
      have hp9 : p ≤ 1000000000 := by omega
      have hpn : (p : Int) + (n : Int) ≤ (nB : Int) := by omega
      clear hg hbv hbl hqq hpart hcv hpB2 hi5
      go_wp2_with fail
      have hcv := HS.out
      go_quiet (fail)
      clear hcv HS
      have hk0 := (Kept.refl NoBlock w4).drewN nq
      have hc1 : (w4.drewN nq).cell? ⟨g, 1, none⟩ = some (.int .i64 p) := c1
      have hf1 : (w4.drewN nq).frozen? ⟨g, 1, none⟩ = false := f1
      have hs5 := HI5.out nq
      rw [show (((p + n : Nat) : Int)) = (p : Int) + (n : Int) by omega] at hs5
      have hkk := kg_set (w := w4.drewN nq) g 1 (.int .i64 ((p : Int) + (n : Int)))
      have HS5 := Lib.hid hs5
      have HK5 := Lib.hid (HK4.out.trans ((hk0.kg g).trans hkk))
      have HZ5 := Lib.hid ((HZ4.out.keptS hk0 (fun h => h)).keptS hkk (by omega))
      generalize w4.drewN nq = w5 at *
      clear c0 c1 c2 f0 f1 f2 hk0 hs5 hkk HI5 HP3
      have HE := Lib.hid (rend g B (.ok (r.drop n)) _ HS5.out HBL.out)
      obtain ⟨s, hs⟩ : ∃ s, s = r.take n := ⟨_, rfl⟩
      have hsl : s.length ≤ 1000000000 := by rw [hs, List.length_take]; omega
      have hst : stepE (.ok (r.drop n)) endB = stO M := by
        rw [HMM.out]
        unfold unitB stepE
        rw [musts_end]
        simp only
        cases endB (r.drop n) <;> rfl
      have hok : ∀ a t, M = .ok (a, t) → Rep.mk 4 s 0 [] = a := by
        intro a t ha
        rw [HMM.out] at ha
        cases hu : unitB (mustsB [13, 10]) (r.drop n) with
        | error e => rw [hu] at ha; cases ha
        | ok v => obtain ⟨u, t⟩ := v; rw [hu] at ha; cases ha; rw [hs]
      have HST := Lib.hid hst
      have HOK := Lib.hid hok
      rw [← hs]
      clear hs hst hok HMM
      go_wp2_with fail
      refine HE.out.mono ?_
      rintro e w6 ⟨⟨u, rfl⟩, hk6, hs6⟩
      rw [HST.out] at hs6
      have HK6 := Lib.hid (HK5.out.trans hk6)
      have HZ6 := Lib.hid (HZ5.out.keptS hk6 (by omega))
      have HS6 := Lib.hid hs6
      obtain ⟨e0, e1', e2, e3⟩ := blk4 HZ6.out
      have hz4 := fun i => frozenB HZ6.out i
      have HSET := Lib.hid (set4 HZ6.out (.int .i64 4) (.string ⟨s.toArray⟩) (.int .i64 0) (.slice none 0 0))
      clear hk6 hs6
      go_wp2_with fail
      refine bodyPost_ret (v := .agg #[.int .i64 4, .string ⟨s.toArray⟩, .int .i64 0, .slice none 0 0]) ((results_cell rfl _ _ _).trans ?_) rfl ?_
      · obtain ⟨f0, f1, f2, f3⟩ := blk4 HSET.out.1
        generalize ((((w6.setCell ⟨b, 0, none⟩ (.int .i64 4)).setCell ⟨b, 1, none⟩ (.string ⟨s.toArray⟩)).setCell ⟨b, 2, none⟩ (.int .i64 0)).setCell ⟨b, 3, none⟩ (.slice none 0 0)) = W6 at *
        go_simp
      · exact rleaf 4 s 0 HK6.out HS6.out hgb HB.out HZ6.out (by decide) (by decide) hsl HOK.out
end Go.Proofs.YtpekeilpdbdnnaaDoor
