/- Merged: Only what is told is read: the law. -/
import Derived.Test.YtfhlhpknobkplaaDoorZAw
set_option linter.all false
namespace Go.Proofs.YtfhlhpknobkplaaDoor
open Go.RowKit
attribute [local go_sem] fold_part fold_some fold_some' partAt_zero

theorem decB_err {b : Bs} {c : Int} (h : decB b = .error c) : c ≠ 0 := by
  unfold decB at h
  split at h
  · cases h; decide
  · split at h
    · cases h; decide
    · cases hg : getAll ((b.take (b.length - 4)).drop 9) with
      | none => rw [hg] at h; cases h; decide
      | some p =>
        obtain ⟨⟨id, off, l⟩, r⟩ := p
        rw [hg] at h
        simp only at h
        cases he : encB id off l with
        | error e => rw [he] at h; cases h; decide
        | ok x =>
          rw [he] at h
          simp only at h
          split at h
          · cases h
          · cases h; decide
theorem getAll_len {b r : Bs} {id : Nat} {off : Int} {l : List Ent} (h : getAll b = some ((id, off, l), r)) : l.length ≤ b.length ∧ ∀ e ∈ l, SizedN b.length e := by
  unfold getAll at h
  cases h1 : numB 8 b with
  | none => rw [h1] at h; cases h
  | some p =>
    obtain ⟨k, r1⟩ := p
    rw [h1] at h
    simp only at h
    cases h2 : numB 8 r1 with
    | none => rw [h2] at h; cases h
    | some p =>
      obtain ⟨a, r2⟩ := p
      rw [h2] at h
      simp only at h
      cases h3 : numB 4 r2 with
      | none => rw [h3] at h; cases h
      | some p =>
        obtain ⟨n, r3⟩ := p
        rw [h3] at h
        simp only at h
        cases h4 : getEs n r3 with
        | none => rw [h4] at h; cases h
        | some p =>
          obtain ⟨l2, q⟩ := p
          rw [h4] at h
          simp only at h
          cases h
          have l1 := numB_len h1
          have l2' := numB_len h2
          have l3 := numB_len h3
          obtain ⟨hf, hn, hs⟩ := getEs_len n r3 h4
          have := flat_le entB (fun e => by unfold entB; rw [List.length_cons]; omega) l
          exact ⟨by omega, fun e he => (hs e he).mono (by omega)⟩
theorem decB_sized {b : Bs} {id : Nat} {off : Int} {l : List Ent} (h : decB b = .ok (id, off, l)) : l.length ≤ b.length ∧ ∀ e ∈ l, SizedN b.length e := by
  unfold decB at h
  split at h
  · cases h
  · split at h
    · cases h
    · cases hg : getAll ((b.take (b.length - 4)).drop 9) with
      | none => rw [hg] at h; cases h
      | some p =>
        obtain ⟨⟨id', off', l'⟩, r⟩ := p
        rw [hg] at h
        simp only at h
        cases he : encB id' off' l' with
        | error e => rw [he] at h; cases h
        | ok x =>
          rw [he] at h
          simp only at h
          split at h
          · cases h
            obtain ⟨h1, h2⟩ := getAll_len hg
            have hl : ((b.take (b.length - 4)).drop 9).length ≤ b.length := by rw [List.length_drop, List.length_take]; omega
            exact ⟨by omega, fun e he => (h2 e he).mono hl⟩
          · cases h

set_option maxRecDepth 100000 in
set_option maxHeartbeats 1600000 in
theorem law_only (v : Value) (b : Bs) (w : World) (hV : Vs w) (h : BytesV w v b) :
    Calls Tryd.prog 7 #[v] w fun e w' => e = .returned (.bool true) ∧ Kept NoBlock w w' := by
  obtain ⟨ap, cap, rfl, _⟩ := h.parts
  have HV := Lib.hid hV
  have HH := Lib.hid h
  have haw := lawake w hV
  have HA := Lib.hid haw
  have hl := cutB_le b
  clear hV h haw
  go_enter Tryd.func7, Tryd.ntmps7
  go_wp2_with fail
  (with_reducible refine HA.out.mono ?_)
  rintro e w1 ⟨rfl, hk1⟩
  have HK1 := Lib.hid hk1
  have HC := Lib.hid (pcutB _ b w1 (HH.out.keptNo hk1))
  clear hk1
  go_wp2_with fail
  (with_reducible refine HC.out.mono ?_)
  rintro e w2 ⟨⟨va, rfl, hA, _⟩, rfl⟩
  generalize cutB b = B at *
  obtain ⟨apB, capB, rfl, _⟩ := hA.parts
  have HB := Lib.hid hA
  have HD := Lib.hid (pDecode _ B w2 (HV.out.kept HK1.out) hA (by omega))
  clear hA HC
  go_wp2_with fail
  (with_reducible refine HD.out.mono ?_)
  rintro e w3 ⟨hk3, he⟩
  have HK3 := Lib.hid (HK1.out.trans hk3)
  have HB3 := Lib.hid (HB.out.keptNo hk3)
  clear hk3 HD
  cases hd : decB B with
  | error c =>
    have hc := decB_err hd
    rw [hd] at he
    simp only at he
    subst he
    have hcb : ((c : Int) == 0) = false := by rw [beq_eq_false_iff_ne]; exact hc
    clear hd
    go_wp2_with fail
    go_ret
    exact ⟨rfl, HK3.out.alloc _⟩
  | ok p =>
    obtain ⟨id, off, l⟩ := p
    rw [hd] at he
    simp only at he
    obtain ⟨v3, ms, rfl, rfl, hes⟩ := he
    obtain ⟨hn, hsz⟩ := decB_sized hd
    have hin := decB_in hd
    have hen := enc_dec hd
    rw [List.length_map] at hn
    have hka := Kept.allocd w3 (.cells #[.int .u64 id, .int .i64 off, .int .u64 0, .int .i64 0] 32)
    have hpe := pEncode (w3.alloc (.cells #[.int .u64 id, .int .i64 off, .int .u64 0, .int .i64 0] 32)) id 0 off 0 v3 ms (HV.out.kept (HK3.out.trans hka)) (hes.kept hka) hin.1 (by omega) (fun m hm => (hsz m.e (List.mem_map_of_mem hm)).sized (by omega))
      (fun _ => by
        have := (encB_ok hen).2.2.2
        have h1 := congrArg List.length this
        rw [List.length_append, leB_len] at h1
        omega)
    rw [hen, show (((0 : Nat) : Int)) = 0 from rfl] at hpe
    obtain ⟨ap3, cap3, rfl, _⟩ := hes.1.parts
    have HPE := Lib.hid hpe
    have HK4 := Lib.hid (HK3.out.trans hka)
    have HB4 := Lib.hid (HB3.out.keptNo hka)
    clear hd hes hn hsz hin hen hka hpe
    go_wp2_with fail
    generalize w3.alloc (.cells #[.int .u64 id, .int .i64 off, .int .u64 0, .int .i64 0] 32) = w4 at *
    (with_reducible refine HPE.out.mono ?_)
    rintro e w5 he
    obtain ⟨v5, rfl, hown, hk5⟩ := he
    obtain ⟨ap5, cap5, rfl, _⟩ := OwnM.form hown
    have hcv1 := conv_of hown.bytes
    have hcv2 := conv_of (HB4.out.keptNo hk5)
    have HK5 := Lib.hid (HK4.out.trans hk5)
    clear hown hk5 HPE
    go_wp2_with fail
    go_ret
    exact ⟨by simp, HK5.out⟩
end Go.Proofs.YtfhlhpknobkplaaDoor
