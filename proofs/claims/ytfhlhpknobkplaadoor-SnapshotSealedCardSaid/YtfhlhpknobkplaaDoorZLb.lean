/- Merged: Only what is told is read: the law; Entries, not too great to be looked at; Two rows of entries that are the same, by the document; There and back; what is spoilt: the laws. -/
import Derived.Test.YtfhlhpknobkplaaDoorZAw
set_option linter.all false
namespace Go.Proofs.YtfhlhpknobkplaaDoor
open Go.RowKit
attribute [local go_sem] fold_part fold_some fold_some' partAt_zero

theorem decB_err {b : Bs} {c : Int} (h : decB b = .error c) : c ≠ 0 := by
  unfold decB at h
  split at h
  · cases h; decide
  · split at h
    · cases h; decide
    · cases hg : getAll ((b.take (b.length - 4)).drop 9) with
      | none => rw [hg] at h; cases h; decide
      | some p =>
        obtain ⟨⟨id, off, l⟩, r⟩ := p
        rw [hg] at h
        simp only at h
        cases he : encB id off l with
        | error e => rw [he] at h; cases h; decide
        | ok x =>
          rw [he] at h
          simp only at h
          split at h
          · cases h
          · cases h; decide
theorem getAll_len {b r : Bs} {id : Nat} {off : Int} {l : List Ent} (h : getAll b = some ((id, off, l), r)) : l.length ≤ b.length ∧ ∀ e ∈ l, SizedN b.length e := by
  unfold getAll at h
  cases h1 : numB 8 b with
  | none => rw [h1] at h; cases h
  | some p =>
    obtain ⟨k, r1⟩ := p
    rw [h1] at h
    simp only at h
    cases h2 : numB 8 r1 with
    | none => rw [h2] at h; cases h
    | some p =>
      obtain ⟨a, r2⟩ := p
      rw [h2] at h
      simp only at h
      cases h3 : numB 4 r2 with
      | none => rw [h3] at h; cases h
      | some p =>
        obtain ⟨n, r3⟩ := p
        rw [h3] at h
        simp only at h
        cases h4 : getEs n r3 with
        | none => rw [h4] at h; cases h
        | some p =>
          obtain ⟨l2, q⟩ := p
          rw [h4] at h
          simp only at h
          cases h
          have l1 := numB_len h1
          have l2' := numB_len h2
          have l3 := numB_len h3
          obtain ⟨hf, hn, hs⟩ := getEs_len n r3 h4
          have := flat_le entB (fun e => by unfold entB; rw [List.length_cons]; omega) l
          exact ⟨by omega, fun e he => (hs e he).mono (by omega)⟩
theorem decB_sized {b : Bs} {id : Nat} {off : Int} {l : List Ent} (h : decB b = .ok (id, off, l)) : l.length ≤ b.length ∧ ∀ e ∈ l, SizedN b.length e := by
  unfold decB at h
  split at h
  · cases h
  · split at h
    · cases h
    · cases hg : getAll ((b.take (b.length - 4)).drop 9) with
      | none => rw [hg] at h; cases h
      | some p =>
        obtain ⟨⟨id', off', l'⟩, r⟩ := p
        rw [hg] at h
        simp only at h
        cases he : encB id' off' l' with
        | error e => rw [he] at h; cases h
        | ok x =>
          rw [he] at h
          simp only at h
          split at h
          · cases h
            obtain ⟨h1, h2⟩ := getAll_len hg
            have hl : ((b.take (b.length - 4)).drop 9).length ≤ b.length := by rw [List.length_drop, List.length_take]; omega
            exact ⟨by omega, fun e he => (h2 e he).mono hl⟩
          · cases h

set_option maxRecDepth 100000 in
set_option maxHeartbeats 1600000 in
theorem law_only (v : Value) (b : Bs) (w : World) (hV : Vs w) (h : BytesV w v b) :
    Calls Tryd.prog 7 #[v] w fun e w' => e = .returned (.bool true) ∧ Kept NoBlock w w' := by
  obtain ⟨ap, cap, rfl, _⟩ := h.parts
  have HV := Lib.hid hV
  have HH := Lib.hid h
  have haw := lawake w hV
  have HA := Lib.hid haw
  have hl := cutB_le b
  clear hV h haw
  go_enter Tryd.func7, Tryd.ntmps7
  go_wp2_with fail
  (with_reducible refine HA.out.mono ?_)
  rintro e w1 ⟨rfl, hk1⟩
  have HK1 := Lib.hid hk1
  have HC := Lib.hid (pcutB _ b w1 (HH.out.keptNo hk1))
  clear hk1
  go_wp2_with fail
  (with_reducible refine HC.out.mono ?_)
  rintro e w2 ⟨⟨va, rfl, hA, _⟩, rfl⟩
  generalize cutB b = B at *
  obtain ⟨apB, capB, rfl, _⟩ := hA.parts
  have HB := Lib.hid hA
  have HD := Lib.hid (pDecode _ B w2 (HV.out.kept HK1.out) hA (by omega))
  clear hA HC
  go_wp2_with fail
  (with_reducible refine HD.out.mono ?_)
  rintro e w3 ⟨hk3, he⟩
  have HK3 := Lib.hid (HK1.out.trans hk3)
  have HB3 := Lib.hid (HB.out.keptNo hk3)
  clear hk3 HD
  cases hd : decB B with
  | error c =>
    have hc := decB_err hd
    rw [hd] at he
    simp only at he
    subst he
    have hcb : ((c : Int) == 0) = false := by rw [beq_eq_false_iff_ne]; exact hc
    clear hd
    go_wp2_with fail
    go_ret
    exact ⟨rfl, HK3.out.alloc _⟩
  | ok p =>
    obtain ⟨id, off, l⟩ := p
    rw [hd] at he
    simp only at he
    obtain ⟨v3, ms, rfl, rfl, hes⟩ := he
    obtain ⟨hn, hsz⟩ := decB_sized hd
    have hin := decB_in hd
    have hen := enc_dec hd
    rw [List.length_map] at hn
    have hka := Kept.allocd w3 (.cells #[.int .u64 id, .int .i64 off, .int .u64 0, .int .i64 0] 32)
    have hpe := pEncode (w3.alloc (.cells #[.int .u64 id, .int .i64 off, .int .u64 0, .int .i64 0] 32)) id 0 off 0 v3 ms (HV.out.kept (HK3.out.trans hka)) (hes.kept hka) hin.1 (by omega) (fun m hm => (hsz m.e (List.mem_map_of_mem hm)).sized (by omega))
      (fun _ => by
        have := (encB_ok hen).2.2.2
        have h1 := congrArg List.length this
        rw [List.length_append, leB_len] at h1
        omega)
    rw [hen, show (((0 : Nat) : Int)) = 0 from rfl] at hpe
    obtain ⟨ap3, cap3, rfl, _⟩ := hes.1.parts
    have HPE := Lib.hid hpe
    have HK4 := Lib.hid (HK3.out.trans hka)
    have HB4 := Lib.hid (HB3.out.keptNo hka)
    clear hd hes hn hsz hin hen hka hpe
    go_wp2_with fail
    generalize w3.alloc (.cells #[.int .u64 id, .int .i64 off, .int .u64 0, .int .i64 0] 32) = w4 at *
    (with_reducible refine HPE.out.mono ?_)
    rintro e w5 he
    obtain ⟨v5, rfl, hown, hk5⟩ := he
    obtain ⟨ap5, cap5, rfl, _⟩ := OwnM.form hown.t
    have hcv1 := conv_of hown.bytes
    have hcv2 := conv_of (HB4.out.keptNo hk5)
    have HK5 := Lib.hid (HK4.out.trans hk5)
    clear hown hk5 HPE
    go_wp2_with fail
    go_ret
    exact ⟨by simp, HK5.out⟩
end Go.Proofs.YtfhlhpknobkplaaDoor
namespace Go.Proofs.YtfhlhpknobkplaaDoor
open Go.RowKit
attribute [local go_sem] fold_part fold_some fold_some' partAt_zero

def cntE (e : Ent) : Nat := 1 + e.v.L.length + e.v.Z.length + e.v.H.length
def cntAll (l : List Ent) : Nat := (l.map cntE).sum
theorem cntAll_snoc (l : List Ent) (e : Ent) : cntAll (l ++ [e]) = cntAll l + cntE e := by unfold cntAll; simp
theorem cnt_mem {l : List Ent} {e : Ent} (h : e ∈ l) : cntE e ≤ cntAll l := by
  induction l with
  | nil => cases h
  | cons a l ih =>
    unfold cntAll
    rw [List.map_cons, List.sum_cons]
    rcases List.mem_cons.1 h with rfl | h
    · omega
    · have := ih h
      unfold cntAll at this
      omega
theorem cnt_len : ∀ l : List Ent, l.length ≤ cntAll l
  | [] => Nat.zero_le _
  | a :: l => by
    have := cnt_len l
    have hc : 1 ≤ cntE a := by unfold cntE; omega
    unfold cntAll at this ⊢
    rw [List.map_cons, List.sum_cons, List.length_cons]
    omega
theorem RowK.front {α : Type} {k : Nat} {f : α → List Value} (hf : ∀ x, (f x).length = k) {w : World} {ap : Option Addr} {n cap : Nat} {xs : List α} (h : RowK k f w (.slice ap n cap) xs) (i : Nat) (hi : i ≤ n) : RowK k f w (.slice ap i cap) (xs.take i) := by
  obtain ⟨ap', cap', e, h1, h2, h3⟩ := h
  cases e
  refine ⟨ap, cap, by rw [List.length_take, Nat.min_eq_left hi], ⟨flat_len hf _, fun hp => ?_⟩, by rw [List.length_take]; omega, h3⟩
  rw [List.length_take, Nat.min_eq_left hi] at hp
  obtain ⟨ad, e, hc⟩ := h1.2 (by
    rcases Nat.eq_zero_or_pos k with hk | hk
    · subst hk; rw [Nat.zero_mul] at hp; omega
    · rcases Nat.eq_zero_or_pos xs.length with hx | hx
      · have : i = 0 := by omega
        subst this; rw [Nat.mul_zero] at hp; omega
      · exact Nat.mul_pos hk hx)
  refine ⟨ad, e, fun j v hj => hc j v ?_⟩
  have : xs.flatMap f = (xs.take i).flatMap f ++ (xs.drop i).flatMap f := by rw [← List.flatMap_append, List.take_append_drop]
  rw [this, List.getElem?_append_left (List.getElem?_eq_some_iff.1 hj).1]
  exact hj

theorem textB_short {s : Bs} (h : shortB s = true) : (textB s).length ≤ 65540 := by
  rw [textB_len]
  unfold shortB at h
  have := of_decide_eq_true h
  omega
theorem flat_small {α : Type} {f : α → Bs} {c : Nat} : ∀ {l : List α}, (∀ x ∈ l, (f x).length ≤ c) → (l.flatMap f).length ≤ c * l.length
  | [], _ => by simp
  | x :: l, h => by
    have h1 := h x (by simp)
    have h2 := flat_small (l := l) (fun y hy => h y (by simp [hy]))
    rw [List.flatMap_cons, List.length_append, List.length_cons, Nat.mul_add]
    omega
theorem val_small {v : Val} (h : valOk v = true) : (bodyV v).length ≤ 65540 + 131080 * (v.L.length + v.Z.length + v.H.length) := by
  unfold valOk at h
  unfold bodyV
  split at h
  · rename_i hk
    rw [if_pos hk]
    simp only [Bool.and_eq_true] at h
    have := textB_short h.1
    omega
  · rename_i h1
    rw [if_neg h1]
    split at h
    · rename_i hk
      rw [if_neg (by omega), if_neg (by omega)]
      simp only [Bool.and_eq_true, List.all_eq_true] at h
      have := flat_small (f := textB) (c := 65540) (fun s hs => textB_short (h.2 s hs))
      rw [List.length_append, leB_len]
      omega
    · split at h
      · rename_i hk
        rw [if_neg (by omega), if_neg (by omega)]
        simp only [Bool.and_eq_true, List.all_eq_true] at h
        have := flat_small (f := textB) (c := 65540) (fun s hs => textB_short (h.1.2 s hs))
        rw [List.length_append, leB_len]
        omega
      · split at h
        · rename_i hk
          rw [if_pos hk]
          simp only [Bool.and_eq_true, List.all_eq_true] at h
          have := flat_small (f := fun z : Bs × Int => textB z.1 ++ leB 8 (wrapU z.2)) (c := 65548) (fun s hs => by
            have := textB_short (h.1.1.2 s hs)
            rw [List.length_append, leB_len]; omega)
          rw [List.length_append, leB_len]
          omega
        · split at h
          · rename_i hk
            rw [if_neg (by omega), if_pos hk]
            simp only [Bool.and_eq_true, List.all_eq_true] at h
            have := flat_small (f := fun f : Bs × Bs => textB f.1 ++ textB f.2) (c := 131080) (fun s hs => by
              have h1 := textB_short (h.1.2 s hs).1
              have h2 := textB_short (h.1.2 s hs).2
              rw [List.length_append]; omega)
            rw [List.length_append, leB_len]
            omega
          · cases h
theorem ent_small {e : Ent} (h : entOk e = true) : (entB e).length ≤ 131100 * cntE e := by
  unfold entOk at h
  simp only [Bool.and_eq_true] at h
  have h1 := textB_short h.1.1
  have h2 := val_small h.2
  unfold entB cntE
  simp only [List.length_cons, List.length_append, leB_len]
  omega
theorem ents_small : ∀ {l : List Ent}, (∀ e ∈ l, entOk e = true) → (l.flatMap entB).length ≤ 131100 * cntAll l
  | [], _ => by simp
  | a :: l, h => by
    have h1 := ent_small (h a (by simp))
    have h2 := ents_small (l := l) (fun e he => h e (by simp [he]))
    have h3 : cntAll (a :: l) = cntE a + cntAll l := by unfold cntAll; rw [List.map_cons, List.sum_cons]
    rw [List.flatMap_cons, List.length_append, h3, Nat.mul_add]
    omega
theorem few_small {id : Nat} {off : Int} {l : List Ent} (hc : checkE l = 0) (h : cntAll l ≤ 300) : (writtenB id off l).length + 4 ≤ 67108864 := by
  have := ents_small (checkE_ok hc).2
  simp only [writtenB, frontB, List.length_append, leB_len, signB, List.length_cons, List.length_nil]
  omega
theorem few_sized {l : List Ent} (h : cntAll l ≤ 300) (hz : ∀ e ∈ l, ∀ z ∈ e.v.Z, z.1.length ≤ 1000000000000000) : l.length ≤ 300 ∧ ∀ e ∈ l, SizedM e :=
  ⟨Nat.le_trans (cnt_len l) h, fun e he => by
    have := cnt_mem he
    unfold cntE at this
    exact ⟨by omega, by omega, by omega, hz e he⟩⟩

/-- What is looked at. -/
def FewEnd (ms : List EntM) (w : World) (e : Ending) (w' : World) : Prop := ∃ k v', e = .returned v' ∧ k ≤ ms.length ∧ RowK 7 eCells w v' (ms.take k) ∧ cntAll ((ms.take k).map (·.e)) ≤ 300 ∧ Kept NoBlock w w'

set_option maxRecDepth 100000 in
set_option maxHeartbeats 1600000 in
theorem pfew (v : Value) (ms : List EntM) (w : World) (h : EntsV w v ms) (hn : ms.length ≤ 4000000000000000000) (hb : ∀ m ∈ ms, m.e.v.L.length + m.e.v.Z.length + m.e.v.H.length ≤ 1000000000000000000) :
    Calls Tryd.prog 18 #[v] w (FewEnd ms w) := by
  have hrow := h.1
  obtain ⟨ap, cap, rfl, hcp, _⟩ := hrow.parts
  have HROW := Lib.hid hrow
  have HSUB := Lib.hid h.2
  have HBO := Lib.hid hb
  obtain ⟨n, hnn⟩ : ∃ n, n = ms.length := ⟨_, rfl⟩
  rw [← hnn] at hn hcp HROW ⊢
  have HN := Lib.hid hnn
  clear hrow h hb hnn
  go_enter Tryd.func18, Tryd.ntmps18
  go_wp2_with fail
  go_loopw [3, 4] (fun v3 v4 wr => ∃ i c : Nat, v4 = .int .i64 i ∧ v3 = .int .i64 c ∧ i ≤ n ∧ c ≤ 300 ∧ cntAll ((ms.take i).map (·.e)) = c ∧ Kept NoBlock w wr) (fun _ v4 _ => n - (intOf v4).toNat)
  case atStart => exact ⟨0, 0, rfl, rfl, Nat.zero_le _, by decide, rfl, Kept.refl _ _⟩
  case round =>
    obtain ⟨i, c, rfl, rfl, hi, hc, hcn, hk⟩ := hrel
    have HCN := Lib.hid hcn
    have HK := Lib.hid hk
    clear hcn hk
    by_cases hlt : i < n
    · have hil : i < ms.length := by have := HN.out; omega
      obtain ⟨m, hm⟩ : ∃ m, ms[i]? = some m := ⟨ms[i], List.getElem?_eq_getElem hil⟩
      have hmm := List.mem_of_getElem? hm
      have hbm := HBO.out m hmm
      have hsb := HSUB.out m hmm
      have hct : cntAll ((ms.take (i + 1)).map (·.e)) = c + cntE m.e := by
        obtain ⟨hl, e⟩ := List.getElem?_eq_some_iff.1 hm
        rw [List.take_succ_eq_append_getElem hl, e, List.map_append, ← HCN.out]
        exact cntAll_snoc _ _
      have HCT := Lib.hid hct
      obtain ⟨ad, rfl, c0, c1, c2, c3, c4, c5, c6⟩ := RowK.at7 (RowK.kept HROW.out HK.out) hm
      obtain ⟨⟨key, ⟨kk, s, L, Z, H⟩, till⟩, vL, vZ, vH⟩ := m
      obtain ⟨apL, capL, eL, _⟩ := hsb.1.parts
      obtain ⟨apZ, capZ, eZ, _⟩ := hsb.2.1.parts
      obtain ⟨apH, capH, eH, _⟩ := hsb.2.2.parts
      simp only [List.length_map] at eL eZ eH hbm
      subst eL eZ eH
      simp only [strV] at c0 c1 c2 c3 c4 c5 c6
      obtain ⟨a, ha⟩ : ∃ a, a = L.length := ⟨_, rfl⟩
      obtain ⟨b, hb⟩ : ∃ a, a = Z.length := ⟨_, rfl⟩
      obtain ⟨d, hd⟩ : ∃ a, a = H.length := ⟨_, rfl⟩
      rw [← ha] at c3 hbm
      rw [← hb] at c4 hbm
      rw [← hd] at c5 hbm
      have hce : cntE ⟨key, ⟨kk, s, L, Z, H⟩, till⟩ = 1 + a + b + d := by unfold cntE; simp only [ha, hb, hd]
      have HCE := Lib.hid hce
      have c2 : wr.cell? ⟨(ad.add (i * 7)).block, (ad.add (i * 7)).off + 1 + 1, none⟩ = some (.string ⟨s.toArray⟩) := c2
      have c3 : wr.cell? ⟨(ad.add (i * 7)).block, (ad.add (i * 7)).off + 1 + 2, none⟩ = some (.slice apL a capL) := c3
      have c4 : wr.cell? ⟨(ad.add (i * 7)).block, (ad.add (i * 7)).off + 1 + 3, none⟩ = some (.slice apZ b capZ) := c4
      have c5 : wr.cell? ⟨(ad.add (i * 7)).block, (ad.add (i * 7)).off + 1 + 4, none⟩ = some (.slice apH d capH) := c5
      have HK2 := Lib.hid (HK.out.alloc (.cells #[.int .i64 kk, .string ⟨s.toArray⟩, .slice apL a capL, .slice apZ b capZ, .slice apH d capH] 54))
      clear hm hmm hsb hct hce ha hb hd hil c0 c6
      by_cases hbig : 300 < c + 1 + a + b + d
      · go_wp2_with fail
        go_ret
        refine ⟨i, .slice (some ad) i cap, rfl, by have := HN.out; omega, RowK.front (k := 7) (f := eCells) (fun _ => rfl) HROW.out i hi, by rw [HCN.out]; exact hc, HK2.out⟩
      · go_wp2_with fail
        go_roundw
        case rel => exact ⟨i + 1, c + 1 + a + b + d, by go_num, by go_num, by omega, by omega, by rw [HCT.out, HCE.out]; omega, HK2.out⟩
        case measure => simp [intOf]; omega
    · obtain rfl : i = n := by omega
      go_wp2_with fail
      go_ret
      have htk : ms.take i = ms := List.take_of_length_le (by have := HN.out; omega)
      refine ⟨i, .slice ap i cap, rfl, by have := HN.out; omega, by rw [htk]; exact HROW.out, by rw [HCN.out]; exact hc, HK.out⟩
end Go.Proofs.YtfhlhpknobkplaaDoor
namespace Go.Proofs.YtfhlhpknobkplaaDoor
open Go.RowKit
attribute [local go_sem] fold_part fold_some fold_some' partAt_zero

set_option maxRecDepth 100000 in
set_option maxHeartbeats 1600000 in
theorem rsame7 (u v : Value) (zs : List (Bs × Int)) (w : World) (hu : RowK 2 zCells w u zs) (hv : RowK 2 zCells w v zs) (hn : zs.length ≤ 70000000) :
    Calls Tryd.prog 44 #[u, v] w fun e w' => e = .returned (.bool true) ∧ Kept NoBlock w w' := by
  obtain ⟨ap, cap, rfl, _⟩ := hu.parts
  obtain ⟨aq, caq, rfl, _⟩ := hv.parts
  have HU := Lib.hid hu
  have HV := Lib.hid hv
  obtain ⟨n, hnn⟩ : ∃ n, n = zs.length := ⟨_, rfl⟩
  rw [← hnn] at hn HU HV ⊢
  have HN := Lib.hid hnn
  clear hu hv hnn
  go_enter Tryd.func44, Tryd.ntmps44
  go_wp2_with fail
  go_loopw [5] (fun v5 wr => ∃ i : Nat, v5 = .int .i64 i ∧ i ≤ n ∧ Kept NoBlock w wr) (fun v5 _ => n - (intOf v5).toNat)
  case atStart => exact ⟨0, rfl, Nat.zero_le _, Kept.refl _ _⟩
  case round =>
    obtain ⟨i, rfl, hi, hk⟩ := hrel
    have HK := Lib.hid hk
    clear hk
    by_cases hlt : i < n
    · have hil : i < zs.length := by have := HN.out; omega
      obtain ⟨z, hz⟩ : ∃ z, zs[i]? = some z := ⟨zs[i], List.getElem?_eq_getElem hil⟩
      obtain ⟨ad, rfl, a0, a1⟩ := agg_two (fun _ => rfl) (HU.out.kept HK.out) hz rfl
      obtain ⟨bd, rfl, b0, b1⟩ := agg_two (fun _ => rfl) (HV.out.kept HK.out) hz rfl
      unfold strV at a0 b0
      clear hz hil
      go_wp2_with fail
      go_quiet (fail)
      clear a0 a1 b0 b1
      go_wp2_with fail
      go_roundw
      case rel => exact ⟨i + 1, by go_num, by omega, HK.out.drewN _⟩
      case measure => simp [intOf]; omega
    · go_wp2_with fail
      go_ret
      exact ⟨rfl, HK.out⟩

theorem cells5 {w : World} {g : Nat} {a b c d e : Value} {T : TypeId} (hg : w.heap[g]? = some (.cells #[a, b, c, d, e] T (0, 0))) : w.cell? ⟨g, 0, none⟩ = some a ∧ w.cell? ⟨g, 1, none⟩ = some b ∧ w.cell? ⟨g, 2, none⟩ = some c ∧ w.cell? ⟨g, 3, none⟩ = some d ∧ w.cell? ⟨g, 4, none⟩ = some e := blk5 hg

set_option maxRecDepth 100000 in
set_option maxHeartbeats 3200000 in
theorem rsamev (kk : Int) (s : Bs) (L : List Bs) (Z : List (Bs × Int)) (H : List (Bs × Bs)) (vL vZ vH uL uZ uH : Value) (w : World) (hL : RowV w vL (L.map strV)) (hZ : RowK 2 zCells w vZ Z) (hH : RowK 2 hCells w vH H)
    (hL' : RowV w uL (L.map strV)) (hZ' : RowK 2 zCells w uZ Z) (hH' : RowK 2 hCells w uH H) (nL : L.length ≤ 70000000) (nZ : Z.length ≤ 70000000) (nH : H.length ≤ 70000000) :
    Calls Tryd.prog 32 #[.agg #[.int .i64 kk, strV s, vL, vZ, vH], .agg #[.int .i64 kk, strV s, uL, uZ, uH]] w fun e w' => e = .returned (.bool true) ∧ Kept NoBlock w w' := by
  obtain ⟨apL, capL, rfl, _⟩ := hL.parts
  obtain ⟨apZ, capZ, rfl, _⟩ := hZ.parts
  obtain ⟨apH, capH, rfl, _⟩ := hH.parts
  obtain ⟨aqL, caqL, rfl, _⟩ := hL'.parts
  obtain ⟨aqZ, caqZ, rfl, _⟩ := hZ'.parts
  obtain ⟨aqH, caqH, rfl, _⟩ := hH'.parts
  rw [List.length_map] at hL hL' ⊢
  have h7 := fun w' (hk : Kept NoBlock w w') => rsame7 _ _ Z w' (hZ.kept hk) (hZ'.kept hk) nZ
  have HL := Lib.hid hL
  have HL' := Lib.hid hL'
  have HH := Lib.hid hH
  have HH' := Lib.hid hH'
  have H7 := Lib.hid h7
  unfold strV
  obtain ⟨S, hS⟩ : ∃ S : ByteArray, S = ⟨s.toArray⟩ := ⟨_, rfl⟩
  rw [← hS]
  obtain ⟨a, ha⟩ : ∃ a, a = L.length := ⟨_, rfl⟩
  obtain ⟨b, hb⟩ : ∃ b, b = Z.length := ⟨_, rfl⟩
  obtain ⟨c, hc⟩ : ∃ b, b = H.length := ⟨_, rfl⟩
  rw [← ha] at HL HL' nL ⊢
  rw [← hb] at H7 nZ ⊢
  rw [← hc] at HH HH' nH ⊢
  have HA := Lib.hid ha
  have HC := Lib.hid hc
  have HK1 := Lib.hid ((Kept.allocd w (.cells #[.int .i64 kk, .string S, .slice apL a capL, .slice apZ b capZ, .slice apH c capH] 54)).alloc (.cells #[.int .i64 kk, .string S, .slice aqL a caqL, .slice aqZ b caqZ, .slice aqH c caqH] 54))
  have HG0 := Lib.hid ((Kept.allocd (w.alloc (.cells #[.int .i64 kk, .string S, .slice apL a capL, .slice apZ b capZ, .slice apH c capH] 54)) (.cells #[.int .i64 kk, .string S, .slice aqL a caqL, .slice aqZ b caqZ, .slice aqH c caqH] 54)).heap (heap_alloc_new w (.cells #[.int .i64 kk, .string S, .slice apL a capL, .slice apZ b capZ, .slice apH c capH] 54)) (fun h => h))
  have HG1 := Lib.hid (heap_alloc_new (w.alloc (.cells #[.int .i64 kk, .string S, .slice apL a capL, .slice apZ b capZ, .slice apH c capH] 54)) (.cells #[.int .i64 kk, .string S, .slice aqL a caqL, .slice aqZ b caqZ, .slice aqH c caqH] 54))
  rw [World.size_alloc] at HG1
  clear hL hL' hH hH' hZ hZ' h7 hS ha hb hc
  go_enter Tryd.func32, Tryd.ntmps32
  go_wp2_with fail
  generalize (w.alloc (.cells #[.int .i64 kk, .string S, .slice apL a capL, .slice apZ b capZ, .slice apH c capH] 54)).alloc (.cells #[.int .i64 kk, .string S, .slice aqL a caqL, .slice aqZ b caqZ, .slice aqH c caqH] 54) = W1 at *
  (with_reducible refine (H7.out W1 HK1.out).mono ?_)
  rintro e w2 ⟨rfl, hk⟩
  have HK2 := Lib.hid (HK1.out.trans hk)
  have HG02 := Lib.hid (hk.heap HG0.out (fun h => h))
  have HG12 := Lib.hid (hk.heap HG1.out (fun h => h))
  clear hk HK1 HG0 HG1 H7
  obtain ⟨a0, a1, a2, a3, a4⟩ := blk5 HG02.out
  obtain ⟨b0, b1, b2, b3, b4⟩ := blk5 HG12.out
  go_wp2_with fail
  clear a0 a1 a2 a3 a4 b0 b1 b2 b3 b4
  go_loopw [5] (fun v5 wr => ∃ i : Nat, v5 = .int .i64 i ∧ i ≤ a ∧ Kept NoBlock w2 wr) (fun v5 _ => a - (intOf v5).toNat)
  case atStart => exact ⟨0, rfl, Nat.zero_le _, Kept.refl _ _⟩
  case round =>
    obtain ⟨i, rfl, hi, hk⟩ := hrel
    have HK := Lib.hid hk
    have HG03 := Lib.hid (hk.heap HG02.out (fun h => h))
    have HG13 := Lib.hid (hk.heap HG12.out (fun h => h))
    obtain ⟨a0, a1, a2, a3, a4⟩ := blk5 HG03.out
    obtain ⟨b0, b1, b2, b3, b4⟩ := blk5 HG13.out
    clear hk
    by_cases hlt : i < a
    · have hil : i < L.length := by have := HA.out; omega
      obtain ⟨z, hz⟩ : ∃ z, L[i]? = some z := ⟨L[i], List.getElem?_eq_getElem hil⟩
      obtain ⟨ad, rfl, x0⟩ := RowV.cell (RowV.keptNo HL.out (HK2.out.trans HK.out)) (row_map hz)
      obtain ⟨bd, rfl, y0⟩ := RowV.cell (RowV.keptNo HL'.out (HK2.out.trans HK.out)) (row_map hz)
      unfold strV at x0 y0
      clear hz hil
      go_wp2_with fail
      go_quiet (fail)
      clear a0 a1 a2 a3 a4 b0 b1 b2 b3 b4 x0 y0
      go_wp2_with fail
      go_roundw
      case rel => exact ⟨i + 1, by go_num, by omega, HK.out.drewN _⟩
      case measure => simp [intOf]; omega
    · go_wp2_with fail
      clear a0 a1 a2 a3 a4 b0 b1 b2 b3 b4
      have HK3 := Lib.hid (HK2.out.trans HK.out)
      go_loopw [6] (fun v6 wr' => ∃ i : Nat, v6 = .int .i64 i ∧ i ≤ c ∧ Kept NoBlock wr wr') (fun v6 _ => c - (intOf v6).toNat)
      case atStart => exact ⟨0, rfl, Nat.zero_le _, Kept.refl _ _⟩
      case round =>
        obtain ⟨j, rfl, hj, hk⟩ := hrel
        have HK4 := Lib.hid (HK3.out.trans hk)
        have HKr := Lib.hid hk
        have HG04 := Lib.hid (hk.heap HG03.out (fun h => h))
        have HG14 := Lib.hid (hk.heap HG13.out (fun h => h))
        obtain ⟨a0, a1, a2, a3, a4⟩ := blk5 HG04.out
        obtain ⟨b0, b1, b2, b3, b4⟩ := blk5 HG14.out
        clear hk
        by_cases hlt : j < c
        · have hil : j < H.length := by have := HC.out; omega
          obtain ⟨z, hz⟩ : ∃ z, H[j]? = some z := ⟨H[j], List.getElem?_eq_getElem hil⟩
          obtain ⟨ad, rfl, x0, x1⟩ := agg_two (fun _ => rfl) (HH.out.kept HK4.out) hz rfl
          obtain ⟨bd, rfl, y0, y1⟩ := agg_two (fun _ => rfl) (HH'.out.kept HK4.out) hz rfl
          unfold strV at x0 y0 x1 y1
          clear hz hil
          go_wp2_with fail
          go_quiet (fail)
          clear a0 a1 a2 a3 a4 b0 b1 b2 b3 b4 x0 y0 x1 y1
          go_wp2_with fail
          go_roundw
          case rel => exact ⟨j + 1, by go_num, by omega, HKr.out.drewN _⟩
          case measure => simp [intOf]; omega
        · go_wp2_with fail
          go_ret
          exact ⟨rfl, HK4.out⟩

set_option maxRecDepth 100000 in
set_option maxHeartbeats 3200000 in
theorem rsame (u v : Value) (ms ms' : List EntM) (w : World) (hu : EntsV w u ms) (hv : EntsV w v ms') (he : ms.map (·.e) = ms'.map (·.e)) (hn : ms.length ≤ 70000000) (hz : ∀ m ∈ ms, SizedM m.e) :
    Calls Tryd.prog 16 #[u, v] w fun e w' => e = .returned (.bool true) ∧ Kept NoBlock w w' := by
  obtain ⟨ap, cap, rfl, _⟩ := hu.1.parts
  obtain ⟨aq, caq, rfl, _⟩ := hv.1.parts
  have hl : ms'.length = ms.length := by have := congrArg List.length he; simpa using this.symm
  rw [hl] at hv ⊢
  have HU := Lib.hid hu
  have HV := Lib.hid hv
  have HE := Lib.hid he
  have HZ := Lib.hid hz
  have HL := Lib.hid hl
  obtain ⟨n, hnn⟩ : ∃ n, n = ms.length := ⟨_, rfl⟩
  rw [← hnn] at hn HU HV ⊢
  have HN := Lib.hid hnn
  clear hu hv hnn he hl hz
  go_enter Tryd.func16, Tryd.ntmps16
  go_wp2_with fail
  go_loopw [5] (fun v5 wr => ∃ i : Nat, v5 = .int .i64 i ∧ i ≤ n ∧ Kept NoBlock w wr) (fun v5 _ => n - (intOf v5).toNat)
  case atStart => exact ⟨0, rfl, Nat.zero_le _, Kept.refl _ _⟩
  case round =>
    obtain ⟨i, rfl, hi, hk⟩ := hrel
    have HK := Lib.hid hk
    clear hk
    by_cases hlt : i < n
    · have hil : i < ms.length := by have := HN.out; omega
      have hil' : i < ms'.length := by have := HN.out; have := HL.out; omega
      obtain ⟨m, hm⟩ : ∃ m, ms[i]? = some m := ⟨ms[i], List.getElem?_eq_getElem hil⟩
      obtain ⟨m', hm'⟩ : ∃ m, ms'[i]? = some m := ⟨ms'[i], List.getElem?_eq_getElem hil'⟩
      have hee : m'.e = m.e := by
        have h1 : (ms.map (·.e))[i]? = some m.e := by rw [List.getElem?_map, hm]; rfl
        have h2 : (ms'.map (·.e))[i]? = some m'.e := by rw [List.getElem?_map, hm']; rfl
        rw [HE.out, h2] at h1
        exact Option.some.inj h1
      have hs := (HU.out.2 m (List.mem_of_getElem? hm)).kept HK.out
      have hs' := (HV.out.2 m' (List.mem_of_getElem? hm')).kept HK.out
      have hsz := HZ.out m (List.mem_of_getElem? hm)
      obtain ⟨ad, rfl, c0, c1, c2, c3, c4, c5, c6⟩ := RowK.at7 (RowK.kept HU.out.1 HK.out) hm
      obtain ⟨bd, rfl, d0, d1, d2, d3, d4, d5, d6⟩ := RowK.at7 (RowK.kept HV.out.1 HK.out) hm'
      obtain ⟨⟨key, ⟨kk, s, L, Z, H⟩, till⟩, vL, vZ, vH⟩ := m
      obtain ⟨e', uL, uZ, uH⟩ := m'
      simp only at hee
      subst hee
      obtain ⟨hL, hZ, hH⟩ := hs
      obtain ⟨hL', hZ', hH'⟩ := hs'
      simp only at hL hZ hH hL' hZ' hH' hsz
      have hrv := fun q => rsamev kk s L Z H vL vZ vH uL uZ uH (wr.drewN q) (hL.keptNo ((Kept.refl NoBlock wr).drewN q)) (hZ.kept ((Kept.refl NoBlock wr).drewN q)) (hH.kept ((Kept.refl NoBlock wr).drewN q)) (hL'.keptNo ((Kept.refl NoBlock wr).drewN q)) (hZ'.kept ((Kept.refl NoBlock wr).drewN q)) (hH'.kept ((Kept.refl NoBlock wr).drewN q)) hsz.1 hsz.2.1 hsz.2.2.1
      obtain ⟨apL, capL, rfl, _⟩ := hL.parts
      obtain ⟨apZ, capZ, rfl, _⟩ := hZ.parts
      obtain ⟨apH, capH, rfl, _⟩ := hH.parts
      obtain ⟨aqL, caqL, rfl, _⟩ := hL'.parts
      obtain ⟨aqZ, caqZ, rfl, _⟩ := hZ'.parts
      obtain ⟨aqH, caqH, rfl, _⟩ := hH'.parts
      simp only [List.length_map] at hrv
      have HRV := Lib.hid hrv
      unfold strV at HRV
      simp only [strV] at c0 c1 c2 c3 c4 c5 c6 d0 d1 d2 d3 d4 d5 d6
      have c2 : wr.cell? ⟨(ad.add (i * 7)).block, (ad.add (i * 7)).off + 1 + 1, none⟩ = some (.string ⟨s.toArray⟩) := c2
      have c3 : wr.cell? ⟨(ad.add (i * 7)).block, (ad.add (i * 7)).off + 1 + 2, none⟩ = some (.slice apL _ capL) := c3
      have c4 : wr.cell? ⟨(ad.add (i * 7)).block, (ad.add (i * 7)).off + 1 + 3, none⟩ = some (.slice apZ _ capZ) := c4
      have c5 : wr.cell? ⟨(ad.add (i * 7)).block, (ad.add (i * 7)).off + 1 + 4, none⟩ = some (.slice apH _ capH) := c5
      have d2 : wr.cell? ⟨(bd.add (i * 7)).block, (bd.add (i * 7)).off + 1 + 1, none⟩ = some (.string ⟨s.toArray⟩) := d2
      have d3 : wr.cell? ⟨(bd.add (i * 7)).block, (bd.add (i * 7)).off + 1 + 2, none⟩ = some (.slice aqL _ caqL) := d3
      have d4 : wr.cell? ⟨(bd.add (i * 7)).block, (bd.add (i * 7)).off + 1 + 3, none⟩ = some (.slice aqZ _ caqZ) := d4
      have d5 : wr.cell? ⟨(bd.add (i * 7)).block, (bd.add (i * 7)).off + 1 + 4, none⟩ = some (.slice aqH _ caqH) := d5
      clear hm hm' hil hil' hL hZ hH hL' hZ' hH' hsz hrv
      go_wp2_with fail
      refine wp_plan 0 [1, 2, 3, 4, 5, 6, 7, 8, 9, 10, 11, 12, 13, 14, 15, 16, 17, 18, 19, 20, 21, 22, 23, 24, 25, 26, 27, 28, 29, 30, 31, 32, 33, 34] 35 [] [36, 37] (by kernel_rfl) (by kernel_rfl) ?_
      simp only [wpPlan, pick, List.filterMap_cons, List.filterMap_nil, List.getElem?_cons_succ, List.getElem?_cons_zero]
      repeat (quiet_step (fail))
      refine wpQuiet_nil ?_
      rintro _ ⟨q1, rfl⟩
      go_wp2_with fail
      (with_reducible refine (HRV.out _).mono ?_)
      rintro e w2 ⟨rfl, hk⟩
      have HK2 := Lib.hid ((HK.out.drewN q1).trans hk)
      clear hk c0 c1 c2 c3 c4 c5 c6 d0 d1 d2 d3 d4 d5 d6
      go_wp2_with fail
      refine Halt.mk ?_
      repeat (quiet_step (fail))
      refine wpQuiet_nil ?_
      rintro _ ⟨q2, rfl⟩
      go_wp2_with fail
      go_roundw
      case rel => exact ⟨i + 1, by go_num, by omega, HK2.out.drewN q2⟩
      case measure => simp [intOf]; omega
    · go_wp2_with fail
      go_ret
      exact ⟨rfl, HK.out⟩
end Go.Proofs.YtfhlhpknobkplaaDoor
namespace Go.Proofs.YtfhlhpknobkplaaDoor
open Go.RowKit
attribute [local go_sem] fold_part fold_some fold_some' partAt_zero

/-- What the laws take of entries. -/
structure InE (w : World) (v : Value) (ms : List EntM) : Prop where
  ents : EntsV w v ms
  len : ms.length ≤ 4000000000000000000
  rows : ∀ m ∈ ms, m.e.v.L.length + m.e.v.Z.length + m.e.v.H.length ≤ 1000000000000000000
  texts : ∀ m ∈ ms, ∀ z ∈ m.e.v.Z, z.1.length ≤ 1000000000000000
  fits : ∀ m ∈ ms, m.e.v.Fits

set_option maxRecDepth 100000 in
set_option maxHeartbeats 1600000 in
theorem law_back (id sec : Nat) (off fork : Int) (v : Value) (ms : List EntM) (w : World) (hV : Vs w) (h : InE w v ms) (hid : id < 18446744073709551616) :
    Calls Tryd.prog 6 #[.agg #[.int .u64 id, .int .i64 off, .int .u64 sec, .int .i64 fork], v] w fun e w' => e = .returned (.bool true) ∧ Kept NoBlock w w' := by
  obtain ⟨ap, cap, rfl, _⟩ := h.ents.1.parts
  have HV := Lib.hid hV
  have HH := Lib.hid h
  have HK1 := Lib.hid (Kept.allocd w (.cells #[.int .u64 id, .int .i64 off, .int .u64 sec, .int .i64 fork] 32))
  have HG1 := Lib.hid (heap_alloc_new w (.cells #[.int .u64 id, .int .i64 off, .int .u64 sec, .int .i64 fork] 32))
  have HA := Lib.hid (lawake _ (hV.kept HK1.out))
  clear hV h
  go_enter Tryd.func6, Tryd.ntmps6
  go_wp2_with fail
  generalize w.alloc (.cells #[.int .u64 id, .int .i64 off, .int .u64 sec, .int .i64 fork] 32) = W1 at *
  (with_reducible refine HA.out.mono ?_)
  rintro e w2 ⟨rfl, hk⟩
  have HK2 := Lib.hid (HK1.out.trans hk)
  have HG2 := Lib.hid (hk.heap HG1.out (fun h => h))
  have HF := Lib.hid (pfew _ ms w2 (HH.out.ents.kept HK2.out) HH.out.len HH.out.rows)
  clear hk HA
  go_wp2_with fail
  (with_reducible refine HF.out.mono ?_)
  rintro e w3 ⟨k, v3, rfl, hk3, hrow, hcnt, hkk⟩
  have hss : ∀ m ∈ ms.take k, m ∈ ms := fun m hm => List.mem_of_mem_take hm
  have HE3 := Lib.hid (show EntsV w3 v3 (ms.take k) from ⟨hrow.kept hkk, fun m hm => (HH.out.ents.2 m (hss m hm)).kept (HK2.out.trans hkk)⟩)
  obtain ⟨hsz, hsm⟩ := few_sized hcnt (fun e he z hz => by
    obtain ⟨m, hm, rfl⟩ := List.mem_map.1 he
    exact HH.out.texts m (hss m hm) z hz)
  have hft : ∀ e ∈ (ms.take k).map (·.e), e.v.Fits := fun e he => by
    obtain ⟨m, hm, rfl⟩ := List.mem_map.1 he
    exact HH.out.fits m (hss m hm)
  have HK3 := Lib.hid (HK2.out.trans hkk)
  have HG3 := Lib.hid (hkk.heap HG2.out (fun h => h))
  rw [List.length_map] at hsz
  have HCN := Lib.hid hcnt
  have HSM := Lib.hid (fun m (hm : m ∈ ms.take k) => hsm m.e (List.mem_map_of_mem hm))
  have HFT := Lib.hid hft
  have HPE := Lib.hid (pEncode w3 id sec off fork v3 (ms.take k) (HV.out.kept HK3.out) HE3.out hid (by omega) HSM.out (fun hc => few_small hc HCN.out))
  clear hrow hkk hss hsm hft hcnt HF
  generalize ms.take k = qs at *
  obtain ⟨ap3, cap3, rfl, _⟩ := HE3.out.1.parts
  obtain ⟨a0, a1, a2, a3⟩ := blk4 HG3.out
  go_wp2_with fail
  (with_reducible refine HPE.out.mono ?_)
  rintro e w4 he
  clear a0 a1 a2 a3 HPE
  cases hE : encB id off (qs.map (·.e)) with
  | error c =>
    have hc := encB_err hE
    rw [hE] at he
    obtain ⟨rfl, hk⟩ := he
    have hcb : ((c : Int) == 0) = false := by rw [beq_eq_false_iff_ne]; exact hc
    have HK4 := Lib.hid (HK3.out.trans hk)
    clear hk hE
    go_wp2_with fail
    go_ret
    exact ⟨rfl, HK4.out⟩
  | ok x =>
    rw [hE] at he
    obtain ⟨v4, rfl, hown, hk⟩ := he
    obtain ⟨ap4, cap4, rfl, _⟩ := OwnM.form hown.t
    have hdx := dec_enc hid HFT.out hE
    have hxl : x.length ≤ 67108864 := by
      obtain ⟨h1, _, _, h4⟩ := encB_ok hE
      rw [h4, List.length_append, leB_len]
      exact few_small h1 HCN.out
    have hpd := pDecode _ x w4 (HV.out.kept (HK3.out.trans hk)) hown.bytes hxl
    rw [hdx] at hpd
    have HPD := Lib.hid hpd
    have HK4 := Lib.hid (HK3.out.trans hk)
    have HG4 := Lib.hid (hk.heap HG3.out (fun h => h))
    have HE4 := Lib.hid (HE3.out.kept hk)
    clear hk hown hE hdx hxl hpd
    go_wp2_with fail
    (with_reducible refine HPD.out.mono ?_)
    rintro e w5 ⟨hk, v5, ms5, rfl, hms, hes⟩
    obtain ⟨ap5, cap5, rfl, _⟩ := hes.1.parts
    have HK5 := Lib.hid ((HK4.out.trans hk).alloc (.cells #[.int .u64 id, .int .i64 off, .int .u64 0, .int .i64 0] 32))
    have hka := hk.alloc (.cells #[.int .u64 id, .int .i64 off, .int .u64 0, .int .i64 0] 32)
    have HG5 := Lib.hid (hka.heap HG4.out (fun h => h))
    have HRS := Lib.hid (rsame _ _ qs ms5 _ (HE4.out.kept hka) (hes.kept (Kept.allocd w5 (.cells #[.int .u64 id, .int .i64 off, .int .u64 0, .int .i64 0] 32))) hms.symm (by omega) HSM.out)
    have HG55 := Lib.hid (heap_alloc_new w5 (.cells #[.int .u64 id, .int .i64 off, .int .u64 0, .int .i64 0] 32))
    obtain ⟨a0, a1, a2, a3⟩ := blk4 HG5.out
    clear hk hka hes hms HPD
    go_wp2_with fail
    (with_reducible refine HRS.out.mono ?_)
    rintro e w6 ⟨rfl, hk⟩
    have HK6 := Lib.hid (HK5.out.trans hk)
    clear hk a0 a1 a2 a3
    go_wp2_with fail
    go_ret
    exact ⟨rfl, HK6.out⟩

theorem u8_xor (c x : UInt8) : bits .xor .u8 (c.toNat : Int) (x.toNat : Int) = ((c ^^^ x).toNat : Int) := by
  have ha : c.toNat % 2 ^ IntKind.u8.bits = c.toNat := Nat.mod_eq_of_lt c.toNat_lt
  have hb : x.toNat % 2 ^ IntKind.u8.bits = x.toNat := Nat.mod_eq_of_lt x.toNat_lt
  simp only [bits, BitVec.ofInt_natCast, BitVec.toNat_xor, BitVec.toNat_ofNat, ha, hb, UInt8.toNat_xor]
  rw [IntKind.wrap_u8]
  have := Nat.xor_lt_two_pow c.toNat_lt x.toNat_lt
  omega
theorem xor_ne {c x : UInt8} (h : x ≠ 0) : c ^^^ x ≠ c := fun e => h (by
  have h1 : (c ^^^ x) ^^^ c = c ^^^ c := by rw [e]
  have h2 : (c ^^^ x) ^^^ c = x := by rw [UInt8.xor_comm c x, UInt8.xor_assoc, UInt8.xor_self, UInt8.xor_zero]
  rw [h2, UInt8.xor_self] at h1
  exact h1)

set_option maxRecDepth 100000 in
set_option maxHeartbeats 1600000 in
theorem law_spoilt (id sec : Nat) (off fork : Int) (v : Value) (ms : List EntM) (at' : Nat) (x : UInt8) (w : World) (hV : Vs w) (h : InE w v ms) (hid : id < 18446744073709551616) (hat : at' ≤ 65535) :
    Calls Tryd.prog 8 #[.agg #[.int .u64 id, .int .i64 off, .int .u64 sec, .int .i64 fork], v, .int .u16 at', .int .u8 x.toNat] w fun e w' => e = .returned (.bool true) ∧ Kept NoBlock w w' := by
  obtain ⟨ap, cap, rfl, _⟩ := h.ents.1.parts
  have HV := Lib.hid hV
  have HH := Lib.hid h
  have HK1 := Lib.hid (Kept.allocd w (.cells #[.int .u64 id, .int .i64 off, .int .u64 sec, .int .i64 fork] 32))
  have HG1 := Lib.hid (heap_alloc_new w (.cells #[.int .u64 id, .int .i64 off, .int .u64 sec, .int .i64 fork] 32))
  have HA := Lib.hid (lawake _ (hV.kept HK1.out))
  have hxl8 := x.toNat_lt
  clear hV h
  go_enter Tryd.func8, Tryd.ntmps8
  go_wp2_with fail
  generalize w.alloc (.cells #[.int .u64 id, .int .i64 off, .int .u64 sec, .int .i64 fork] 32) = W1 at *
  (with_reducible refine HA.out.mono ?_)
  rintro e w2 ⟨rfl, hk⟩
  have HK2 := Lib.hid (HK1.out.trans hk)
  have HG2 := Lib.hid (hk.heap HG1.out (fun h => h))
  have HF := Lib.hid (pfew _ ms w2 (HH.out.ents.kept HK2.out) HH.out.len HH.out.rows)
  clear hk HA
  go_wp2_with fail
  (with_reducible refine HF.out.mono ?_)
  rintro e w3 ⟨k, v3, rfl, hk3, hrow, hcnt, hkk⟩
  have hss : ∀ m ∈ ms.take k, m ∈ ms := fun m hm => List.mem_of_mem_take hm
  have HE3 := Lib.hid (show EntsV w3 v3 (ms.take k) from ⟨hrow.kept hkk, fun m hm => (HH.out.ents.2 m (hss m hm)).kept (HK2.out.trans hkk)⟩)
  obtain ⟨hsz, hsm⟩ := few_sized hcnt (fun e he z hz => by
    obtain ⟨m, hm, rfl⟩ := List.mem_map.1 he
    exact HH.out.texts m (hss m hm) z hz)
  have hft : ∀ e ∈ (ms.take k).map (·.e), e.v.Fits := fun e he => by
    obtain ⟨m, hm, rfl⟩ := List.mem_map.1 he
    exact HH.out.fits m (hss m hm)
  have HK3 := Lib.hid (HK2.out.trans hkk)
  have HG3 := Lib.hid (hkk.heap HG2.out (fun h => h))
  rw [List.length_map] at hsz
  have HCN := Lib.hid hcnt
  have HSM := Lib.hid (fun m (hm : m ∈ ms.take k) => hsm m.e (List.mem_map_of_mem hm))
  have HFT := Lib.hid hft
  have HPE := Lib.hid (pEncode w3 id sec off fork v3 (ms.take k) (HV.out.kept HK3.out) HE3.out hid (by omega) HSM.out (fun hc => few_small hc HCN.out))
  clear hrow hkk hss hsm hft hcnt HF
  generalize ms.take k = qs at *
  obtain ⟨ap3, cap3, rfl, _⟩ := HE3.out.1.parts
  obtain ⟨a0, a1, a2, a3⟩ := blk4 HG3.out
  go_wp2_with fail
  (with_reducible refine HPE.out.mono ?_)
  rintro e w4 he
  clear a0 a1 a2 a3 HPE
  cases hE : encB id off (qs.map (·.e)) with
  | error c =>
    have hc := encB_err hE
    rw [hE] at he
    obtain ⟨rfl, hk⟩ := he
    have hcb : ((c : Int) == 0) = false := by rw [beq_eq_false_iff_ne]; exact hc
    have HK4 := Lib.hid (HK3.out.trans hk)
    clear hk hE
    go_wp2_with fail
    go_ret
    exact ⟨by simp [hc], HK4.out⟩
  | ok X =>
    rw [hE] at he
    obtain ⟨v4, rfl, hown, hk⟩ := he
    obtain ⟨ap4, cap4, rfl, hcp4, _⟩ := OwnM.form hown.t
    have hxl : 33 ≤ X.length ∧ X.length ≤ 67108864 := by
      obtain ⟨h1, _, _, h4⟩ := encB_ok hE
      have := written_len id off (qs.map (·.e))
      have h5 := few_small (id := id) (off := off) h1 HCN.out
      rw [h4, List.length_append, leB_len]
      omega
    obtain ⟨n, hn⟩ : ∃ n, n = X.length := ⟨_, rfl⟩
    rw [← hn] at hxl hcp4 ⊢
    have HO4 := Lib.hid hown
    rw [← hn] at HO4
    have HN := Lib.hid hn
    obtain ⟨q, hq⟩ : ∃ q, q = at' % n := ⟨_, rfl⟩
    have hqn : q < n := by rw [hq]; exact Nat.mod_lt _ (by omega)
    have hqm : (at' : Int) % (n : Int) = (q : Int) := by rw [hq]; omega
    obtain ⟨c, hc⟩ : ∃ c, X[q]? = some c := ⟨X[q]'(by omega), List.getElem?_eq_getElem (by omega)⟩
    have hcut := cut_refused (k := q) hid HFT.out hE (by omega)
    have HSP := Lib.hid (fun d (hd : d ≠ c) => spoilt_refused hE hc hd)
    have HC := Lib.hid hc
    have HPD := Lib.hid (pDecode (.slice ap4 q cap4) (X.take q) w4 (HV.out.kept (HK3.out.trans hk)) (BytesV.front HO4.out.bytes q (by omega)) (by rw [List.length_take]; omega))
    have HK4 := Lib.hid (HK3.out.trans hk)
    have HSZ := Lib.hid HK3.out.size
    have hn0 : ¬ (n = 0) := by omega
    have hn0i : ¬ ((n : Int) = 0) := by omega
    have hn0b : ((n : Int) == 0) = false := by rw [beq_eq_false_iff_ne]; omega
    have hncap : q ≤ cap4 := by omega
    have HCUT := Lib.hid hcut
    clear hk hown hE hn hq hc hcut
    go_wp2_with fail
    (with_reducible refine HPD.out.mono ?_)
    rintro e w5 ⟨hk, he⟩
    have HK5 := Lib.hid (HK4.out.trans hk)
    have HO5 := Lib.hid (HO4.out.kept hk)
    clear hk HPD
    cases hd : decB (X.take q) with
    | ok p => exact absurd hd (HCUT.out p)
    | error c1 =>
      have hc1 := decB_err hd
      rw [hd] at he
      simp only at he
      subst he
      have hcb : ((c1 : Int) == 0) = false := by rw [beq_eq_false_iff_ne]; exact hc1
      have hcd : decide (c1 = 0) = false := by simp [hc1]
      clear hd HCUT
      by_cases hx0 : x = 0
      · have hxi : ((x.toNat : Nat) : Int) = 0 := by rw [hx0]; rfl
        rw [hxi]
        clear hx0 hxi
        go_wp2_with fail
        go_ret
        exact ⟨rfl, HK5.out.alloc _⟩
      · have hxn : ¬ (x.toNat = 0) := fun e => hx0 (UInt8.toNat_inj.1 e)
        have hxi : ¬ (((x.toNat : Nat) : Int) = 0) := by omega
        have hxb : (((x.toNat : Nat) : Int) == 0) = false := by rw [beq_eq_false_iff_ne]; exact hxi
        have HX0 := Lib.hid hx0
        clear hx0
        have hka := Kept.allocd w5 (.cells #[.int .u64 0, .int .i64 0, .int .u64 0, .int .i64 0] 32)
        have HK6 := Lib.hid (HK5.out.trans hka)
        have ho6 := HO5.out.kept hka
        obtain ⟨ad, rfl, hbb, hfz, hset, hkk⟩ := ho6.set hqn (c ^^^ x)
        obtain ⟨ad', e1, hcell⟩ := RowV.cell (show RowV _ _ _ from ho6.bytes) (i := q) (v := bv c) (by rw [List.getElem?_map, HC.out]; rfl)
        obtain rfl := Option.some.inj e1
        have hx8 := u8_xor c x
        have hcl := c.toNat_lt
        have hxne := xor_ne (c := c) HX0.out
        obtain ⟨d, hd⟩ : ∃ d, d = c ^^^ x := ⟨_, rfl⟩
        rw [← hd] at hset hkk hx8 hxne
        have hdl := d.toNat_lt
        have HSET := Lib.hid hset
        have HK7 := Lib.hid (Kept.trans' (S := NoBlock) HK6.out hkk (fun i hi e => by have := HSZ.out; omega))
        have HPD2 := Lib.hid (pDecode _ (X.set q d) _ (HV.out.kept HK7.out) hset (by rw [List.length_set, ← HN.out]; omega))
        have HDS := Lib.hid (HSP.out d hxne)
        unfold bv at hcell hset hkk HSET HK7 HPD2
        clear hka ho6 e1 hset hkk hd hxne HX0
        go_wp2_with fail
        generalize (w5.alloc (.cells #[.int .u64 0, .int .i64 0, .int .u64 0, .int .i64 0] 32)).setCell (ad.add q) (.int .u8 (d.toNat : Int)) = w6 at *
        (with_reducible refine HPD2.out.mono ?_)
        rintro e w7 ⟨hk, he⟩
        have HK8 := Lib.hid (HK7.out.trans hk)
        clear hk HPD2 hcell hfz hx8
        cases hd2 : decB (X.set q d) with
        | ok p => exact absurd hd2 (HDS.out p)
        | error c2 =>
          have hc2 := decB_err hd2
          rw [hd2] at he
          simp only at he
          subst he
          have hcb2 : ((c2 : Int) == 0) = false := by rw [beq_eq_false_iff_ne]; exact hc2
          clear hd2 HDS
          go_wp2_with fail
          go_ret
          exact ⟨by simp [hc2], HK8.out.alloc _⟩
end Go.Proofs.YtfhlhpknobkplaaDoor
