/- The document's requests: the place of a byte, faults, small functions. -/
import Derived.Test.YtdfkdbdhaaiadaaDoorRe16
import Derived.Test.YtdfkdbdhaaiadaaDoorNe
namespace Go.Proofs.YtdfkdbdhaaiadaaDoor
open Go.RowKit
attribute [local go_sem] fold_part fold_some fold_some' partAt_zero

theorem results_cell {fn : Func} {p : Tmp} {ty : TypeId} (h : fn.results = #[.cell p ty]) (tmps : Array Value) (P : Program) (w : World) :
    (results fn tmps).run P w = ((asAddr (tmps.getD p undef)).run P w).andThen fun a w₁ => (loadVar ty a).run P w₁ := by
  simp only [results, h]
  simp [Sem.run_bind, Result.andThen]
theorem results_ttc {fn : Func} {t u p : Tmp} {ty : TypeId} (h : fn.results = #[.tmp t, .tmp u, .cell p ty]) (tmps : Array Value) (P : Program) (w : World) :
    (results fn tmps).run P w = (((asAddr (tmps.getD p undef)).run P w).andThen fun a w₁ => (loadVar ty a).run P w₁).andThen fun x w₂ => .ok (.tuple #[tmps.getD t undef, tmps.getD u undef, x]) w₂ := by
  simp only [results, h]
  cases hA : (asAddr (tmps[p]?.getD undef)).run P w with
  | halt x w1 => simp [Sem.run_bind, Result.andThen, hA]
  | ok a w1 =>
    cases hB : (loadVar ty a).run P w1 with
    | halt x w2 => simp [Sem.run_bind, Result.andThen, hA, hB]
    | ok y w2 => simp [Sem.run_bind, Result.andThen, hA, hB]

theorem str_size0 {S : ByteArray} {l : Bs} (hS : S = ⟨l.toArray⟩) : S.size = l.length := by subst hS; rfl
def pErr : Bs := [80, 114, 111, 116, 111, 99, 111, 108, 32, 101, 114, 114, 111, 114, 58, 32]
/-- What stands at a place, as the document has it. -/
abbrev foundV (st n : Int) (l : Value) (f : Bs) : Value := .agg #[.int .i64 st, .int .i64 n, l, .string ⟨f.toArray⟩]

theorem rwrong (s : Bs) (hs : s.length ≤ 1000) (w : World) : Calls Tryd.prog 34 #[.string ⟨s.toArray⟩] w fun e w' => e = .returned (foundV 2 0 (.slice none 0 0) (pErr ++ s)) ∧ Kept NoBlock w w' := by
  have e1 := str_app pErr s
  obtain ⟨S, hS⟩ : ∃ S : ByteArray, S = ⟨s.toArray⟩ := ⟨_, rfl⟩
  have hSs : S.size ≤ 1000 := by rw [hS]; exact hs
  rw [← hS] at e1 ⊢
  have E1 := Lib.hid e1
  clear hS e1
  go_enter Tryd.func34, Tryd.ntmps34
  go_wp2
  refine bodyPost_ret (v := .agg #[.int .i64 2, .int .i64 0, .slice none 0 0, .string ((⟨pErr.toArray⟩ : ByteArray) ++ S)]) ((results_cell rfl _ _ _).trans ?_) rfl ⟨by rw [E1.out], (Kept.refl _ w).alloc _⟩
  unfold pErr
  go_simp

/-- The byte does not stand among these. -/
def NoC (c : UInt8) (l : Bs) (k : Nat) : Prop := ∀ d ∈ l.take k, d ≠ c
theorem noC_zero (c : UInt8) (l : Bs) : NoC c l 0 := fun d hd => by simp at hd
theorem noC_succ {c : UInt8} {l : Bs} {k : Nat} (h : NoC c l k) (hk : k < l.length) (hne : l[k] ≠ c) : NoC c l (k + 1) := by
  intro d hd
  rw [List.take_succ_eq_append_getElem hk] at hd
  rcases List.mem_append.1 hd with hd | hd
  · exact h d hd
  · obtain rfl := List.mem_singleton.1 hd; exact hne
theorem indexByte_none (c : UInt8) : ∀ (l : Bs), (∀ d ∈ l, d ≠ c) → Lib.indexByte l c = -1
  | [], _ => rfl
  | b :: l, h => by
    have hb : (b == c) = false := by simpa using h b (by simp)
    have := indexByte_none c l (fun d hd => h d (by simp [hd]))
    rw [Lib.indexByte, hb, this]
    simp
theorem noC_hit {c : UInt8} {l : Bs} {k : Nat} (h : NoC c l k) (hk : k < l.length) (he : l[k] = c) : Lib.indexByte l c = k := by
  have e : l = l.take k ++ c :: l.drop (k + 1) := by rw [← he, List.getElem_cons_drop hk, List.take_append_drop]
  have hl : (l.take k).length = k := by rw [List.length_take]; omega
  rw [e, indexByte_first _ _ _ h, hl]
theorem noC_miss {c : UInt8} {l : Bs} {k : Nat} (h : NoC c l k) (hk : l.length ≤ k) : Lib.indexByte l c = -1 := by
  unfold NoC at h
  rw [List.take_of_length_le hk] at h
  exact indexByte_none c l h

/-- What 'find' answers. -/
def findV (c : UInt8) (b : Bs) (k : Nat) : Int := if fnd c (b.drop k) < 0 then -1 else (k : Int) + fnd c (b.drop k)

set_option maxHeartbeats 1600000 in
theorem rfind (v : Value) (b : Bs) (k : Nat) (c : UInt8) (ci : Int) (hci : ci = c.toNat) (w : World) (h : BytesV w v b) (hb : b.length ≤ 100000000) (hk : k ≤ b.length) :
    Calls Tryd.prog 36 #[v, .int .i64 k, .int .u8 ci] w fun e w' => e = .returned (.int .i64 (findV c b k)) ∧ w = w' := by
  subst hci
  obtain ⟨ap, cap, rfl, hc, hn⟩ := h.parts
  have hlen : ((b.drop k).take 65536).length = min 65536 (b.length - k) := by rw [List.length_take, List.length_drop]
  have hhit : ∀ i, k ≤ i → i < b.length → i - k < 65536 → NoC c ((b.drop k).take 65536) (i - k) → b[i]? = some c → findV c b k = i := fun i h1 h2 h3 h4 h5 => by
    have he : (i - k) < ((b.drop k).take 65536).length := by omega
    have hg : ((b.drop k).take 65536)[i - k] = c := by
      rw [List.getElem_take, List.getElem_drop]
      have : b[k + (i - k)]? = some c := by rw [show k + (i - k) = i by omega]; exact h5
      exact (List.getElem?_eq_some_iff.1 this).2
    have := noC_hit h4 he hg
    unfold findV fnd
    rw [this, if_neg (by omega)]; omega
  have hmiss : ∀ i, NoC c ((b.drop k).take 65536) (i - k) → (b.length ≤ i ∨ 65536 ≤ i - k) → k ≤ i → findV c b k = -1 := fun i h1 h2 h3 => by
    have := noC_miss h1 (by omega)
    unfold findV fnd
    rw [this]; rfl
  have hsucc : ∀ i, k ≤ i → (hi : i < b.length) → i - k < 65536 → NoC c ((b.drop k).take 65536) (i - k) → b[i] ≠ c → NoC c ((b.drop k).take 65536) (i + 1 - k) := fun i h1 h2 h3 h4 h5 => by
    have he : (i - k) < ((b.drop k).take 65536).length := by omega
    rw [show i + 1 - k = (i - k) + 1 by omega]
    refine noC_succ h4 he ?_
    rw [List.getElem_take, List.getElem_drop]
    have : b[k + (i - k)]? = b[i]? := by rw [show k + (i - k) = i by omega]
    rw [List.getElem?_eq_getElem (by omega), List.getElem?_eq_getElem h2] at this
    rw [Option.some.inj this]; exact h5
  have HH := Lib.hid hhit
  have HM := Lib.hid hmiss
  have HS := Lib.hid hsucc
  have HB := Lib.hid h
  have HZ := Lib.hid (noC_zero c ((b.drop k).take 65536))
  generalize findV c b k = F at *
  have hK : k ≤ 100000000 := by omega
  clear hlen hhit hmiss hsucc h hn
  obtain ⟨n, hnn⟩ : ∃ n, n = b.length := ⟨_, rfl⟩
  rw [← hnn] at hb hk hc HH HM HB ⊢
  have HN := Lib.hid hnn
  clear hnn
  go_enter Tryd.func36, Tryd.ntmps36
  go_wp2
  go_loop [7] (fun vi => ∃ i : Nat, vi = .int .i64 i ∧ k ≤ i ∧ i ≤ n ∧ i - k ≤ 65536 ∧ NoC c ((b.drop k).take 65536) (i - k)) (fun vi => n - (intOf vi).toNat)
  case atStart => exact ⟨k, rfl, Nat.le_refl _, hk, by omega, by rw [Nat.sub_self]; exact HZ.out⟩
  case round =>
    obtain ⟨i, rfl, hki, hin, hi6, hno⟩ := hrel
    have HNo := Lib.hid hno
    clear hno
    by_cases hlt : i < n
    · have hib : i < b.length := by rw [← HN.out]; exact hlt
      by_cases h6 : i - k < 65536
      · have h6' : (i : Int) - (k : Int) < 65536 := by omega
        obtain ⟨ad, rfl, hcell⟩ := RowV.cell HB.out (i := i) (v := bv b[i]) (by rw [List.getElem?_map, List.getElem?_eq_getElem hib]; rfl)
        have hcell' : w.cell? (ad.add i) = some (.int .u8 (b[i]).toNat) := hcell
        have hltI : (i : Int) < (n : Int) := by omega
        by_cases he : b[i] = c
        · have hF := HH.out i hki hlt h6 HNo.out (by rw [List.getElem?_eq_getElem hib, he])
          rw [he] at hcell'
          clear hcell
          subst hF
          go_wp2
          go_ret
          exact ⟨rfl, rfl⟩
        · have hne : ¬ ((b[i].toNat : Int) = (c.toNat : Int)) := fun e => he (UInt8.toNat_inj.1 (by omega))
          have hne' : ((b[i].toNat : Int) == (c.toNat : Int)) = false := by simpa using hne
          have hno2 := HS.out i hki hib h6 HNo.out he
          have HNo2 := Lib.hid hno2
          clear hcell hno2 he
          go_wp2
          go_round
          case rel => exact ⟨i + 1, by go_num, by omega, by omega, by omega, HNo2.out⟩
          case measure => simp [intOf]; omega
      · have h6' : ¬ (i : Int) - (k : Int) < 65536 := by omega
        have hltI : (i : Int) < (n : Int) := by omega
        obtain rfl : F = -1 := HM.out i HNo.out (.inr (by omega)) hki
        go_wp2
        go_ret
        exact ⟨rfl, rfl⟩
    · have hltI : ¬ (i : Int) < (n : Int) := by omega
      obtain rfl : F = -1 := HM.out i HNo.out (.inl (by omega)) hki
      go_wp2
      go_ret
      exact ⟨rfl, rfl⟩

theorem rblank (c : UInt8) (w : World) : Calls Tryd.prog 37 #[.int .u8 c.toNat] w fun e w' => e = .returned (.bool (blank c)) ∧ w = w' := by
  have hb : c.toNat < 256 := c.toNat_lt
  by_cases h1 : 9 ≤ c.toNat
  · by_cases h2 : c.toNat ≤ 13
    · have hs : blank c = true := by unfold blank; simp [h1, h2]
      rw [hs]
      have h1' : (9 : Int) ≤ (c.toNat : Int) := by omega
      have h2' : (c.toNat : Int) ≤ 13 := by omega
      go_enter Tryd.func37, Tryd.ntmps37
      go_wp2
      go_ret
      exact ⟨by simp, rfl⟩
    · have hs : blank c = ((c.toNat : Int) == 32) := by unfold blank; rw [Bool.eq_iff_iff]; simp [h2]; omega
      rw [hs]
      have h1' : (9 : Int) ≤ (c.toNat : Int) := by omega
      have h2' : ¬ (c.toNat : Int) ≤ 13 := by omega
      go_enter Tryd.func37, Tryd.ntmps37
      go_wp2
      go_ret
      exact ⟨rfl, rfl⟩
  · have hs : blank c = false := by unfold blank; simp [h1]; omega
    rw [hs]
    have h1' : ¬ (9 : Int) ≤ (c.toNat : Int) := by omega
    have h2' : ¬ (c.toNat : Int) = 32 := by omega
    go_enter Tryd.func37, Tryd.ntmps37
    go_wp2
    go_ret
    exact ⟨by simp; omega, rfl⟩

theorem rshown (c : UInt8) (w : World) : Calls Tryd.prog 46 #[.int .u8 c.toNat] w fun e w' => e = .returned (.string ⟨(shown c).toArray⟩) ∧ Kept NoBlock w w' := by
  by_cases h1 : c.toNat < 32
  · have hs : shown c = [46] := by unfold shown; rw [if_pos (.inl h1)]
    rw [hs]
    have h1' : (c.toNat : Int) < 32 := by omega
    go_enter Tryd.func46, Tryd.ntmps46
    go_wp2
    go_ret
    exact ⟨rfl, Kept.refl _ _⟩
  · by_cases h2 : 126 < c.toNat
    · have hs : shown c = [46] := by unfold shown; rw [if_pos (.inr h2)]
      rw [hs]
      have h1' : ¬ (c.toNat : Int) < 32 := by omega
      have h2' : (126 : Int) < (c.toNat : Int) := by omega
      go_enter Tryd.func46, Tryd.ntmps46
      go_wp2
      go_ret
      exact ⟨rfl, Kept.refl _ _⟩
    · have hs : shown c = [c] := by unfold shown; rw [if_neg (by omega)]
      rw [hs]
      have h1' : ¬ (c.toNat : Int) < 32 := by omega
      have h2' : ¬ (126 : Int) < (c.toNat : Int) := by omega
      have hc := one8_conv c w
      go_enter Tryd.func46, Tryd.ntmps46
      go_wp2
      go_ret
      exact ⟨rfl, (Kept.refl _ w).alloc _⟩

/-- A digit's value; below 0: it is none. -/
def hexI (c : UInt8) : Int := match hexv c with | some n => n | none => -1
theorem rdigit (c : UInt8) (w : World) : Calls Tryd.prog 66 #[.int .u8 c.toNat] w fun e w' => e = .returned (.int .i64 (hexI c)) ∧ w = w' := by
  have hb : c.toNat < 256 := c.toNat_lt
  obtain ⟨x, hx⟩ : ∃ x, x = c.toNat := ⟨_, rfl⟩
  have hv : hexI c = if 48 ≤ x ∧ x ≤ 57 then ((x - 48 : Nat) : Int) else if 97 ≤ x ∧ x ≤ 102 then ((x - 87 : Nat) : Int) else if 65 ≤ x ∧ x ≤ 70 then ((x - 55 : Nat) : Int) else -1 := by
    unfold hexI hexv
    rw [← hx]
    split
    · rename_i n h
      split at h
      · rw [if_pos (by assumption)]; cases h; rfl
      · rw [if_neg (by assumption)]
        split at h
        · rw [if_pos (by assumption)]; cases h; rfl
        · rw [if_neg (by assumption)]
          split at h
          · rw [if_pos (by assumption)]; cases h; rfl
          · cases h
    · rename_i h
      split at h
      · cases h
      · rw [if_neg (by assumption)]
        split at h
        · cases h
        · rw [if_neg (by assumption)]
          split at h
          · cases h
          · rw [if_neg (by assumption)]
  generalize hexI c = H at *
  rw [← hx] at hb ⊢
  clear hx
  rcases (by omega : x < 48 ∨ (48 ≤ x ∧ x ≤ 57) ∨ (57 < x ∧ x < 65) ∨ (65 ≤ x ∧ x ≤ 70) ∨ (70 < x ∧ x < 97) ∨ (97 ≤ x ∧ x ≤ 102) ∨ 102 < x) with h | h | h | h | h | h | h
  all_goals
    first
      | (rw [if_neg (by omega), if_neg (by omega), if_neg (by omega)] at hv)
      | (rw [if_neg (by omega), if_neg (by omega), if_pos (by omega)] at hv; obtain ⟨k1, k2⟩ := h; rw [show ((x - 55 : Nat) : Int) = (x : Int) - 65 + 10 by omega] at hv)
      | (rw [if_neg (by omega), if_pos (by omega)] at hv; obtain ⟨k1, k2⟩ := h; rw [show ((x - 87 : Nat) : Int) = (x : Int) - 97 + 10 by omega] at hv)
      | (rw [if_pos (by omega)] at hv; obtain ⟨k1, k2⟩ := h; rw [show ((x - 48 : Nat) : Int) = (x : Int) - 48 by omega] at hv)
    subst hv
    go_enter Tryd.func66, Tryd.ntmps66
    go_wp2
    all_goals first | (exfalso; omega) | (go_ret; exact ⟨rfl, rfl⟩)
end Go.Proofs.YtdfkdbdhaaiadaaDoor
