/- A request's bytes, by the program. -/
import Derived.Test.YtdfkdbdhaaiadaaDoorRe16
import Derived.Test.YtdfkdbdhaaiadaaDoorOwnM
import Derived.Test.YtdfkdbdhaaiadaaDoorSp3
import Derived.Laws.Concat
namespace Go.Proofs.YtdfkdbdhaaiadaaDoor
open Go.RowKit
open Go.Lib (decDigits)
attribute [local go_sem] fold_part fold_some fold_some' partAt_zero

/-- A row of bytes that the call itself has made, with a mark or none behind it. -/
def OwnT (w : World) (base : Nat) (v : Value) (xs : Bs) : Prop := OwnM w base 5 v xs.length (xs.map bv)
theorem OwnT.bytes {w : World} {base : Nat} {v : Value} {xs : Bs} (h : OwnT w base v xs) : BytesV w v xs := OwnM.row h

theorem wpList_appT {w : World} {ops : Array Oper} {rest : List Oper} {o : Oper} {a : Act} {Q : Exit → Act → World → Prop} (hgd : o.guard = none) (sl x : Operand)
    (ho : o.op = .call { callee := .builtin .append, args := #[sl, x], argTypes := #[22, 9] })
    (base : Nat) (v : Value) (xs : Bs) (hs : a.eval sl = v) (hown : OwnT w base v xs) (p : Bs) (S : ByteArray) (hS : S = ⟨p.toArray⟩) (hx : a.eval x = .string S) (hlen : xs.length + p.length ≤ 100000000) (hbase : base ≤ w.heap.size)
    (h : ∀ v' w', OwnT w' base v' (xs ++ p) → w.grownBy w' v.ownBlock → wpList Tryd.prog ops Q rest (a.put o.dst v') w') : wpList Tryd.prog ops Q (o :: rest) a w := by
  obtain ⟨i0, hi, hz0, hz1, hz2⟩ := info_parts byteInfo
  have hsz : S.size = p.length := by subst hS; rfl
  refine wpList_append_strM (P := Tryd.prog) w hgd sl x 22 9 ho base 5 i0 Tryd.underlying22 Tryd.underlying9 hi hz0 hz1 hz2 v xs.length (xs.map bv) hs hown S hx (by unfold maxLen; omega) (by omega) hbase ?_
  intro v' w' hr hg
  refine h v' w' ?_ hg
  rw [strCells_bv, hS] at hr
  unfold OwnT
  rw [List.length_append, List.map_append]
  exact hr

theorem nitoa (n : Int) (h0 : -9223372036854775808 ≤ n) (h1 : n ≤ 9223372036854775807) (w : World) (hV : Vs w) :
    Calls Tryd.prog 23 #[.int .i64 n] w fun e w' => e = .returned (.string ⟨(Lib.itoa n).toArray⟩) ∧ Kept NoBlock w w' := by
  refine (Tryd.strconv_Itoa n h0 h1 w hV.tab).mono ?_
  rintro e w' ⟨rfl, k, os, rfl⟩
  exact ⟨rfl, Kept.ofB (Lib.below_grow _ _ (Nat.le_refl _) _ _)⟩

/-- The beginning of a request's bytes. -/
def wPre (n : Nat) (l : List Bs) : Bs := 42 :: (decDigits n ++ 13 :: 10 :: (l.map (wBulk decDigits)).flatten)
theorem wPre_snoc (n : Nat) (l : List Bs) (s : Bs) : wPre n (l ++ [s]) = wPre n l ++ wBulk decDigits s := by simp [wPre]
theorem wPre_all (l : List Bs) : wPre l.length l = wReq decDigits l := rfl
theorem wPre_nil (n : Nat) : wPre n [] = 42 :: (decDigits n ++ [13, 10]) := by simp [wPre]
theorem wBulk_len (s : Bs) (h : s.length ≤ 65536) : (wBulk decDigits s).length ≤ 65600 := by
  have := dec_len 5 s.length (by omega)
  simp only [wBulk, List.length_cons, List.length_append, List.length_nil]
  omega
def Short (l : List Bs) : Prop := ∀ s ∈ l, s.length ≤ 65536
theorem Short.snoc {l : List Bs} {s : Bs} (h : Short l) (hs : s.length ≤ 65536) : Short (l ++ [s]) := by
  intro x hx
  rcases List.mem_append.1 hx with hx | hx
  · exact h x hx
  · obtain rfl := List.mem_singleton.1 hx; exact hs
theorem flat_len : ∀ (l : List Bs), Short l → ((l.map (wBulk decDigits)).flatten).length ≤ 65600 * l.length
  | [], _ => by simp
  | s :: l, h => by
    have h1 := flat_len l (fun x hx => h x (by simp [hx]))
    have h2 := wBulk_len s (h s (by simp))
    rw [List.map_cons, List.flatten_cons, List.length_append, List.length_cons]
    omega
theorem wPre_len (n : Nat) (hn : n ≤ 1024) (l : List Bs) (h : Short l) : (wPre n l).length ≤ 100 + 65600 * l.length := by
  have h1 := flat_len l h
  have := dec_len 5 n (by omega)
  simp only [wPre, List.length_cons, List.length_append]
  omega
theorem take_snoc' (l : List Bs) (k : Nat) (h : k < l.length) : l.take (k + 1) = l.take k ++ [l[k]] := List.take_succ_eq_append_getElem h

/-- What a call leaves that hands back a request's bytes, or refuses a text that is too long. -/
def WEnd (L : List Bs) (w : World) (e : Ending) (w' : World) : Prop :=
  Kept NoBlock w w' ∧ (((∃ s ∈ L, 65536 < s.length) ∧ e = .returned (.tuple #[.slice none 0 0, .int .i64 2])) ∨
    (Short L ∧ ∃ v, e = .returned (.tuple #[v, .int .i64 0]) ∧ OwnT w' w.heap.size v (wReq decDigits L)))

theorem wBulk_str (s D : Bs) (hD : D = decDigits s.length) : (⟨#[36]⟩ : ByteArray) ++ ⟨D.toArray⟩ ++ ⟨#[13, 10]⟩ ++ ⟨s.toArray⟩ ++ ⟨#[13, 10]⟩ = ⟨(wBulk decDigits s).toArray⟩ := by
  subst hD
  have e1 := str_app [36] (decDigits s.length)
  have e2 := str_app ([36] ++ decDigits s.length) [13, 10]
  have e3 := str_app ([36] ++ decDigits s.length ++ [13, 10]) s
  have e4 := str_app ([36] ++ decDigits s.length ++ [13, 10] ++ s) [13, 10]
  show ((((⟨[36].toArray⟩ : ByteArray) ++ ⟨(decDigits s.length).toArray⟩) ++ ⟨[13, 10].toArray⟩) ++ ⟨s.toArray⟩) ++ ⟨[13, 10].toArray⟩ = _
  rw [e1, e2, e3, e4]
  simp [wBulk]
theorem wPre_str (n : Nat) (D : Bs) (hD : D = decDigits n) : (⟨#[42]⟩ : ByteArray) ++ ⟨D.toArray⟩ ++ ⟨#[13, 10]⟩ = ⟨(wPre n []).toArray⟩ := by
  subst hD
  have e1 := str_app [42] (decDigits n)
  have e2 := str_app ([42] ++ decDigits n) [13, 10]
  show ((⟨[42].toArray⟩ : ByteArray) ++ ⟨(decDigits n).toArray⟩) ++ ⟨[13, 10].toArray⟩ = _
  rw [e1, e2, wPre_nil]
  simp

theorem pwrite_none (ap : Option Addr) (c : Nat) (w : World) : Calls Tryd.prog 19 #[.slice ap 0 c] w fun e w' => e = .returned (.tuple #[.slice none 0 0, .int .i64 1]) ∧ w = w' := by
  go_enter Tryd.func19, Tryd.ntmps19
  go_wp2
  go_ret2
  exact ⟨rfl, rfl⟩
theorem pwrite_many (ap : Option Addr) (n c : Nat) (hn : 1024 < n) (h2 : n ≤ 2000) (w : World) : Calls Tryd.prog 19 #[.slice ap n c] w fun e w' => e = .returned (.tuple #[.slice none 0 0, .int .i64 3]) ∧ w = w' := by
  have h0 : ¬ (n : Int) = 0 := by omega
  have h1 : (1024 : Int) < n := by omega
  go_enter Tryd.func19, Tryd.ntmps19
  go_wp2
  go_ret2
  exact ⟨rfl, rfl⟩

set_option maxRecDepth 100000 in
set_option maxHeartbeats 3200000 in
theorem pwrite (v : Value) (L : List Bs) (w : World) (hV : Vs w) (h : TextsV w v L) (h0 : 0 < L.length) (h1 : L.length ≤ 1024) :
    Calls Tryd.prog 19 #[v] w (WEnd L w) := by
  obtain ⟨hr, _⟩ := h
  obtain ⟨ap, cap, rfl, _, _⟩ := hr.parts
  rw [List.length_map] at hr ⊢
  have hcell : ∀ k (hk : k < L.length), ∃ ad, ap = some ad ∧ w.cell? (ad.add k) = some (strV L[k]) := fun k hk => RowV.cell hr (by rw [List.getElem?_map, List.getElem?_eq_getElem hk]; rfl)
  have HC := Lib.hid hcell
  have HV := Lib.hid hV
  have HR := Lib.hid hr
  clear hcell hV hr
  obtain ⟨n, hn⟩ : ∃ n, n = L.length := ⟨_, rfl⟩
  rw [← hn]
  have HN := Lib.hid hn
  rw [← hn] at h0 h1
  have hn0 : ¬ (n : Int) = 0 := by omega
  have hn1 : ¬ (1024 : Int) < n := by omega
  clear hn
  go_enter Tryd.func19, Tryd.ntmps19
  go_wp2
  go_loop [19] (fun i => ∃ k : Nat, k ≤ n ∧ i = .int .i64 k ∧ Short (L.take k)) (fun i => n - (intOf i).toNat)
  case atStart => exact ⟨0, Nat.zero_le _, rfl, fun s hs => by cases hs⟩
  case round =>
    obtain ⟨k, hk, rfl, hsh⟩ := hrel
    have HS := Lib.hid hsh
    clear hsh
    by_cases hlt : k < n
    · have hkL : k < L.length := by rw [← HN.out]; exact hlt
      obtain ⟨ad, rfl, hc⟩ := HC.out k hkL
      obtain ⟨S, hS⟩ : ∃ S : ByteArray, S = ⟨L[k].toArray⟩ := ⟨_, rfl⟩
      have hSs : S.size = L[k].length := by rw [hS]; rfl
      have hc' : w.cell? (ad.add k) = some (.string S) := by rw [hc, hS]; rfl
      have HSS := Lib.hid hSs
      clear hc hS hSs
      by_cases hs : S.size ≤ 65536
      · have hs' : ¬ (65536 : Int) < S.size := by omega
        go_wp2
        go_round
        case rel => exact ⟨k + 1, by omega, by go_num, by rw [take_snoc' L k hkL]; exact HS.out.snoc (by rw [← HSS.out]; exact hs)⟩
        case measure => simp [intOf]; omega
      · have hs' : (65536 : Int) < S.size := by omega
        go_wp2
        go_ret2
        exact ⟨Kept.refl _ _, .inl ⟨⟨L[k], List.getElem_mem _, by rw [← HSS.out]; omega⟩, rfl⟩⟩
    · obtain rfl : k = n := by omega
      have hSh : Short L := by have := HS.out; rwa [List.take_of_length_le (by rw [← HN.out]; exact Nat.le_refl _)] at this
      have HSh := Lib.hid hSh
      have hD : Lib.itoa (k : Int) = decDigits k := Lib.itoa_nonneg _
      have hDl := dec_len 5 k (by omega)
      have hit := nitoa (k : Int) (by omega) (by omega) w HV.out
      rw [hD] at hit
      have hpre := wPre_str k _ rfl
      have hpl := wPre_len k h1 [] (fun s hs => by cases hs)
      obtain ⟨D, hDD⟩ : ∃ D : ByteArray, D = ⟨(decDigits k).toArray⟩ := ⟨_, rfl⟩
      have hDs : D.size ≤ 6 := by rw [hDD]; exact hDl
      rw [← hDD] at hit hpre
      have HIT := Lib.hid hit
      have HPRE := Lib.hid hpre
      clear hit hD hDl hpre hDD hSh
      go_wp2_with (go_at_call 23; refine HIT.out.mono ?_; rintro e w1 ⟨rfl, hk1⟩; refine Hid.out ?_)
      have hcv := Lib.run_convert_string_bytes (P := Tryd.prog) w1 9 22 5 ((⟨#[42]⟩ : ByteArray) ++ D ++ ⟨#[13, 10]⟩) Tryd.underlying9 Tryd.underlying22 Tryd.underlying5
      have hlen1 : ((⟨#[42]⟩ : ByteArray) ++ D ++ ⟨#[13, 10]⟩).size = (wPre k []).length := by rw [HPRE.out]; rfl
      have hown := bytesWorld_own w1 5 ((⟨#[42]⟩ : ByteArray) ++ D ++ ⟨#[13, 10]⟩) (by rw [hlen1]; unfold maxLen; simp only [List.length_nil] at hpl; omega)
      have hkb := bytesWorld_kept w1 5 ((⟨#[42]⟩ : ByteArray) ++ D ++ ⟨#[13, 10]⟩)
      generalize hW : Lib.bytesWorld w1 5 ((⟨#[42]⟩ : ByteArray) ++ D ++ ⟨#[13, 10]⟩) = W at *
      rw [hlen1] at hown hcv
      have hown2 : OwnT W w.heap.size (.slice (some ⟨w1.heap.size, 0, none⟩) (wPre k []).length (grownCap w1 (wPre k []).length 0 5)) (wPre k []) := by
        have := hown.lower hk1.size
        rwa [show ((⟨#[42]⟩ : ByteArray) ++ D ++ ⟨#[13, 10]⟩).data.toList = wPre k [] by rw [HPRE.out]] at this
      have HO2 := Lib.hid hown2
      have HK2 := Lib.hid (hk1.trans hkb)
      clear hown hown2 hkb hk1 hW hpl hlen1
      refine Lib.hid ?_
      go_wp2
      go_loopw [6, 35] (fun vb vi wr => ∃ j : Nat, j ≤ k ∧ vi = .int .i64 j ∧ OwnT wr w.heap.size vb (wPre k (L.take j)) ∧ Kept NoBlock w wr) (fun _ vi _ => k - (intOf vi).toNat)
      case atStart => exact ⟨0, Nat.zero_le _, rfl, HO2.out, HK2.out⟩
      case round =>
        obtain ⟨j, hj, rfl, hown, hk⟩ := hrel
        have HO := Lib.hid hown
        have HK := Lib.hid hk
        have hsz := hk.size
        clear hown hk HO2 HK2 hcv HIT HPRE
        by_cases hlt2 : j < k
        · have hjL : j < L.length := by rw [← HN.out]; exact hlt2
          obtain ⟨ad, rfl, hc⟩ := HC.out j hjL
          have hc2 : wr.cell? (ad.add j) = some (strV L[j]) := by
            obtain ⟨ad', e1, h⟩ := RowV.cell (HR.out.keptNo HK.out) (i := j) (v := strV L[j]) (by rw [List.getElem?_map, List.getElem?_eq_getElem hjL]; rfl)
            cases e1; exact h
          have hsl : L[j].length ≤ 65536 := HSh.out _ (List.getElem_mem _)
          have hts := take_snoc' L j hjL
          have hps : wPre k (L.take (j + 1)) = wPre k (L.take j) ++ wBulk decDigits L[j] := by rw [hts, wPre_snoc]
          have hpl := wPre_len k h1 (L.take j) (fun s hs => HSh.out s (List.mem_of_mem_take hs))
          have hbl := wBulk_len L[j] hsl
          have hit := nitoa (L[j].length : Int) (by omega) (by omega) wr (HV.out.below HK.out.toB)
          rw [Lib.itoa_nonneg] at hit
          have hDl := dec_len 5 L[j].length (by omega)
          have hbs := wBulk_str L[j] _ rfl
          obtain ⟨S, hS⟩ : ∃ S : ByteArray, S = ⟨L[j].toArray⟩ := ⟨_, rfl⟩
          obtain ⟨D2, hD2⟩ : ∃ D : ByteArray, D = ⟨(decDigits L[j].length).toArray⟩ := ⟨_, rfl⟩
          have hD2s : D2.size ≤ 6 := by rw [hD2]; exact hDl
          have hSs : S.size ≤ 65536 := by rw [hS]; exact hsl
          have hSl : L[j].length = S.size := by rw [hS]; rfl
          have hc' : wr.cell? (ad.add j) = some (.string S) := by rw [hc2, hS]; rfl
          rw [← hD2] at hit hbs
          rw [← hS] at hbs
          rw [hSl] at hit
          rw [List.length_take] at hpl
          have HIT2 := Lib.hid hit
          have HBS := Lib.hid hbs
          have HPS := Lib.hid hps
          have hpl6 : (wPre k (L.take j)).length + (wBulk decDigits L[j]).length ≤ 100000000 := by
            have : 65600 * (min j L.length) ≤ 65600 * 1024 := Nat.mul_le_mul_left _ (by omega)
            omega
          clear hc hc2 hts hps hpl hbl hit hDl hbs hS hD2 hsl hSl
          go_wp2_with (go_at_call 23; refine HIT2.out.mono ?_; rintro e w2 ⟨rfl, hk2⟩; refine Hid.out ?_)
          have hown2 : OwnT w2 w.heap.size u6 (wPre k (L.take j)) := OwnM.kept HO.out hk2
          have hsz2 := hk2.size
          refine Lib.hid ?_
          go_wp2_with (at_builtin; refine wpList_appT rfl _ _ rfl w.heap.size u6 _ rfl hown2 _ _ HBS.out rfl hpl6 (by omega) ?_; intro v3 w3 hown3 hg3; refine Hid.out ?_)
          have HO3 := Lib.hid hown3
          have HK3 := Lib.hid (Kept.app (HK.out.trans hk2) hown2 (Nat.le_refl _) hg3)
          clear hown3 hg3 hown2 hk2
          refine Lib.hid ?_
          go_wp2
          go_roundw
          case rel => exact ⟨j + 1, by omega, by go_num, by rw [HPS.out]; exact HO3.out, HK3.out⟩
          case measure => simp [intOf]; omega
        · obtain rfl : j = k := by omega
          go_wp2
          go_ret2
          refine ⟨HK.out, .inr ⟨HSh.out, _, rfl, ?_⟩⟩
          have := HO.out
          rw [List.take_of_length_le (by rw [← HN.out]; exact Nat.le_refl _)] at this
          rw [← wPre_all, ← HN.out]
          exact this
end Go.Proofs.YtdfkdbdhaaiadaaDoor
