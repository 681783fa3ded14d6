/- The document's requests: quoted parts. -/
import Derived.Test.YtdfkdbdhaaiadaaDoorRs3
import Derived.Test.YtdfkdbdhaaiadaaDoorRe17
namespace Go.Proofs.YtdfkdbdhaaiadaaDoor
open Go.RowKit
attribute [local go_sem] fold_part fold_some fold_some' partAt_zero

/-- What the document's 'quoted' leaves. -/
def QEnd (M : Option (Bs × Bs)) (l : Bs) (w : World) (e : Ending) (w' : World) : Prop :=
  Kept NoBlock w w' ∧ match M with
  | none => e = .returned (.tuple #[.slice none 0 0, .int .i64 0, .bool false])
  | some (p, t) => ∃ (v : Value) (i : Nat), e = .returned (.tuple #[v, .int .i64 i, .bool true]) ∧ OwnB w' w.heap.size v p ∧ i ≤ l.length ∧ l.drop i = t

theorem drop_cons {l : Bs} {i : Nat} (h : i < l.length) : l.drop i = l[i] :: l.drop (i + 1) := (List.getElem_cons_drop h).symm

theorem escM_le (r : Bs) : (escM r).2 ≤ r.length + 1 := by
  cases r with
  | nil => simp [escM]
  | cons x r => have := escaped_le x r; simp only [escM, List.length_cons]; omega
theorem escM_pos (r : Bs) : 1 ≤ (escM r).2 := by cases r <;> simp [escM]
theorem escM_four (r : Bs) : (escM r).2 ≤ 4 := by
  cases r with
  | nil => simp [escM]
  | cons x r =>
    rcases escaped_ways x r with h | ⟨y, z, r', a, b, _, rfl, _, _, h⟩
    · simp [escM, h]
    · simp [escM, h]

theorem quotedA_end (q : UInt8) (xs r : Bs) : quotedA q xs (q :: r) = some (xs, r) := by rw [quotedA, if_pos rfl]
theorem quotedA_nil (q : UInt8) (xs : Bs) : quotedA q xs [] = none := by rw [quotedA]
theorem quotedA_esc (xs r : Bs) : quotedA 34 xs (92 :: r) = quotedA 34 (xs ++ [(escM r).1]) (r.drop ((escM r).2 - 1)) := by
  cases r with
  | nil => rw [quotedA]; simp [escM]
  | cons x r => rw [quotedA_C]; simp [escM]
theorem quotedA_other {q c : UInt8} (xs r : Bs) (h1 : c ≠ q) (h2 : c ≠ 92) : quotedA q xs (c :: r) = quotedA q (xs ++ [c]) r := by
  rw [quotedA, if_neg h1, if_neg (by simp [h2]), if_neg (by simp [h2])]
theorem quotedA_lone (xs r : Bs) (h : r.head? ≠ some 39) : quotedA 39 xs (92 :: r) = quotedA 39 (xs ++ [92]) r := by
  rw [quotedA, if_neg (by decide), if_neg (by simp [h]), if_neg (by simp)]

set_option maxRecDepth 100000 in
set_option maxHeartbeats 6400000 in
theorem rquoted (l : Bs) (k : Nat) (q : UInt8) (hk : l[k]? = some q) (hq : q = 34 ∨ q = 39) (hl : l.length ≤ 1000000) (w : World) :
    Calls Tryd.prog 47 #[.string ⟨l.toArray⟩, .int .i64 k] w (QEnd (quotedA q [] (l.drop (k + 1))) l w) := by
  generalize hM0 : quotedA q [] (l.drop (k + 1)) = M
  obtain ⟨S, hS⟩ : ∃ S : ByteArray, S = ⟨l.toArray⟩ := ⟨_, rfl⟩
  have hesc := fun i (hi : i ≤ 100000000) W => rescape l i (by omega) hi W
  obtain ⟨hkl, _⟩ := List.getElem?_eq_some_iff.1 hk
  obtain ⟨hk1, ek⟩ := str_at hS hk
  have hSz := str_size hS
  rw [← hS] at hesc ⊢
  have HESC := Lib.hid hesc
  obtain ⟨n, hn⟩ : ∃ n, n = l.length := ⟨_, rfl⟩
  rw [← hn] at hl hSz hkl
  have HN := Lib.hid hn
  have HS := Lib.hid hS
  have HM0 := Lib.hid hM0
  have hS6 : S.size ≤ 1000000 := by omega
  have HSZ := Lib.hid hSz
  clear hS hesc hk hn hM0 hSz
  rcases hq with rfl | rfl
  · go_enter Tryd.func47, Tryd.ntmps47
    go_wp2
    go_loopw [8, 9] (fun vb vi wr => ∃ (i : Nat) (xs : Bs), vi = .int .i64 i ∧ i ≤ S.size ∧ OwnB wr w.heap.size vb xs ∧ quotedA 34 xs (l.drop i) = M ∧ xs.length ≤ i ∧ Kept NoBlock w wr) (fun _ vi _ => S.size - (intOf vi).toNat)
    case atStart => exact ⟨k + 1, [], by go_num, by omega, OwnB.nil _ _, HM0.out, Nat.zero_le _, Kept.refl _ _⟩
    case round =>
      obtain ⟨i, xs, rfl, hi, hown, hM, hx, hK⟩ := hrel
      have HO := Lib.hid hown
      have HM := Lib.hid hM
      have HK := Lib.hid hK
      have hsz := hK.size
      clear hown hM hK HM0
      by_cases hlt : i < S.size
      · have hil : i < l.length := by have := HSZ.out; have := HN.out; omega
        have hdc := drop_cons hil
        obtain ⟨c, hc⟩ : ∃ c, c = l[i] := ⟨_, rfl⟩
        obtain ⟨r, hr⟩ : ∃ r, r = l.drop (i + 1) := ⟨_, rfl⟩
        rw [← hc, ← hr] at hdc
        obtain ⟨hi1, ei⟩ := str_at HS.out (i := i) (c := c) (by rw [List.getElem?_eq_getElem hil, hc])
        have HR := Lib.hid hr
        have HD := Lib.hid hdc
        clear hr hdc hc
        have hltI : (i : Int) < (S.size : Int) := by omega
        by_cases h34 : c = 34
        · subst h34
          obtain rfl : some (xs, r) = M := by rw [← HM.out, HD.out, quotedA_end]
          go_wp2
          go_ret3
          exact ⟨HK.out, _, i + 1, rfl, HO.out, by omega, HR.out.symm⟩
        · have h34' : ¬ ((c.toNat : Int) = 34) := fun e => h34 (UInt8.toNat_inj.1 (by show c.toNat = 34; omega))
          have h34b : ((c.toNat : Int) == 34) = false := by simpa using h34'
          by_cases h92 : c = 92
          · subst h92
            have hM2 : quotedA 34 (xs ++ [(escM r).1]) (l.drop (i + (escM r).2)) = M := by
              rw [← HM.out, HD.out, quotedA_esc, HR.out, List.drop_drop]
              have := escM_pos (l.drop (i + 1))
              rw [show i + 1 + ((escM (l.drop (i + 1))).2 - 1) = i + (escM (l.drop (i + 1))).2 by omega]
            have hce := HESC.out i (by omega) wr
            rw [← HR.out] at hce
            have hel := escM_le r
            have hrl : r.length + 1 = S.size - i := by rw [HR.out, List.length_drop]; have := HSZ.out; have := HN.out; omega
            have hep := escM_pos r
            have he4 := escM_four r
            generalize (escM r).1 = ec at *
            generalize (escM r).2 = en at *
            have HCE := Lib.hid hce
            have HM2 := Lib.hid hM2
            have hen : i + en ≤ S.size := by omega
            clear hce hM2 hel hrl HM h34'
            go_wp2_with (first | (go_at_call 57; refine HCE.out.mono ?_; rintro e w2 ⟨rfl, hk2⟩) | (at_builtin; refine wpList_appB rfl _ _ (by rfl) w.heap.size _ xs (by rfl) ((HO.out.kept2 hk2).alloc _) _ [ec] (by rfl) (bytes_fresh w2 [ec] (0, 0)) (by simp; omega) (by have := hk2.size; simp; omega) ?_; intro v5 w3 happ; refine Hid.out ?_))
            have HK3 := Lib.hid (happ.kept ((HO.out.kept2 hk2).alloc _) (Nat.le_refl _) ((HK.out.trans hk2).alloc _))
            have HAP := Lib.hid happ.own
            clear happ hk2
            refine Lib.hid ?_
            go_wp2
            go_roundw
            case rel => exact ⟨i + en, xs ++ [ec], by go_num, hen, HAP.out, HM2.out, by rw [List.length_append, List.length_singleton]; omega, HK3.out⟩
            case measure => simp [intOf]; omega
          · have h92' : ¬ ((c.toNat : Int) = 92) := fun e => h92 (UInt8.toNat_inj.1 (by show c.toNat = 92; omega))
            have h92b : ((c.toNat : Int) == 92) = false := by simpa using h92'
            have hM2 : quotedA 34 (xs ++ [c]) (l.drop (i + 1)) = M := by
              rw [← HM.out, HD.out, quotedA_other _ _ h34 h92, HR.out]
            have HM2 := Lib.hid hM2
            clear hM2 HM h34' h92' h34 h92
            go_wp2_with (at_builtin; refine wpList_appB rfl _ _ (by rfl) w.heap.size _ xs (by rfl) (HO.out.alloc _) _ [c] (by rfl) (bytes_fresh wr [c] (0, 0)) (by simp; omega) (by simp; omega) ?_; intro v5 w3 happ; refine Hid.out ?_)
            have HK3 := Lib.hid (happ.kept (HO.out.alloc _) (Nat.le_refl _) (HK.out.alloc _))
            have HAP := Lib.hid happ.own
            clear happ
            refine Lib.hid ?_
            go_wp2
            go_roundw
            case rel => exact ⟨i + 1, xs ++ [c], by go_num, by omega, HAP.out, HM2.out, by rw [List.length_append, List.length_singleton]; omega, HK3.out⟩
            case measure => simp [intOf]; omega
      · obtain rfl : none = M := by
          rw [← HM.out, List.drop_of_length_le (by have := HSZ.out; have := HN.out; omega), quotedA_nil]
        go_wp2
        go_ret3
        exact ⟨HK.out, rfl⟩
  · go_enter Tryd.func47, Tryd.ntmps47
    go_wp2
    go_loopw [8, 9] (fun vb vi wr => ∃ (i : Nat) (xs : Bs), vi = .int .i64 i ∧ i ≤ S.size ∧ OwnB wr w.heap.size vb xs ∧ quotedA 39 xs (l.drop i) = M ∧ xs.length ≤ i ∧ Kept NoBlock w wr) (fun _ vi _ => S.size - (intOf vi).toNat)
    case atStart => exact ⟨k + 1, [], by go_num, by omega, OwnB.nil _ _, HM0.out, Nat.zero_le _, Kept.refl _ _⟩
    case round =>
      obtain ⟨i, xs, rfl, hi, hown, hM, hx, hK⟩ := hrel
      have HO := Lib.hid hown
      have HM := Lib.hid hM
      have HK := Lib.hid hK
      have hsz := hK.size
      clear hown hM hK HM0
      by_cases hlt : i < S.size
      · have hil : i < l.length := by have := HSZ.out; have := HN.out; omega
        have hdc := drop_cons hil
        obtain ⟨c, hc⟩ : ∃ c, c = l[i] := ⟨_, rfl⟩
        obtain ⟨r, hr⟩ : ∃ r, r = l.drop (i + 1) := ⟨_, rfl⟩
        rw [← hc, ← hr] at hdc
        obtain ⟨hi1, ei⟩ := str_at HS.out (i := i) (c := c) (by rw [List.getElem?_eq_getElem hil, hc])
        have HR := Lib.hid hr
        have HD := Lib.hid hdc
        clear hr hdc hc
        have hltI : (i : Int) < (S.size : Int) := by omega
        by_cases h39 : c = 39
        · subst h39
          obtain rfl : some (xs, r) = M := by rw [← HM.out, HD.out, quotedA_end]
          go_wp2
          go_ret3
          exact ⟨HK.out, _, i + 1, rfl, HO.out, by omega, HR.out.symm⟩
        · have h39' : ¬ ((c.toNat : Int) = 39) := fun e => h39 (UInt8.toNat_inj.1 (by show c.toNat = 39; omega))
          have h39b : ((c.toNat : Int) == 39) = false := by simpa using h39'
          by_cases h92 : c = 92
          · subst h92
            by_cases hil2 : i + 1 < S.size
            · have hi2l : i + 1 < l.length := by have := HSZ.out; have := HN.out; omega
              have hdc2 := drop_cons hi2l
              obtain ⟨x, hx'⟩ : ∃ x, x = l[i + 1] := ⟨_, rfl⟩
              rw [← hx', ← HR.out] at hdc2
              obtain ⟨hi2, ei2⟩ := str_at HS.out (i := i + 1) (c := x) (by rw [List.getElem?_eq_getElem hi2l, hx'])
              have hlI2 : (i : Int) + 1 < (S.size : Int) := by omega
              by_cases hx39 : x = 39
              · subst hx39
                have hM2 : quotedA 39 (xs ++ [39]) (l.drop (i + 2)) = M := by
                  rw [← HM.out, HD.out, hdc2, quotedA_B]
                have HM2 := Lib.hid hM2
                clear hM2 HM h39' hdc2 hx'
                go_wp2_with (at_builtin; refine wpList_appB rfl _ _ (by rfl) w.heap.size _ xs (by rfl) (HO.out.alloc _) _ [39] (by rfl) (bytes_fresh wr [39] (0, 0)) (by simp; omega) (by simp; omega) ?_; intro v5 w3 happ; refine Hid.out ?_)
                have HK3 := Lib.hid (happ.kept (HO.out.alloc _) (Nat.le_refl _) (HK.out.alloc _))
                have HAP := Lib.hid happ.own
                clear happ
                refine Lib.hid ?_
                go_wp2
                go_roundw
                case rel => exact ⟨i + 2, xs ++ [39], by go_num, by omega, HAP.out, HM2.out, by rw [List.length_append, List.length_singleton]; omega, HK3.out⟩
                case measure => simp [intOf]; omega
              · have hx39' : ¬ ((x.toNat : Int) = 39) := fun e => hx39 (UInt8.toNat_inj.1 (by show x.toNat = 39; omega))
                have hx39b : ((x.toNat : Int) == 39) = false := by simpa using hx39'
                have hM2 : quotedA 39 (xs ++ [92]) (l.drop (i + 1)) = M := by
                  rw [← HM.out, HD.out, quotedA_lone _ _ (by rw [hdc2]; simp [hx39]), HR.out]
                have HM2 := Lib.hid hM2
                clear hM2 HM h39' hdc2 hx' hx39 hx39'
                go_wp2_with (at_builtin; refine wpList_appB rfl _ _ (by rfl) w.heap.size _ xs (by rfl) (HO.out.alloc _) _ [92] (by rfl) (bytes_fresh wr [92] (0, 0)) (by simp; omega) (by simp; omega) ?_; intro v5 w3 happ; refine Hid.out ?_)
                have HK3 := Lib.hid (happ.kept (HO.out.alloc _) (Nat.le_refl _) (HK.out.alloc _))
                have HAP := Lib.hid happ.own
                clear happ
                refine Lib.hid ?_
                go_wp2
                go_roundw
                case rel => exact ⟨i + 1, xs ++ [92], by go_num, by omega, HAP.out, HM2.out, by rw [List.length_append, List.length_singleton]; omega, HK3.out⟩
                case measure => simp [intOf]; omega
            · have hlI2 : ¬ (i : Int) + 1 < (S.size : Int) := by omega
              have hrn : r = [] := by rw [HR.out]; exact List.drop_of_length_le (by have := HSZ.out; have := HN.out; omega)
              have hM2 : quotedA 39 (xs ++ [92]) (l.drop (i + 1)) = M := by
                rw [← HM.out, HD.out, quotedA_lone _ _ (by rw [hrn]; simp), HR.out]
              have HM2 := Lib.hid hM2
              clear hM2 HM h39' hrn
              go_wp2_with (at_builtin; refine wpList_appB rfl _ _ (by rfl) w.heap.size _ xs (by rfl) (HO.out.alloc _) _ [92] (by rfl) (bytes_fresh wr [92] (0, 0)) (by simp; omega) (by simp; omega) ?_; intro v5 w3 happ; refine Hid.out ?_)
              have HK3 := Lib.hid (happ.kept (HO.out.alloc _) (Nat.le_refl _) (HK.out.alloc _))
              have HAP := Lib.hid happ.own
              clear happ
              refine Lib.hid ?_
              go_wp2
              go_roundw
              case rel => exact ⟨i + 1, xs ++ [92], by go_num, by omega, HAP.out, HM2.out, by rw [List.length_append, List.length_singleton]; omega, HK3.out⟩
              case measure => simp [intOf]; omega
          · have h92' : ¬ ((c.toNat : Int) = 92) := fun e => h92 (UInt8.toNat_inj.1 (by show c.toNat = 92; omega))
            have h92b : ((c.toNat : Int) == 92) = false := by simpa using h92'
            have hM2 : quotedA 39 (xs ++ [c]) (l.drop (i + 1)) = M := by
              rw [← HM.out, HD.out, quotedA_other _ _ h39 h92, HR.out]
            have HM2 := Lib.hid hM2
            clear hM2 HM h39' h92' h39 h92
            go_wp2_with (at_builtin; refine wpList_appB rfl _ _ (by rfl) w.heap.size _ xs (by rfl) (HO.out.alloc _) _ [c] (by rfl) (bytes_fresh wr [c] (0, 0)) (by simp; omega) (by simp; omega) ?_; intro v5 w3 happ; refine Hid.out ?_)
            have HK3 := Lib.hid (happ.kept (HO.out.alloc _) (Nat.le_refl _) (HK.out.alloc _))
            have HAP := Lib.hid happ.own
            clear happ
            refine Lib.hid ?_
            go_wp2
            go_roundw
            case rel => exact ⟨i + 1, xs ++ [c], by go_num, by omega, HAP.out, HM2.out, by rw [List.length_append, List.length_singleton]; omega, HK3.out⟩
            case measure => simp [intOf]; omega
      · obtain rfl : none = M := by
          rw [← HM.out, List.drop_of_length_le (by have := HSZ.out; have := HN.out; omega), quotedA_nil]
        go_wp2
        go_ret3
        exact ⟨HK.out, rfl⟩
end Go.Proofs.YtdfkdbdhaaiadaaDoor
