/- The document's requests: a word. -/
import Derived.Test.YtdfkdbdhaaiadaaDoorRs6
namespace Go.Proofs.YtdfkdbdhaaiadaaDoor
open Go.RowKit
attribute [local go_sem] fold_part fold_some fold_some' partAt_zero

/-- What the document's 'word' leaves. -/
def WdEnd (M : Option (Bs × Bs)) (l : Bs) (w : World) (e : Ending) (w' : World) : Prop :=
  Kept NoBlock w w' ∧ match M with
  | none => e = .returned (.tuple #[.string ⟨#[]⟩, .int .i64 0, .bool false])
  | some (p, t) => ∃ i : Nat, e = .returned (.tuple #[.string ⟨p.toArray⟩, .int .i64 i, .bool true]) ∧ i ≤ l.length ∧ l.drop i = t

set_option maxRecDepth 100000 in
set_option maxHeartbeats 6400000 in
theorem rword (l : Bs) (k : Nat) (hk : k ≤ l.length) (hl : l.length ≤ 1000000) (w : World) :
    Calls Tryd.prog 38 #[.string ⟨l.toArray⟩, .int .i64 k] w (WdEnd (wordA [] (l.drop k)) l w) := by
  generalize hM0 : wordA [] (l.drop k) = M
  obtain ⟨S, hS⟩ : ∃ S : ByteArray, S = ⟨l.toArray⟩ := ⟨_, rfl⟩
  have hqd := fun i q (hi : l[i]? = some q) (hq : q = 34 ∨ q = 39) W => rquoted l i q hi hq hl W
  have hSz := str_size hS
  rw [← hS] at hqd ⊢
  have HQD := Lib.hid hqd
  have HS := Lib.hid hS
  have HM0 := Lib.hid hM0
  have hS6 : S.size ≤ 1000000 := by omega
  have hkS : k ≤ S.size := by omega
  have HSZ := Lib.hid hSz
  clear hS hqd hk hM0 hSz
  go_enter Tryd.func38, Tryd.ntmps38
  go_wp2
  go_loopw [1, 7] (fun vi vb wr => ∃ (i : Nat) (xs : Bs), vi = .int .i64 i ∧ i ≤ S.size ∧ OwnB wr w.heap.size vb xs ∧ wordA xs (l.drop i) = M ∧ xs.length ≤ i ∧ Kept NoBlock w wr) (fun vi _ _ => S.size - (intOf vi).toNat)
  case atStart => exact ⟨k, [], rfl, hkS, OwnB.nil _ _, HM0.out, Nat.zero_le _, Kept.refl _ _⟩
  case round =>
    obtain ⟨i, xs, rfl, hi, hown, hM, hx, hK⟩ := hrel
    obtain ⟨ap7, cap7, rfl, _⟩ := ownsRow_form hown
    have HO := Lib.hid hown
    have HM := Lib.hid hM
    have HK := Lib.hid hK
    have hsz := hK.size
    have hcv := conv_bytes (P := Tryd.prog) wr 22 9 5 Tryd.underlying22 Tryd.underlying5 Tryd.underlying9 cap7 (RowV.holds (OwnB.bytes hown)).1
    clear hown hM hK HM0
    by_cases hlt : i < S.size
    · have hil : i < l.length := by have := HSZ.out; omega
      have hdc := drop_cons hil
      obtain ⟨c, hc⟩ : ∃ c, c = l[i] := ⟨_, rfl⟩
      obtain ⟨r, hr⟩ : ∃ r, r = l.drop (i + 1) := ⟨_, rfl⟩
      have hci : l[i]? = some c := by rw [List.getElem?_eq_getElem hil, hc]
      rw [← hc, ← hr] at hdc
      obtain ⟨hi1, ei⟩ := str_at HS.out (i := i) (c := c) hci
      have HCI := Lib.hid hci
      have HR := Lib.hid hr
      have HD := Lib.hid hdc
      have hpb := fun W => rblank c W
      have hltI : (i : Int) < (S.size : Int) := by omega
      clear hr hdc hc hci
      cases hbl : blank c with
      | true =>
        rw [hbl] at hpb
        obtain rfl : some (xs, c :: r) = M := by rw [← HM.out, HD.out, wordA_blank hbl]
        clear hbl
        go_wp2_with (go_at_call 37; refine (hpb _).mono ?_; rintro e w' ⟨rfl, rfl⟩)
        go_ret3
        exact ⟨HK.out, i, rfl, by have := HSZ.out; omega, HD.out⟩
      | false =>
        rw [hbl] at hpb
        by_cases hq : c = 34 ∨ c = 39
        · have hcall := HQD.out i c HCI.out hq wr
          have hM2 : (match quotedA c [] r with | none => none | some (p, t) => if t ≠ [] ∧ blank (t.headD 0) = false then none else some (xs ++ p, t)) = M := by
            rw [← HM.out, HD.out, wordA_quo hbl hq]
            rcases quotedA c [] r with _ | ⟨p, t⟩ <;> rfl
          have hql := fun p t (h : quotedA c [] r = some (p, t)) => quotedA_len r.length c r [] p t (Nat.le_refl _) h
          rw [← HR.out] at hcall
          generalize quotedA c [] r = Z at *
          have HC := Lib.hid hcall
          have HM2 := Lib.hid hM2
          have HQL := Lib.hid hql
          have hrl : r.length + 1 = S.size - i := by rw [HR.out, List.length_drop]; have := HSZ.out; omega
          clear hcall hM2 hql HM hbl
          rcases hq with rfl | rfl
          all_goals
            go_wp2_with (go_at_call 37; refine (hpb _).mono ?_; rintro e w' ⟨rfl, rfl⟩)
            refine HC.out.mono ?_
            rintro e w2 ⟨hk2, hend⟩
            have hkw2 : Kept NoBlock w w2 := HK.out.trans hk2
            rcases Z with _ | ⟨p, t⟩
            · obtain rfl : none = M := HM2.out
              obtain rfl := hend
              go_wp2
              go_ret3
              exact ⟨hkw2, rfl⟩
            · obtain ⟨v2, j, rfl, hown2, hj, ht⟩ := hend
              obtain ⟨hp1, hp2⟩ := HQL.out p t rfl
              have htl := congrArg List.length ht
              rw [List.length_drop] at htl
              have hjS : j ≤ S.size := by have := HSZ.out; omega
              have htS : S.size - j = t.length := by have := HSZ.out; omega
              have hown3 : OwnB w2 w.heap.size (.slice ap7 xs.length cap7) xs := HO.out.kept2 hk2
              have hbt2 := hown2.bytes
              have hxp : xs.length + p.length ≤ j := by simp only [List.length_nil] at hp1; omega
              have hsz2 := hk2.size
              have HT := Lib.hid ht
              have HK2 := Lib.hid hkw2
              have HO3 := Lib.hid hown3
              have HB2 := Lib.hid hbt2
              have hjl : j > i := by simp only [List.length_nil] at hp1 hp2; omega
              clear hp1 hp2 htl ht hk2 hown2 hown3 hbt2 hkw2 HC hcv HQL
              rcases t with _ | ⟨c2, t2⟩
              · obtain rfl : some (xs ++ p, []) = M := by rw [← HM2.out]; simp
                obtain rfl : j = S.size := by simp only [List.length_nil] at htS; omega
                clear htS HM2
                go_wp2_with (at_builtin; refine wpList_appB rfl _ _ rfl w.heap.size _ xs rfl HO3.out _ p rfl HB2.out (by omega) (by omega) ?_; intro v5 w3 happ; refine Hid.out ?_)
                have HK3 := Lib.hid (happ.kept HO3.out (Nat.le_refl _) HK2.out)
                have HAP := Lib.hid happ.own
                clear happ
                refine Lib.hid ?_
                go_wp2
                go_roundw
                case rel => exact ⟨S.size, xs ++ p, rfl, Nat.le_refl _, HAP.out, by rw [HT.out, wordA_nil], by rw [List.length_append]; exact hxp, HK3.out⟩
                case measure => simp [intOf]; omega
              · have hjn : j < S.size := by simp only [List.length_cons] at htS; omega
                have hjI : (j : Int) < (S.size : Int) := by omega
                have hcj : l[j]? = some c2 := by
                  have := congrArg (·[0]?) HT.out
                  simpa [List.getElem?_drop] using this
                obtain ⟨hj1, ej⟩ := str_at HS.out hcj
                have hpb2 := fun W => rblank c2 W
                clear htS hcj
                cases hbl2 : blank c2 with
                | true =>
                  obtain rfl : some (xs ++ p, c2 :: t2) = M := by rw [← HM2.out]; simp [hbl2]
                  rw [hbl2] at hpb2
                  have HBL2 := Lib.hid hbl2
                  clear hbl2 HM2
                  go_wp2_with (first | (go_at_call 37; refine (hpb2 _).mono ?_; rintro e w' ⟨rfl, rfl⟩) | (at_builtin; refine wpList_appB rfl _ _ rfl w.heap.size _ xs rfl HO3.out _ p rfl HB2.out (by omega) (by omega) ?_; intro v5 w3 happ; refine Hid.out ?_))
                  have HK3 := Lib.hid (happ.kept HO3.out (Nat.le_refl _) HK2.out)
                  have HAP := Lib.hid happ.own
                  clear happ
                  refine Lib.hid ?_
                  go_wp2
                  go_roundw
                  case rel => exact ⟨j, xs ++ p, rfl, hjS, HAP.out, by rw [HT.out, wordA_blank HBL2.out], by rw [List.length_append]; exact hxp, HK3.out⟩
                  case measure => simp [intOf]; omega
                | false =>
                  obtain rfl : none = M := by rw [← HM2.out]; simp [hbl2]
                  rw [hbl2] at hpb2
                  clear hbl2 HM2
                  go_wp2_with (go_at_call 37; refine (hpb2 _).mono ?_; rintro e w' ⟨rfl, rfl⟩)
                  go_ret3
                  exact ⟨HK2.out, rfl⟩
        · have hq1 : ¬ ((c.toNat : Int) = 34) := fun e => hq (.inl (UInt8.toNat_inj.1 (by show c.toNat = 34; omega)))
          have hq2 : ¬ ((c.toNat : Int) = 39) := fun e => hq (.inr (UInt8.toNat_inj.1 (by show c.toNat = 39; omega)))
          have hq1b : ((c.toNat : Int) != 34) = true := by simpa using hq1
          have hq2b : ((c.toNat : Int) != 39) = true := by simpa using hq2
          have hM2 : wordA (xs ++ [c]) (l.drop (i + 1)) = M := by
            rw [← HM.out, HD.out, wordA_plain hbl (fun e => hq (.inl e)) (fun e => hq (.inr e)), HR.out]
          have HM2 := Lib.hid hM2
          clear hM2 HM hbl hq hq1 hq2 hcv
          go_wp2_with (first | (go_at_call 37; refine (hpb _).mono ?_; rintro e w' ⟨rfl, rfl⟩) | (at_builtin; refine wpList_appB rfl _ _ (by rfl) w.heap.size _ xs (by rfl) (HO.out.alloc _) _ [c] (by rfl) (bytes_fresh wr [c] (0, 0)) (by simp; omega) (by simp; omega) ?_; intro v5 w3 happ; refine Hid.out ?_))
          have HK3 := Lib.hid (happ.kept (HO.out.alloc _) (Nat.le_refl _) (HK.out.alloc _))
          have HAP := Lib.hid happ.own
          clear happ
          refine Lib.hid ?_
          go_wp2
          go_roundw
          case rel => exact ⟨i + 1, xs ++ [c], by go_num, by omega, HAP.out, HM2.out, by rw [List.length_append, List.length_singleton]; omega, HK3.out⟩
          case measure => simp [intOf]; omega
    · have hdn : l.drop i = [] := List.drop_of_length_le (by have := HSZ.out; omega)
      obtain rfl : some (xs, []) = M := by rw [← HM.out, hdn, wordA_nil]
      have HDN := Lib.hid hdn
      clear hdn
      go_wp2
      go_ret3
      exact ⟨HK.out, i, rfl, by have := HSZ.out; omega, HDN.out⟩
end Go.Proofs.YtdfkdbdhaaiadaaDoor
