/- The law of a request's bytes: what is written is read first. -/
import Derived.Test.YtdfkdbdhaaiadaaDoorRw2
import Derived.Test.YtdfkdbdhaaiadaaDoorRe18
namespace Go.Proofs.YtdfkdbdhaaiadaaDoor
open Go.RowKit
open Go.Lib (decDigits)
attribute [local go_sem] fold_part fold_some fold_some' partAt_zero

theorem wpList_appTB {w : World} {ops : Array Oper} {rest : List Oper} {o : Oper} {a : Act} {Q : Exit → Act → World → Prop} (hgd : o.guard = none) (sl x : Operand)
    (ho : o.op = .call { callee := .builtin .append, args := #[sl, x], argTypes := #[22, 22] })
    (base : Nat) (v : Value) (xs : Bs) (hs : a.eval sl = v) (hown : OwnT w base v xs) (u : Value) (p : Bs) (hx : a.eval x = u) (hu : BytesV w u p) (hlen : xs.length + p.length ≤ 100000000) (hbase : base ≤ w.heap.size)
    (h : ∀ v' w', OwnT w' base v' (xs ++ p) → w.grownBy w' v.ownBlock → wpList Tryd.prog ops Q rest (a.put o.dst v') w') : wpList Tryd.prog ops Q (o :: rest) a w := by
  obtain ⟨i0, hi, hz0, hz1, hz2⟩ := info_parts byteInfo
  obtain ⟨ap, cap, rfl, h1, h2⟩ := hu.parts
  obtain ⟨hH, hl, _, _⟩ := RowV.holds hu
  refine wpList_append_M (P := Tryd.prog) w hgd sl x 22 ho base 5 i0 (.int .u8 0) 1 Tryd.underlying22 hi hz0 hz1 hz2 rfl v xs.length (xs.map bv) hs hown ap p.length cap (p.map bv) hx hH h2 (bv_one _) (by unfold maxLen; omega) (by omega) hbase ?_
  intro v' w' hr hg
  refine h v' w' ?_ hg
  unfold OwnT
  rw [List.length_append, List.map_append]
  exact hr

theorem conv_none (w : World) : (convert 22 9 (.slice none 0 0)).run Tryd.prog w = .ok (.string ⟨#[]⟩) w :=
  conv_bytes w 22 9 5 Tryd.underlying22 Tryd.underlying5 Tryd.underlying9 0 (l := []) ⟨rfl, fun h => absurd h (Nat.lt_irrefl _)⟩

set_option maxRecDepth 100000 in
set_option maxHeartbeats 1600000 in
theorem law_back_none (ap : Option Addr) (c : Nat) (t : Value) (w : World) (hV : Vs w) : Calls Tryd.prog 9 #[.slice ap 0 c, t] w fun e w' => e = .returned (.bool true) ∧ Kept NoBlock w w' := by
  have hcn := conv_none
  have HA := Lib.hid (pawake w hV)
  clear hV
  go_enter Tryd.func9, Tryd.ntmps9
  go_wp2_with (first | (go_at_call 14; refine HA.out.mono ?_; rintro e w1 ⟨rfl, hk1⟩) | (go_at_call 19; refine (pwrite_none _ _ _).mono ?_; rintro e w' ⟨rfl, rfl⟩) | (go_at_call 20; refine (rwrite_none _ _ _).mono ?_; rintro e w' ⟨rfl, rfl⟩))
  go_ret
  exact ⟨rfl, hk1⟩

set_option maxRecDepth 100000 in
set_option maxHeartbeats 1600000 in
theorem law_back_many (ap : Option Addr) (n c : Nat) (hn : 1024 < n) (hc : n ≤ c) (h63 : n ≤ 9223372036854775807) (t : Value) (w : World) (hV : Vs w) : Calls Tryd.prog 9 #[.slice ap n c, t] w fun e w' => e = .returned (.bool true) ∧ Kept NoBlock w w' := by
  have hcn := conv_none
  have HA := Lib.hid (pawake w hV)
  clear hV
  by_cases h2 : n ≤ 2000
  · have h2' : ¬ (2000 : Int) < n := by omega
    go_enter Tryd.func9, Tryd.ntmps9
    go_wp2_with (first | (go_at_call 14; refine HA.out.mono ?_; rintro e w1 ⟨rfl, hk1⟩) | (go_at_call 19; refine (pwrite_many _ _ _ (by omega) (by omega) _).mono ?_; rintro e w' ⟨rfl, rfl⟩) | (go_at_call 20; refine (rwrite_many _ _ _ (by omega) (by omega) _).mono ?_; rintro e w' ⟨rfl, rfl⟩))
    go_ret
    exact ⟨rfl, hk1⟩
  · have h2' : (2000 : Int) < n := by omega
    go_enter Tryd.func9, Tryd.ntmps9
    go_wp2_with (first | (go_at_call 14; refine HA.out.mono ?_; rintro e w1 ⟨rfl, hk1⟩) | (go_at_call 19; refine (pwrite_many _ _ _ (by omega) (by omega) _).mono ?_; rintro e w' ⟨rfl, rfl⟩) | (go_at_call 20; refine (rwrite_many _ _ _ (by omega) (by omega) _).mono ?_; rintro e w' ⟨rfl, rfl⟩))
    go_ret
    exact ⟨rfl, hk1⟩

theorem ReqsV.single (w : World) (v : Value) (L : List Bs) (h : TextsV w v L) : ReqsV (w.alloc (.cells #[v] 48)) (.slice (some ⟨w.heap.size, 0, none⟩) 1 1) [L] := by
  refine ⟨[(v, L)], RowV.mk ?_ (Nat.le_refl _) (fun h => by cases h), rfl, fun p hp => ?_, by simp⟩
  · exact holds_fresh w 48 [v]
  · obtain rfl := List.mem_singleton.1 hp
    exact h.keptNo ((Kept.refl _ w).alloc _)

set_option maxRecDepth 100000 in
set_option maxHeartbeats 3200000 in
theorem law_back (v t : Value) (L : List Bs) (b0 : Bs) (w : World) (hV : Vs w) (h : TextsV w v L) (ht : BytesV w t b0) (h0 : 0 < L.length) (h1 : L.length ≤ 1024) :
    Calls Tryd.prog 9 #[v, t] w fun e w' => e = .returned (.bool true) ∧ Kept NoBlock w w' := by
  have hcn := conv_none
  have HA := Lib.hid (pawake w hV)
  have HV := Lib.hid hV
  have HT := Lib.hid h
  have HB := Lib.hid ht
  obtain ⟨hr, _⟩ := h
  obtain ⟨ap, cap, rfl, _, _⟩ := hr.parts
  rw [List.length_map] at HT ⊢
  clear hV hr ht
  obtain ⟨n, hn⟩ : ∃ n, n = L.length := ⟨_, rfl⟩
  rw [← hn] at HT ⊢
  have hn0 : 0 < n := by omega
  have hn1 : n ≤ 1024 := by omega
  have hw : ∀ W, Kept NoBlock w W → Calls Tryd.prog 19 #[.slice ap n cap] W (WEnd L W) := fun W hk => pwrite _ L W (HV.out.below hk.toB) (HT.out.keptNo hk) h0 h1
  have hrw : ∀ W, Kept NoBlock w W → Calls Tryd.prog 20 #[.slice ap n cap] W (WEnd L W) := fun W hk => rwrite _ L W (HV.out.below hk.toB) (HT.out.keptNo hk) h0 h1
  have HW := Lib.hid hw
  have HRW := Lib.hid hrw
  have HSM := Lib.hid (fun W vb (hk : Kept NoBlock w W) (hb : ReqsV (W.alloc (.cells #[.slice ap n cap] 48)) vb [L]) => psame vb (.slice (some ⟨W.heap.size, 0, none⟩) 1 1) [L] (W.alloc (.cells #[.slice ap n cap] 48)) hb (ReqsV.single W _ L (HT.out.keptNo hk)))
  have h2 : ¬ (2000 : Int) < n := by omega
  have hlx : (wReq decDigits L).length ≤ 100 + 65600 * 1024 ∨ ¬ Short L := by
    by_cases hs : Short L
    · left
      have := wPre_len L.length h1 L hs
      rw [wPre_all] at this
      have : 65600 * L.length ≤ 65600 * 1024 := Nat.mul_le_mul_left _ h1
      omega
    · exact .inr hs
  have HLX := Lib.hid hlx
  have H0 := Lib.hid h0
  have H1 := Lib.hid h1
  clear hw hrw hlx hn h0 h1
  go_enter Tryd.func9, Tryd.ntmps9
  go_wp2_with (go_at_call 14; refine HA.out.mono ?_; rintro e w1 ⟨rfl, hk1⟩; refine Hid.out ?_)
  have HK1 := Lib.hid hk1
  clear hk1
  refine Lib.hid ?_
  go_wp2_with fail
  refine (HW.out w1 HK1.out).mono ?_
  rintro e w2 ⟨hk2, hend⟩
  have HK2 := Lib.hid (HK1.out.trans hk2)
  have hsz2 := hk2.size
  clear hk2
  rcases hend with ⟨⟨s, hs1, hs2⟩, rfl⟩ | ⟨hsh, vb, rfl, hown⟩
  · go_wp2_with fail
    refine (HRW.out w2 HK2.out).mono ?_
    rintro e w3 ⟨hk3, hend⟩
    have HK3 := Lib.hid (HK2.out.trans hk3)
    clear hk3
    rcases hend with ⟨_, rfl⟩ | ⟨hsh, _⟩
    · clear hs1 hs2
      go_wp2
      go_ret
      exact ⟨rfl, HK3.out⟩
    · have := hsh s hs1; omega
  · have HO := Lib.hid hown
    obtain ⟨apb, capb, rfl, hcb, _⟩ := OwnM.form hown
    have HS := Lib.hid hsh
    clear hown hsh
    go_wp2_with fail
    refine (HRW.out w2 HK2.out).mono ?_
    rintro e w3 ⟨hk3, hend⟩
    have HO3 := Lib.hid (OwnM.kept HO.out hk3)
    have HK3 := Lib.hid (HK2.out.trans hk3)
    have hsz3 := hk3.size
    clear hk3
    rcases hend with ⟨⟨s, hs1, hs2⟩, _⟩ | ⟨_, vc, rfl, hownc⟩
    · have := HS.out s hs1; omega
    · have hlr : (wReq decDigits L).length ≤ 100 + 65600 * 1024 := HLX.out.elim (fun h => h) (fun h => absurd HS.out h)
      obtain ⟨apc, capc, rfl, hcc, _⟩ := OwnM.form hownc
      have hcv1 := conv_bytes (P := Tryd.prog) w3 22 9 5 Tryd.underlying22 Tryd.underlying5 Tryd.underlying9 capb (OwnM.holds HO3.out)
      have hcv2 := conv_bytes (P := Tryd.prog) w3 22 9 5 Tryd.underlying22 Tryd.underlying5 Tryd.underlying9 capc (OwnM.holds hownc)
      have hspw := fun t => split_w numbers L t H1.out (by intro e; rw [e] at H0; exact absurd H0.out (by simp)) HS.out
      obtain ⟨T, hT⟩ : ∃ T : ByteArray, T = ⟨(wReq decDigits L).toArray⟩ := ⟨_, rfl⟩
      rw [← hT] at hcv1 hcv2
      have HSPW := Lib.hid hspw
      have hb3 := HB.out.keptNo HK3.out
      have HB3 := Lib.hid hb3
      have hsz1 := HK1.out.size
      clear hownc hT hspw hb3 HO
      obtain ⟨X, hX⟩ : ∃ X, X = wReq decDigits L := ⟨_, rfl⟩
      rw [← hX] at hcv1 hcv2 HO3 HSPW hlr hcb hcc ⊢
      clear hX HLX HW HRW
      go_wp2_with (go_at_call 10; refine (pcut _ b0 w3 HB3.out).mono ?_; rintro e w' ⟨u, rfl, hu, rfl, hub⟩; refine Hid.out ?_)
      have HU := Lib.hid hu
      have hul : (b0.take 300000).length ≤ 300000 := by rw [List.length_take]; omega
      obtain ⟨apu, cu, rfl, hcu, _⟩ := hu.parts
      clear hu hub HB3
      refine Lib.hid ?_
      go_wp2_with (at_builtin; refine wpList_appTB rfl _ _ rfl w1.heap.size _ X rfl HO3.out _ (b0.take 300000) rfl HU.out (by omega) (by omega) ?_; intro v4 w4 hown4 hg4; refine Hid.out ?_)
      have HK4 := Lib.hid (Kept.app HK3.out HO3.out hsz1 hg4)
      obtain ⟨S, hS⟩ : ∃ S, S = split parseV (X ++ b0.take 300000) := ⟨_, rfl⟩
      have hspl := psplit' v4 (X ++ b0.take 300000) w4 (HV.out.below HK4.out.toB) hown4.bytes (by rw [List.length_append]; omega) (fun k e => (OwnM.blk hown4 k e).2)
      obtain ⟨r, hr, hle⟩ := HSPW.out (b0.take 300000)
      rw [← hS] at hspl hr hle
      obtain ⟨S1, S2, S3⟩ := S
      simp only at hr hle hspl
      subst hr
      simp only [List.length_cons] at hspl
      obtain ⟨rn, hrn⟩ : ∃ rn, rn = r.length := ⟨_, rfl⟩
      rw [← hrn] at hspl
      have HSPL := Lib.hid hspl
      clear hS hspl hown4 hg4 HSPW HU hrn HO3
      refine Lib.hid ?_
      go_wp2_with fail
      refine HSPL.out.mono ?_
      rintro e w5 ⟨hk5, ap5, c5, rfl, hc5, hq5⟩
      have HK5 := Lib.hid (HK4.out.trans hk5)
      have hq6 := hq5.front 1 (by omega)
      rw [List.take_succ_cons, List.take_zero] at hq6
      have hsm := HSM.out w5 _ HK5.out (hq6.keptNo ((Kept.refl _ w5).alloc _))
      have HS5 := Lib.hid hsm
      clear hk5 hq5 hq6 hsm HSPL HSM
      have hle' : ¬ ((S2 : Int) < X.length) := by omega
      go_wp2_with (go_at_call 13; refine HS5.out.mono ?_; rintro e w6 ⟨rfl, q, rfl⟩)
      go_ret
      exact ⟨rfl, (HK5.out.alloc _).drewN q⟩

theorem law_back_all (ap : Option Addr) (n c : Nat) (t : Value) (L : List Bs) (b0 : Bs) (w : World) (hV : Vs w) (h : TextsV w (.slice ap n c) L) (hn : L.length = n) (hc : n ≤ c) (ht : BytesV w t b0) :
    Calls Tryd.prog 9 #[.slice ap n c, t] w fun e w' => e = .returned (.bool true) ∧ Kept NoBlock w w' := by
  have h63 := h.2
  by_cases h0 : n = 0
  · subst h0
    exact law_back_none ap c t w hV
  · by_cases h1 : n ≤ 1024
    · exact law_back _ t L b0 w hV h ht (by omega) (by omega)
    · exact law_back_many ap n c (by omega) hc (by omega) t w hV
end Go.Proofs.YtdfkdbdhaaiadaaDoor
