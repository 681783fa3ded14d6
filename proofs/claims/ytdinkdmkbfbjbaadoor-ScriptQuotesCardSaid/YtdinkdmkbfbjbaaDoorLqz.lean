/- Merged: Inputs cut; the law of quoted texts. -/
import Derived.Test.YtdinkdmkbfbjbaaDoorZAl
namespace Go.Proofs.YtdinkdmkbfbjbaaDoor
open Go.RowKit
attribute [local go_sem] fold_part fold_some fold_some' partAt_zero

theorem lcutB (v : Value) (b : Bs) (w : World) (h : BytesV w v b) : Calls Tryd.prog 7 #[v] w fun e w' => ∃ u, e = .returned u ∧ BytesV w u (b.take 2000) ∧ w = w' ∧ vblk u = vblk v := by
  obtain ⟨ap, cap, rfl, hc, _⟩ := h.parts
  have HB := Lib.hid h
  clear h
  by_cases hl : 2000 < b.length
  · generalize hn : b.length = n at *
    have HN := Lib.hid hn
    clear hn
    go_enter Tryd.func7, Tryd.ntmps7
    go_wp2
    go_ret
    exact ⟨_, rfl, HB.out.front 2000 (by omega), rfl, (vblk_slice ap 2000 cap).trans (vblk_slice ap n cap).symm⟩
  · generalize hn : b.length = n at *
    have HN := Lib.hid hn
    clear hn
    go_enter Tryd.func7, Tryd.ntmps7
    go_wp2
    go_ret
    exact ⟨_, rfl, by rw [List.take_of_length_le (by rw [HN.out]; omega)]; exact HB.out, rfl, rfl⟩

/-- The same, its value told. -/
theorem lcutV (ap : Option Addr) (cap : Nat) (b : Bs) (w : World) (hc : b.length ≤ cap) : Calls Tryd.prog 7 #[.slice ap b.length cap] w fun e w' => e = .returned (.slice ap (b.take 2000).length cap) ∧ w' = w := by
  by_cases hl : 2000 < b.length
  · have e1 : (b.take 2000).length = 2000 := by rw [List.length_take]; omega
    rw [e1]
    generalize hn : b.length = n at *
    clear hn e1
    go_enter Tryd.func7, Tryd.ntmps7
    go_wp2
    go_ret
    exact ⟨rfl, rfl⟩
  · have e1 : (b.take 2000).length = b.length := by rw [List.length_take]; omega
    rw [e1]
    generalize hn : b.length = n at *
    clear hn e1
    go_enter Tryd.func7, Tryd.ntmps7
    go_wp2
    go_ret
    exact ⟨rfl, rfl⟩

theorem lcutT (l : Bs) (w : World) : Calls Tryd.prog 8 #[.string ⟨l.toArray⟩] w fun e w' => e = .returned (.string ⟨(l.take 2000).toArray⟩) ∧ w = w' := by
  obtain ⟨S, hS⟩ : ∃ S : ByteArray, S = ⟨l.toArray⟩ := ⟨_, rfl⟩
  have hSz := str_size hS
  have hx : S.extract 0 2000 = ⟨(l.take 2000).toArray⟩ := by rw [hS]; exact str_take l 2000
  rw [← hS]
  by_cases hl : 2000 < S.size
  · have hlI : (2000 : Int) < (S.size : Int) := by omega
    have HX := Lib.hid hx
    clear hS hSz hx
    go_enter Tryd.func8, Tryd.ntmps8
    go_wp2
    go_ret
    exact ⟨congrArg (fun s => Ending.returned (Value.string s)) HX.out, rfl⟩
  · have hlI : ¬ ((2000 : Int) < (S.size : Int)) := by omega
    have ht : S = ⟨(l.take 2000).toArray⟩ := by rw [List.take_of_length_le (by omega)]; exact hS
    have HT := Lib.hid ht
    clear hS hSz hx ht
    go_enter Tryd.func8, Tryd.ntmps8
    go_wp2
    go_ret
    exact ⟨congrArg (fun s => Ending.returned (Value.string s)) HT.out, rfl⟩

theorem conv_of {w : World} {ap : Option Addr} {n cap : Nat} {l : Bs} (h : BytesV w (.slice ap n cap) l) : (convert 22 9 (.slice ap n cap)).run Tryd.prog w = .ok (.string ⟨l.toArray⟩) w :=
  conv_bytes w 22 9 5 Tryd.underlying22 Tryd.underlying5 Tryd.underlying9 cap (RowV.holds h).1

set_option maxRecDepth 100000 in
set_option maxHeartbeats 1600000 in
theorem law_quotes (v : Value) (b0 l0 : Bs) (w : World) (hV : Vs w) (hM : Mx w) (h : BytesV w v b0) :
    Calls Tryd.prog 3 #[v, .string ⟨l0.toArray⟩] w fun e w' => e = .returned (.bool true) ∧ Kept NoBlock w w' := by
  have cb := lcutB v b0 w h
  have ct := lcutT l0 w
  generalize hb : b0.take 2000 = b at *
  generalize hl : l0.take 2000 = l at *
  have hbl : b.length ≤ 2000 := by rw [← hb, List.length_take]; omega
  have hll : l.length ≤ 2000 := by rw [← hl, List.length_take]; omega
  have c1 := fun W => punq l (by omega) W
  have c2 := fun W => runq l (by omega) W
  have c3 := fun u W (h : BytesV W u b) => pquote u b W h (by omega)
  have c4 := fun u W (h : BytesV W u b) => rquote u b W h (by omega)
  have c5 := fun W (hk : Kept NoBlock w W) => lalive W (hV.below hk.toB) (hM.kept hk)
  obtain ⟨ap0, cap0, rfl, _, _⟩ := h.parts
  generalize (⟨l0.toArray⟩ : ByteArray) = S0 at *
  generalize (⟨l.toArray⟩ : ByteArray) = S at *
  generalize (⟨(quote b).toArray⟩ : ByteArray) = Q at *
  generalize b0.length = n0 at *
  generalize unq l = M at *
  have C1 := Lib.hid c1
  have C2 := Lib.hid c2
  have C3 := Lib.hid c3
  have C4 := Lib.hid c4
  have C5 := Lib.hid c5
  have CB := Lib.hid cb
  have CT := Lib.hid ct
  clear c1 c2 c3 c4 c5 cb ct hb hl hbl hll hV hM h
  go_enter Tryd.func3, Tryd.ntmps3
  go_wp2_with fail
  refine CB.out.mono ?_
  rintro e w1 ⟨u, rfl, hu, rfl, _⟩
  have HU := Lib.hid hu
  obtain ⟨ap1, cap1, rfl, _⟩ := hu.parts
  clear hu
  go_wp2_with fail
  refine CT.out.mono ?_
  rintro e w1 ⟨rfl, rfl⟩
  go_wp2_with fail
  refine (C1.out _).mono ?_
  rintro e w1 ⟨hk1, he1⟩
  have HK1 := Lib.hid hk1
  clear hk1
  cases M with
  | error n =>
    obtain rfl := he1
    go_wp2_with fail
    refine (C2.out _).mono ?_
    rintro e w2 ⟨hk2, rfl⟩
    have HK2 := Lib.hid (HK1.out.trans hk2)
    clear hk2
    go_wp2_with fail
    refine (C3.out _ _ (HU.out.keptNo HK2.out)).mono ?_
    rintro e w3 ⟨rfl, hk3⟩
    have HK3 := Lib.hid (HK2.out.trans hk3)
    clear hk3
    go_wp2_with fail
    refine (C4.out _ _ (HU.out.keptNo HK3.out)).mono ?_
    rintro e w4 ⟨rfl, hk4⟩
    have HK4 := Lib.hid (HK3.out.trans hk4)
    clear hk4
    have e1 := conv_of (BytesV.nil w4)
    go_wp2_with fail
    refine (C5.out _ HK4.out).mono ?_
    rintro e w5 ⟨rfl, hk5⟩
    clear e1
    go_wp2_with fail
    go_ret
    exact ⟨rfl, HK4.out.trans hk5⟩
  | ok x =>
    obtain ⟨v1, rfl, ho1⟩ := he1
    obtain ⟨ap3, cap3, rfl, _⟩ := ho1.bytes.parts
    have HO1 := Lib.hid ho1
    clear ho1
    go_wp2_with fail
    refine (C2.out _).mono ?_
    rintro e w2 ⟨hk2, v2, rfl, ho2⟩
    obtain ⟨ap4, cap4, rfl, _⟩ := ho2.bytes.parts
    have HO2 := Lib.hid ho2
    have HO1b := Lib.hid (HO1.out.kept hk2)
    have HK2 := Lib.hid (HK1.out.trans hk2)
    clear hk2 ho2
    go_wp2_with fail
    refine (C3.out _ _ (HU.out.keptNo HK2.out)).mono ?_
    rintro e w3 ⟨rfl, hk3⟩
    have HO1c := Lib.hid (HO1b.out.kept hk3)
    have HO2c := Lib.hid (HO2.out.kept hk3)
    have HK3 := Lib.hid (HK2.out.trans hk3)
    clear hk3
    go_wp2_with fail
    refine (C4.out _ _ (HU.out.keptNo HK3.out)).mono ?_
    rintro e w4 ⟨rfl, hk4⟩
    have hb1 := (HO1c.out.kept hk4).bytes
    have hb2 := (HO2c.out.kept hk4).bytes
    have HK4 := Lib.hid (HK3.out.trans hk4)
    clear hk4
    have e1 := conv_of hb1
    have e2 := conv_of hb2
    generalize (⟨x.toArray⟩ : ByteArray) = X at *
    clear hb1 hb2 HO1 HO1b HO1c HO2 HO2c C1 C2
    generalize x.length = m at *
    go_wp2_with fail
    refine (C5.out _ HK4.out).mono ?_
    rintro e w5 ⟨rfl, hk5⟩
    clear e1 e2
    go_wp2_with fail
    go_ret
    exact ⟨rfl, HK4.out.trans hk5⟩
end Go.Proofs.YtdinkdmkbfbjbaaDoor
